/- The law FnCellsMeet (part 7 of 7): for every input the call answers true and its arguments read afterwards as before. No condition beyond the row's own. -/
import Derived.Deep.Slices
import Derived.Deep.Fields
import Derived.ChangeSame
import Derived.ProofKit
import Derived.WideShapes
import Derived.RowKit
import Derived.Laws.BitsLemmas
import Derived.Test.YtbhgkpfbggkgdaaRows
import Derived.WalkKit
import Derived.OpenShut
import Derived.ShutString
import Derived.ChangeOld
import Derived.Below
import Derived.SizedLaws
import Derived.Test.YtbhgkpfbggkgdaaCFnCellsMeet6
namespace Go.Proofs.Ytbhgkpfbggkgdaa.Q
open Go.RowKit Go.Proofs.YtbhgkpfbggkgdaaW.PrintWords Go.Proofs.YtbhgkpfbggkgdaaW.PrintLast Go.Proofs.YtbhgkpfbggkgdaaW.PrintMore
attribute [local go_sem] e8z e6z f5z f4z e1z e0z e7z e5z
set_option linter.unusedVariables false
set_option linter.unusedSimpArgs false
def laws_FnCellsMeet.j0 : Nat → Bool → Bool → Int → Int → Int → Int → Int → Int → Int → Int → Int → Int → Int → Int → Int → Int → Option (Bool)
 | 0, _, _, _, _, _, _, _, _, _, _, _, _, _, _, _, _ => none
 | k + 1, x5, x31, x116000, x116001, x116002, x116003, x116004, x116005, x116006, x117000, x117001, x117002, x117003, x117004, x117005, x117006 => if x31 = true then (some false) else ((laws_ovMore.f x116000 x117000).bind fun t120 => ((laws_ovMore.f x116002 x117002).bind fun t121 => ((laws_ovMore.f x116004 x117004).bind fun t122 => ((impl_CellsFind.f k (([(⟨x116000, x116001, x116002, x116003, x116004, x116005, 1⟩ : S67)] : List (S67))) t120 t121 t122).bind fun t127 => ((impl_CellsFind.f k (([(⟨x117000, x117001, x117002, x117003, x117004, x117005, 1⟩ : S67)] : List (S67))) t120 t121 t122).bind fun t131 => (if t127 = 1 then (some (x5 == (t131 == 1))) else (some (x5 == false))))))))
def laws_FnCellsMeet.f (k : Nat) (l0 : List Int) : Option (Bool) := if (l0.length : Int) > 1048576 then (some true) else ((spec_DrawCellsMeet.f k l0).bind fun bt101 => ((impl_CellsMeet.f bt101.1 bt101.2.1 bt101.2.2.1 bt101.2.2.2.1 bt101.2.2.2.2.1 bt101.2.2.2.2.2.1 bt101.2.2.2.2.2.2.1 bt101.2.2.2.2.2.2.2.1 bt101.2.2.2.2.2.2.2.2.1 bt101.2.2.2.2.2.2.2.2.2.1 bt101.2.2.2.2.2.2.2.2.2.2.1 bt101.2.2.2.2.2.2.2.2.2.2.2.1 bt101.2.2.2.2.2.2.2.2.2.2.2.2.1 bt101.2.2.2.2.2.2.2.2.2.2.2.2.2).bind fun t117 => ((spec_CellsMeet.f bt101.1 bt101.2.1 bt101.2.2.1 bt101.2.2.2.1 bt101.2.2.2.2.1 bt101.2.2.2.2.2.1 bt101.2.2.2.2.2.2.1 bt101.2.2.2.2.2.2.2.1 bt101.2.2.2.2.2.2.2.2.1 bt101.2.2.2.2.2.2.2.2.2.1 bt101.2.2.2.2.2.2.2.2.2.2.1 bt101.2.2.2.2.2.2.2.2.2.2.2.1 bt101.2.2.2.2.2.2.2.2.2.2.2.2.1 bt101.2.2.2.2.2.2.2.2.2.2.2.2.2).bind fun t118 => (if (t117 != t118) = true then (laws_FnCellsMeet.j0 k t117 true bt101.1 bt101.2.1 bt101.2.2.1 bt101.2.2.2.1 bt101.2.2.2.2.1 bt101.2.2.2.2.2.1 bt101.2.2.2.2.2.2.1 bt101.2.2.2.2.2.2.2.1 bt101.2.2.2.2.2.2.2.2.1 bt101.2.2.2.2.2.2.2.2.2.1 bt101.2.2.2.2.2.2.2.2.2.2.1 bt101.2.2.2.2.2.2.2.2.2.2.2.1 bt101.2.2.2.2.2.2.2.2.2.2.2.2.1 bt101.2.2.2.2.2.2.2.2.2.2.2.2.2) else ((impl_CellsMeet.f bt101.2.2.2.2.2.2.2.1 bt101.2.2.2.2.2.2.2.2.1 bt101.2.2.2.2.2.2.2.2.2.1 bt101.2.2.2.2.2.2.2.2.2.2.1 bt101.2.2.2.2.2.2.2.2.2.2.2.1 bt101.2.2.2.2.2.2.2.2.2.2.2.2.1 bt101.2.2.2.2.2.2.2.2.2.2.2.2.2 bt101.1 bt101.2.1 bt101.2.2.1 bt101.2.2.2.1 bt101.2.2.2.2.1 bt101.2.2.2.2.2.1 bt101.2.2.2.2.2.2.1).bind fun t119 => (laws_FnCellsMeet.j0 k t117 (t119 != t117) bt101.1 bt101.2.1 bt101.2.2.1 bt101.2.2.2.1 bt101.2.2.2.2.1 bt101.2.2.2.2.2.1 bt101.2.2.2.2.2.2.1 bt101.2.2.2.2.2.2.2.1 bt101.2.2.2.2.2.2.2.2.1 bt101.2.2.2.2.2.2.2.2.2.1 bt101.2.2.2.2.2.2.2.2.2.2.1 bt101.2.2.2.2.2.2.2.2.2.2.2.1 bt101.2.2.2.2.2.2.2.2.2.2.2.2.1 bt101.2.2.2.2.2.2.2.2.2.2.2.2.2))))))
def laws_FnCellsMeet.T7 : Bool × List (List Nat × List Nat) := (true, [([], []), ([0], [0]), ([], []), ([2], [2]), ([1, 3], [1, 3]), ([], []), ([5], [5]), ([], []), ([7], [7]), ([6, 8, 4], [6, 8]), ([], []), ([10], [10]), ([], []), ([12], [12]), ([11, 13, 9], [11, 13]), ([4, 9, 14], [4, 9, 14]), ([], []), ([16, 15, 14, 0, 1, 2, 3, 4, 5, 6, 7, 8, 9, 10, 11, 12, 13, 14, 15, 16], [15, 16])])
def laws_FnCellsMeet.B7 : List Nat := [0, 1, 0, 4, 15, 0, 32, 0, 128, 511, 0, 1024, 0, 4096, 16383, 32767, 0, 131071]
theorem laws_FnCellsMeet.tab7 : rtab .any (opsOf Try.f9 7) = laws_FnCellsMeet.T7 := by kernel_rfl
theorem laws_FnCellsMeet.bits7 : waitsOk laws_FnCellsMeet.T7.2 laws_FnCellsMeet.B7 = true := by kernel_rfl
set_option maxHeartbeats 8000000 in
set_option maxRecDepth 100000 in
theorem laws_FnCellsMeet.calls (k : Nat) (A0 : Option Addr) (c0 : Nat) (l0 : List Int) (r : Bool) (w : World) (hr0 : Kd.C (Kd.int .u8) w A0 l0.length l0) (hc0 : l0.length ≤ c0) (h : laws_FnCellsMeet.f k l0 = some r) :
  Calls Try.prog 9 #[.slice A0 l0.length c0] w fun e w' => e = .returned (.bool r) ∧ Below w.heap.size w w' := by
 have hu67 := Try.underlying67
 have hu36 := Try.underlying36
 have HR0 := a1z.mk hr0
 have HC0 := a1z.mk hc0
 clear hr0 hc0
 have HB := a1z.mk (Below.refl w.heap.size w)
 have H : (if (l0.length : Int) > 1048576 then (some true) else ((spec_DrawCellsMeet.f k l0).bind fun bt101 => ((impl_CellsMeet.f bt101.1 bt101.2.1 bt101.2.2.1 bt101.2.2.2.1 bt101.2.2.2.2.1 bt101.2.2.2.2.2.1 bt101.2.2.2.2.2.2.1 bt101.2.2.2.2.2.2.2.1 bt101.2.2.2.2.2.2.2.2.1 bt101.2.2.2.2.2.2.2.2.2.1 bt101.2.2.2.2.2.2.2.2.2.2.1 bt101.2.2.2.2.2.2.2.2.2.2.2.1 bt101.2.2.2.2.2.2.2.2.2.2.2.2.1 bt101.2.2.2.2.2.2.2.2.2.2.2.2.2).bind fun t117 => ((spec_CellsMeet.f bt101.1 bt101.2.1 bt101.2.2.1 bt101.2.2.2.1 bt101.2.2.2.2.1 bt101.2.2.2.2.2.1 bt101.2.2.2.2.2.2.1 bt101.2.2.2.2.2.2.2.1 bt101.2.2.2.2.2.2.2.2.1 bt101.2.2.2.2.2.2.2.2.2.1 bt101.2.2.2.2.2.2.2.2.2.2.1 bt101.2.2.2.2.2.2.2.2.2.2.2.1 bt101.2.2.2.2.2.2.2.2.2.2.2.2.1 bt101.2.2.2.2.2.2.2.2.2.2.2.2.2).bind fun t118 => (if (t117 != t118) = true then (laws_FnCellsMeet.j0 k t117 true bt101.1 bt101.2.1 bt101.2.2.1 bt101.2.2.2.1 bt101.2.2.2.2.1 bt101.2.2.2.2.2.1 bt101.2.2.2.2.2.2.1 bt101.2.2.2.2.2.2.2.1 bt101.2.2.2.2.2.2.2.2.1 bt101.2.2.2.2.2.2.2.2.2.1 bt101.2.2.2.2.2.2.2.2.2.2.1 bt101.2.2.2.2.2.2.2.2.2.2.2.1 bt101.2.2.2.2.2.2.2.2.2.2.2.2.1 bt101.2.2.2.2.2.2.2.2.2.2.2.2.2) else ((impl_CellsMeet.f bt101.2.2.2.2.2.2.2.1 bt101.2.2.2.2.2.2.2.2.1 bt101.2.2.2.2.2.2.2.2.2.1 bt101.2.2.2.2.2.2.2.2.2.2.1 bt101.2.2.2.2.2.2.2.2.2.2.2.1 bt101.2.2.2.2.2.2.2.2.2.2.2.2.1 bt101.2.2.2.2.2.2.2.2.2.2.2.2.2 bt101.1 bt101.2.1 bt101.2.2.1 bt101.2.2.2.1 bt101.2.2.2.2.1 bt101.2.2.2.2.2.1 bt101.2.2.2.2.2.2.1).bind fun t119 => (laws_FnCellsMeet.j0 k t117 (t119 != t117) bt101.1 bt101.2.1 bt101.2.2.1 bt101.2.2.2.1 bt101.2.2.2.2.1 bt101.2.2.2.2.2.1 bt101.2.2.2.2.2.2.1 bt101.2.2.2.2.2.2.2.1 bt101.2.2.2.2.2.2.2.2.1 bt101.2.2.2.2.2.2.2.2.2.1 bt101.2.2.2.2.2.2.2.2.2.2.1 bt101.2.2.2.2.2.2.2.2.2.2.2.1 bt101.2.2.2.2.2.2.2.2.2.2.2.2.1 bt101.2.2.2.2.2.2.2.2.2.2.2.2.2))))))) = some r := h
 clear h
 by_cases c2 : (l0.length : Int) > 1048576
 ·rw [if_pos c2] at H
  have c2b0 : decide (1048576 < (l0.length : Int)) = true := decide_eq_true c2
  have c2b1 : decide (1048576 < l0.length) = true := decide_eq_true (by omega)
  clear c2
  obtain rfl := Option.some.inj H
  go_enter Try.func9, Try.ntmps9
  go_wp2
  go_ret
  exact ⟨by first | rfl | (simp [c2z, c1z] <;> rfl) | (simp [*, c2z, c1z] <;> rfl), by repeat (first | (with_reducible first | exact HB.1 | apply a5z | apply a2z | apply a4z) | exact HB.1)⟩
 ·rw [if_neg c2] at H
  have c2b0 : decide (1048576 < (l0.length : Int)) = false := decide_eq_false c2
  have c2b1 : decide (1048576 < l0.length) = false := decide_eq_false (by omega)
  clear c2
  replace H := Option.bind_eq_some_iff.mp H
  obtain ⟨⟨t101, t102, t103, t104, t105, t106, t107, t108, t109, t110, t111, t112, t113, t114⟩, A30, H⟩ := H
  replace H : ((impl_CellsMeet.f t101 t102 t103 t104 t105 t106 t107 t108 t109 t110 t111 t112 t113 t114).bind fun t117 => ((spec_CellsMeet.f t101 t102 t103 t104 t105 t106 t107 t108 t109 t110 t111 t112 t113 t114).bind fun t118 => (if (t117 != t118) = true then (laws_FnCellsMeet.j0 k t117 true t101 t102 t103 t104 t105 t106 t107 t108 t109 t110 t111 t112 t113 t114) else ((impl_CellsMeet.f t108 t109 t110 t111 t112 t113 t114 t101 t102 t103 t104 t105 t106 t107).bind fun t119 => (laws_FnCellsMeet.j0 k t117 (t119 != t117) t101 t102 t103 t104 t105 t106 t107 t108 t109 t110 t111 t112 t113 t114))))) = some r := H
  have A3 := a1z.mk A30
  clear A30
  replace H := Option.bind_eq_some_iff.mp H
  obtain ⟨t117, A40, H⟩ := H
  replace H : ((spec_CellsMeet.f t101 t102 t103 t104 t105 t106 t107 t108 t109 t110 t111 t112 t113 t114).bind fun t118 => (if (t117 != t118) = true then (laws_FnCellsMeet.j0 k t117 true t101 t102 t103 t104 t105 t106 t107 t108 t109 t110 t111 t112 t113 t114) else ((impl_CellsMeet.f t108 t109 t110 t111 t112 t113 t114 t101 t102 t103 t104 t105 t106 t107).bind fun t119 => (laws_FnCellsMeet.j0 k t117 (t119 != t117) t101 t102 t103 t104 t105 t106 t107 t108 t109 t110 t111 t112 t113 t114)))) = some r := H
  have A4 := a1z.mk A40
  clear A40
  have HC5 := a1z.mk H
  clear H
  go_enter Try.func9, Try.ntmps9
  go_upto_region 5 with (first | ((with_reducible refine c5z (f := 45) rfl ?_); refine d5z (some 14) rfl rfl Try.func45 (by kernel_rfl) rfl #[.slice A0 l0.length c0] rfl (by (try simp only [List.map_toArray, List.map_cons, List.map_nil]); first | done | rfl | (simp only [List.length_drop, List.length_take]; rfl)) ?_; (with_reducible refine (spec_DrawCellsMeet.calls k _ _ l0 t101 t102 t103 t104 t105 t106 t107 t108 t109 t110 t111 t112 t113 t114 _ ?side1 ?side2 A3.1).mono ?_); (case side1 => repeat (first | exact HR0.1 | (with_reducible refine Kd.C_alloc ?_ _) | (with_reducible refine Kd.C_drewN ?_ _) | (with_reducible refine Kd.C_drew ?_))); (case side2 => exact HC0.1); rintro e w6 ⟨rfl, hb⟩; refine ⟨_, rfl, ?_⟩; have n0_ := a1z.mk (b7z (by repeat (first | (with_reducible first | exact HB.1 | apply a5z | apply a2z | apply a4z) | exact HB.1)) hb); clear HB; have HB := n0_; clear n0_; (try clear hb); (try clear hb2); (try clear hk); (try clear hi)) | ((with_reducible refine d1z (N := 3) rfl ?_); refine d3z ?hg (N := 3) ?hd (cs := #[.int .i64 0, .int .i64 0, .int .i64 0, .int .i64 0, .int .i64 0, .int .i64 0, .int .i64 0]) (t := 67) ?hr ?_; (case hd => rfl); (case hg => rfl); (case hr => first | (go_simp; done) | (go_simp; rfl)); intro gb115 hg w7 hbox hb; have n0_ := a1z.mk (b7z (by repeat (first | (with_reducible first | exact HB.1 | apply a5z | apply a2z | apply a4z) | exact HB.1)) hb); have n1_ := a1z.mk (hbox); have n2_ := a1z.mk ((by rw [hg]; exact (b5z (by repeat (first | (with_reducible first | exact HB.1 | apply a5z | apply a2z | apply a4z) | exact HB.1))) : w.heap.size ≤ gb115)); have n3_ := a1z.mk ((by rw [hg]; exact (b5z (by repeat (first | (with_reducible first | exact HB.1 | apply a5z | apply a2z | apply a4z) | exact HB.1))) : w.heap.size ≤ gb115)); clear HB; have HB := n0_; have BK115 := n1_; have GW115 := n2_; have GE115 := n3_; clear n0_ n1_ n2_ n3_; clear hb hbox hg) | ((with_reducible refine d1z (N := 4) rfl ?_); refine d3z ?hg (N := 4) ?hd (cs := #[.int .i64 0, .int .i64 0, .int .i64 0, .int .i64 0, .int .i64 0, .int .i64 0, .int .i64 0]) (t := 67) ?hr ?_; (case hd => rfl); (case hg => rfl); (case hr => first | (go_simp; done) | (go_simp; rfl)); intro gb116 hg w8 hbox hb; have n0_ := a1z.mk (c4z (g := gb115) (o := .cells #[.int .i64 0, .int .i64 0, .int .i64 0, .int .i64 0, .int .i64 0, .int .i64 0, .int .i64 0] 67 (0, 0)) (by (with_reducible repeat (first | refine a7z ?_ _ | refine a8z ?_ | refine blk_alloc ?_ _)); exact BK115.1) hb); have n1_ := a1z.mk (b7z (by repeat (first | (with_reducible first | exact HB.1 | apply a5z | apply a2z | apply a4z | refine a9z ?_ GE115.1) | exact HB.1)) hb); have n2_ := a1z.mk (hbox); have n3_ := a1z.mk ((by rw [hg]; exact (b5z (by repeat (first | (with_reducible first | exact HB.1 | apply a5z | apply a2z | apply a4z | refine a9z ?_ GE115.1) | exact HB.1))) : w.heap.size ≤ gb116)); have n4_ := a1z.mk ((by rw [hg]; exact (b5z (by repeat (first | (with_reducible first | exact HB.1 | apply a5z | apply a2z | apply a4z | refine a9z ?_ GE115.1) | exact HB.1))) : w.heap.size ≤ gb116)); have n5_ := a1z.mk ((by rw [hg]; exact Nat.ne_of_lt (d9z (g := gb115) (o := .cells #[.int .i64 0, .int .i64 0, .int .i64 0, .int .i64 0, .int .i64 0, .int .i64 0, .int .i64 0] 67 (0, 0)) (by (with_reducible repeat (first | refine a7z ?_ _ | refine a8z ?_ | refine blk_alloc ?_ _)); exact BK115.1)) : gb115 ≠ gb116)); have n6_ := a1z.mk ((by rw [hg]; exact Nat.ne_of_gt (d9z (g := gb115) (o := .cells #[.int .i64 0, .int .i64 0, .int .i64 0, .int .i64 0, .int .i64 0, .int .i64 0, .int .i64 0] 67 (0, 0)) (by (with_reducible repeat (first | refine a7z ?_ _ | refine a8z ?_ | refine blk_alloc ?_ _)); exact BK115.1)) : gb116 ≠ gb115)); clear BK115; clear HB; have BK115 := n0_; have HB := n1_; have BK116 := n2_; have GW116 := n3_; have GE116 := n4_; have NB115_116 := n5_; have NB116_115 := n6_; clear n0_ n1_ n2_ n3_ n4_ n5_ n6_; clear hb hbox hg; have hnb9 := NB115_116.1; have hnc9 := NB116_115.1; have hcz10_0 : w8.cell? ⟨gb115, 0, none⟩ = some (.int .i64 0) := (a0z BK115.1 0).trans rfl; have hcz10_1 : w8.cell? ⟨gb115, 1, none⟩ = some (.int .i64 0) := (a0z BK115.1 1).trans rfl; have hcz10_2 : w8.cell? ⟨gb115, 2, none⟩ = some (.int .i64 0) := (a0z BK115.1 2).trans rfl; have hcz10_3 : w8.cell? ⟨gb115, 3, none⟩ = some (.int .i64 0) := (a0z BK115.1 3).trans rfl; have hcz10_4 : w8.cell? ⟨gb115, 4, none⟩ = some (.int .i64 0) := (a0z BK115.1 4).trans rfl; have hcz10_5 : w8.cell? ⟨gb115, 5, none⟩ = some (.int .i64 0) := (a0z BK115.1 5).trans rfl; have hcz10_6 : w8.cell? ⟨gb115, 6, none⟩ = some (.int .i64 0) := (a0z BK115.1 6).trans rfl; have hfz10_0 := a3z BK115.1 0; have hfz10_1 := a3z BK115.1 1; have hfz10_2 := a3z BK115.1 2; have hfz10_3 := a3z BK115.1 3; have hfz10_4 := a3z BK115.1 4; have hfz10_5 := a3z BK115.1 5; have hfz10_6 := a3z BK115.1 6; have hcz11_0 : w8.cell? ⟨gb116, 0, none⟩ = some (.int .i64 0) := (a0z BK116.1 0).trans rfl; have hcz11_1 : w8.cell? ⟨gb116, 1, none⟩ = some (.int .i64 0) := (a0z BK116.1 1).trans rfl; have hcz11_2 : w8.cell? ⟨gb116, 2, none⟩ = some (.int .i64 0) := (a0z BK116.1 2).trans rfl; have hcz11_3 : w8.cell? ⟨gb116, 3, none⟩ = some (.int .i64 0) := (a0z BK116.1 3).trans rfl; have hcz11_4 : w8.cell? ⟨gb116, 4, none⟩ = some (.int .i64 0) := (a0z BK116.1 4).trans rfl; have hcz11_5 : w8.cell? ⟨gb116, 5, none⟩ = some (.int .i64 0) := (a0z BK116.1 5).trans rfl; have hcz11_6 : w8.cell? ⟨gb116, 6, none⟩ = some (.int .i64 0) := (a0z BK116.1 6).trans rfl; have hfz11_0 := a3z BK116.1 0; have hfz11_1 := a3z BK116.1 1; have hfz11_2 := a3z BK116.1 2; have hfz11_3 := a3z BK116.1 3; have hfz11_4 := a3z BK116.1 4; have hfz11_5 := a3z BK116.1 5; have hfz11_6 := a3z BK116.1 6) | ((with_reducible refine c5z (f := 46) rfl ?_); refine d5z (some 19) rfl rfl Try.func46 (by kernel_rfl) rfl #[.agg #[.int .i64 t101, .int .i64 t102, .int .i64 t103, .int .i64 t104, .int .i64 t105, .int .i64 t106, .int .i64 t107], .agg #[.int .i64 t108, .int .i64 t109, .int .i64 t110, .int .i64 t111, .int .i64 t112, .int .i64 t113, .int .i64 t114]] rfl (by (try simp only [List.map_toArray, List.map_cons, List.map_nil]); first | done | rfl | (simp only [List.length_drop, List.length_take]; rfl)) ?_; (with_reducible refine (impl_CellsMeet.calls t101 t102 t103 t104 t105 t106 t107 t108 t109 t110 t111 t112 t113 t114 t117 _ A4.1).mono ?_); rintro e w12 ⟨rfl, hb⟩; refine ⟨_, rfl, ?_⟩; have n0_ := a1z.mk (c4z (g := gb115) (o := .cells #[.int .i64 t101, .int .i64 t102, .int .i64 t103, .int .i64 t104, .int .i64 t105, .int .i64 t106, .int .i64 t107] 67 (0, 0)) (by (with_reducible repeat (first | refine a7z ?_ _ | refine a8z ?_ | refine blk_alloc ?_ _)); refine c8z ?_ NB115_116.1 _; (with_reducible repeat (first | refine a7z ?_ _ | refine a8z ?_ | refine blk_alloc ?_ _)); refine c8z ?_ NB115_116.1 _; (with_reducible repeat (first | refine a7z ?_ _ | refine a8z ?_ | refine blk_alloc ?_ _)); refine c8z ?_ NB115_116.1 _; (with_reducible repeat (first | refine a7z ?_ _ | refine a8z ?_ | refine blk_alloc ?_ _)); refine c8z ?_ NB115_116.1 _; (with_reducible repeat (first | refine a7z ?_ _ | refine a8z ?_ | refine blk_alloc ?_ _)); refine c8z ?_ NB115_116.1 _; (with_reducible repeat (first | refine a7z ?_ _ | refine a8z ?_ | refine blk_alloc ?_ _)); refine c8z ?_ NB115_116.1 _; (with_reducible repeat (first | refine a7z ?_ _ | refine a8z ?_ | refine blk_alloc ?_ _)); refine c8z ?_ NB115_116.1 _; (with_reducible repeat (first | refine a7z ?_ _ | refine a8z ?_ | refine blk_alloc ?_ _)); refine d0z (cs := #[.int .i64 t101, .int .i64 t102, .int .i64 t103, .int .i64 t104, .int .i64 t105, .int .i64 t106, .int .i64 0]) ?_ 6 _ rfl; (with_reducible repeat (first | refine a7z ?_ _ | refine a8z ?_ | refine blk_alloc ?_ _)); refine d0z (cs := #[.int .i64 t101, .int .i64 t102, .int .i64 t103, .int .i64 t104, .int .i64 t105, .int .i64 0, .int .i64 0]) ?_ 5 _ rfl; (with_reducible repeat (first | refine a7z ?_ _ | refine a8z ?_ | refine blk_alloc ?_ _)); refine d0z (cs := #[.int .i64 t101, .int .i64 t102, .int .i64 t103, .int .i64 t104, .int .i64 0, .int .i64 0, .int .i64 0]) ?_ 4 _ rfl; (with_reducible repeat (first | refine a7z ?_ _ | refine a8z ?_ | refine blk_alloc ?_ _)); refine d0z (cs := #[.int .i64 t101, .int .i64 t102, .int .i64 t103, .int .i64 0, .int .i64 0, .int .i64 0, .int .i64 0]) ?_ 3 _ rfl; (with_reducible repeat (first | refine a7z ?_ _ | refine a8z ?_ | refine blk_alloc ?_ _)); refine d0z (cs := #[.int .i64 t101, .int .i64 t102, .int .i64 0, .int .i64 0, .int .i64 0, .int .i64 0, .int .i64 0]) ?_ 2 _ rfl; (with_reducible repeat (first | refine a7z ?_ _ | refine a8z ?_ | refine blk_alloc ?_ _)); refine d0z (cs := #[.int .i64 t101, .int .i64 0, .int .i64 0, .int .i64 0, .int .i64 0, .int .i64 0, .int .i64 0]) ?_ 1 _ rfl; (with_reducible repeat (first | refine a7z ?_ _ | refine a8z ?_ | refine blk_alloc ?_ _)); refine d0z (cs := #[.int .i64 0, .int .i64 0, .int .i64 0, .int .i64 0, .int .i64 0, .int .i64 0, .int .i64 0]) ?_ 0 _ rfl; (with_reducible repeat (first | refine a7z ?_ _ | refine a8z ?_ | refine blk_alloc ?_ _)); exact BK115.1) hb); have n1_ := a1z.mk (c4z (g := gb116) (o := .cells #[.int .i64 t108, .int .i64 t109, .int .i64 t110, .int .i64 t111, .int .i64 t112, .int .i64 t113, .int .i64 t114] 67 (0, 0)) (by (with_reducible repeat (first | refine a7z ?_ _ | refine a8z ?_ | refine blk_alloc ?_ _)); refine d0z (cs := #[.int .i64 t108, .int .i64 t109, .int .i64 t110, .int .i64 t111, .int .i64 t112, .int .i64 t113, .int .i64 0]) ?_ 6 _ rfl; (with_reducible repeat (first | refine a7z ?_ _ | refine a8z ?_ | refine blk_alloc ?_ _)); refine d0z (cs := #[.int .i64 t108, .int .i64 t109, .int .i64 t110, .int .i64 t111, .int .i64 t112, .int .i64 0, .int .i64 0]) ?_ 5 _ rfl; (with_reducible repeat (first | refine a7z ?_ _ | refine a8z ?_ | refine blk_alloc ?_ _)); refine d0z (cs := #[.int .i64 t108, .int .i64 t109, .int .i64 t110, .int .i64 t111, .int .i64 0, .int .i64 0, .int .i64 0]) ?_ 4 _ rfl; (with_reducible repeat (first | refine a7z ?_ _ | refine a8z ?_ | refine blk_alloc ?_ _)); refine d0z (cs := #[.int .i64 t108, .int .i64 t109, .int .i64 t110, .int .i64 0, .int .i64 0, .int .i64 0, .int .i64 0]) ?_ 3 _ rfl; (with_reducible repeat (first | refine a7z ?_ _ | refine a8z ?_ | refine blk_alloc ?_ _)); refine d0z (cs := #[.int .i64 t108, .int .i64 t109, .int .i64 0, .int .i64 0, .int .i64 0, .int .i64 0, .int .i64 0]) ?_ 2 _ rfl; (with_reducible repeat (first | refine a7z ?_ _ | refine a8z ?_ | refine blk_alloc ?_ _)); refine d0z (cs := #[.int .i64 t108, .int .i64 0, .int .i64 0, .int .i64 0, .int .i64 0, .int .i64 0, .int .i64 0]) ?_ 1 _ rfl; (with_reducible repeat (first | refine a7z ?_ _ | refine a8z ?_ | refine blk_alloc ?_ _)); refine d0z (cs := #[.int .i64 0, .int .i64 0, .int .i64 0, .int .i64 0, .int .i64 0, .int .i64 0, .int .i64 0]) ?_ 0 _ rfl; (with_reducible repeat (first | refine a7z ?_ _ | refine a8z ?_ | refine blk_alloc ?_ _)); refine c8z ?_ NB116_115.1 _; (with_reducible repeat (first | refine a7z ?_ _ | refine a8z ?_ | refine blk_alloc ?_ _)); refine c8z ?_ NB116_115.1 _; (with_reducible repeat (first | refine a7z ?_ _ | refine a8z ?_ | refine blk_alloc ?_ _)); refine c8z ?_ NB116_115.1 _; (with_reducible repeat (first | refine a7z ?_ _ | refine a8z ?_ | refine blk_alloc ?_ _)); refine c8z ?_ NB116_115.1 _; (with_reducible repeat (first | refine a7z ?_ _ | refine a8z ?_ | refine blk_alloc ?_ _)); refine c8z ?_ NB116_115.1 _; (with_reducible repeat (first | refine a7z ?_ _ | refine a8z ?_ | refine blk_alloc ?_ _)); refine c8z ?_ NB116_115.1 _; (with_reducible repeat (first | refine a7z ?_ _ | refine a8z ?_ | refine blk_alloc ?_ _)); refine c8z ?_ NB116_115.1 _; (with_reducible repeat (first | refine a7z ?_ _ | refine a8z ?_ | refine blk_alloc ?_ _)); exact BK116.1) hb); have n2_ := a1z.mk (b7z (by repeat (first | (with_reducible first | exact HB.1 | apply a5z | apply a2z | apply a4z | refine a9z ?_ GE115.1 | refine a9z ?_ GE116.1) | exact HB.1)) hb); clear BK115; clear BK116; clear HB; have BK115 := n0_; have BK116 := n1_; have HB := n2_; clear n0_ n1_ n2_; (try clear hb); (try clear hb2); (try clear hk); (try clear hi)))
  (try simp only [Act.put, sA_, sZ_, sS_])
  go_cut [31] (fun v31 wc => ∃ (kq : Nat) (x31_4 : Bool), v31 = .bool x31_4 ∧ a1z (laws_FnCellsMeet.j0 kq t117 x31_4 t101 t102 t103 t104 t105 t106 t107 t108 t109 t110 t111 t112 t113 t114 = some r) ∧ a1z (kq ≤ k) ∧ a1z (wc.heap[gb115]? = some (.cells #[.int .i64 t101, .int .i64 t102, .int .i64 t103, .int .i64 t104, .int .i64 t105, .int .i64 t106, .int .i64 t107] 67 (0, 0))) ∧ a1z (wc.heap[gb116]? = some (.cells #[.int .i64 t108, .int .i64 t109, .int .i64 t110, .int .i64 t111, .int .i64 t112, .int .i64 t113, .int .i64 t114] 67 (0, 0))) ∧ a1z (Below w.heap.size w wc))
  case first =>
   have H := HC5.1
   clear HC5
   replace H := Option.bind_eq_some_iff.mp H
   obtain ⟨t118, A130, H⟩ := H
   replace H : (if (t117 != t118) = true then (laws_FnCellsMeet.j0 k t117 true t101 t102 t103 t104 t105 t106 t107 t108 t109 t110 t111 t112 t113 t114) else ((impl_CellsMeet.f t108 t109 t110 t111 t112 t113 t114 t101 t102 t103 t104 t105 t106 t107).bind fun t119 => (laws_FnCellsMeet.j0 k t117 (t119 != t117) t101 t102 t103 t104 t105 t106 t107 t108 t109 t110 t111 t112 t113 t114))) = some r := H
   have A13 := a1z.mk A130
   clear A130
   by_cases c14 : (t117 != t118) = true
   ·rw [if_pos c14] at H
    have c14b0 : (t117 != t118) = true := c14
    (try (have c14b1 : decide (t117 = t118) = false := by simpa using c14))
    (try (have c14b2 : (t117 == t118) = false := by simpa using c14))
    (try (have c14b3 : ¬ (t117 = t118) := by simpa using c14))
    clear c14
    (first | rw [c14b0] | (simp only [i64_w, i32_w]; rw [c14b0]) | skip)
    have H' := a1z.mk H
    clear H
    have hnb15 := NB115_116.1
    have hnc15 := NB116_115.1
    have hcz16_0 : w12.cell? ⟨gb115, 0, none⟩ = some (.int .i64 t101) := (a0z BK115.1 0).trans rfl
    have hcz16_1 : w12.cell? ⟨gb115, 1, none⟩ = some (.int .i64 t102) := (a0z BK115.1 1).trans rfl
    have hcz16_2 : w12.cell? ⟨gb115, 2, none⟩ = some (.int .i64 t103) := (a0z BK115.1 2).trans rfl
    have hcz16_3 : w12.cell? ⟨gb115, 3, none⟩ = some (.int .i64 t104) := (a0z BK115.1 3).trans rfl
    have hcz16_4 : w12.cell? ⟨gb115, 4, none⟩ = some (.int .i64 t105) := (a0z BK115.1 4).trans rfl
    have hcz16_5 : w12.cell? ⟨gb115, 5, none⟩ = some (.int .i64 t106) := (a0z BK115.1 5).trans rfl
    have hcz16_6 : w12.cell? ⟨gb115, 6, none⟩ = some (.int .i64 t107) := (a0z BK115.1 6).trans rfl
    have hfz16_0 := a3z BK115.1 0
    have hfz16_1 := a3z BK115.1 1
    have hfz16_2 := a3z BK115.1 2
    have hfz16_3 := a3z BK115.1 3
    have hfz16_4 := a3z BK115.1 4
    have hfz16_5 := a3z BK115.1 5
    have hfz16_6 := a3z BK115.1 6
    have hcz17_0 : w12.cell? ⟨gb116, 0, none⟩ = some (.int .i64 t108) := (a0z BK116.1 0).trans rfl
    have hcz17_1 : w12.cell? ⟨gb116, 1, none⟩ = some (.int .i64 t109) := (a0z BK116.1 1).trans rfl
    have hcz17_2 : w12.cell? ⟨gb116, 2, none⟩ = some (.int .i64 t110) := (a0z BK116.1 2).trans rfl
    have hcz17_3 : w12.cell? ⟨gb116, 3, none⟩ = some (.int .i64 t111) := (a0z BK116.1 3).trans rfl
    have hcz17_4 : w12.cell? ⟨gb116, 4, none⟩ = some (.int .i64 t112) := (a0z BK116.1 4).trans rfl
    have hcz17_5 : w12.cell? ⟨gb116, 5, none⟩ = some (.int .i64 t113) := (a0z BK116.1 5).trans rfl
    have hcz17_6 : w12.cell? ⟨gb116, 6, none⟩ = some (.int .i64 t114) := (a0z BK116.1 6).trans rfl
    have hfz17_0 := a3z BK116.1 0
    have hfz17_1 := a3z BK116.1 1
    have hfz17_2 := a3z BK116.1 2
    have hfz17_3 := a3z BK116.1 3
    have hfz17_4 := a3z BK116.1 4
    have hfz17_5 := a3z BK116.1 5
    have hfz17_6 := a3z BK116.1 6
    go_wp2_with (first | ((with_reducible refine c5z (f := 47) rfl ?_); refine d5z (some 23) rfl rfl Try.func47 (by kernel_rfl) rfl #[.agg #[.int .i64 t101, .int .i64 t102, .int .i64 t103, .int .i64 t104, .int .i64 t105, .int .i64 t106, .int .i64 t107], .agg #[.int .i64 t108, .int .i64 t109, .int .i64 t110, .int .i64 t111, .int .i64 t112, .int .i64 t113, .int .i64 t114]] rfl (by (try simp only [List.map_toArray, List.map_cons, List.map_nil]); first | done | rfl | (simp only [List.length_drop, List.length_take]; rfl)) ?_; (with_reducible refine (spec_CellsMeet.calls t101 t102 t103 t104 t105 t106 t107 t108 t109 t110 t111 t112 t113 t114 t118 _ A13.1).mono ?_); rintro e w18 ⟨rfl, hb⟩; refine ⟨_, rfl, ?_⟩; have n0_ := a1z.mk (c4z (g := gb115) (o := .cells #[.int .i64 t101, .int .i64 t102, .int .i64 t103, .int .i64 t104, .int .i64 t105, .int .i64 t106, .int .i64 t107] 67 (0, 0)) (by (with_reducible repeat (first | refine a7z ?_ _ | refine a8z ?_ | refine blk_alloc ?_ _)); exact BK115.1) hb); have n1_ := a1z.mk (c4z (g := gb116) (o := .cells #[.int .i64 t108, .int .i64 t109, .int .i64 t110, .int .i64 t111, .int .i64 t112, .int .i64 t113, .int .i64 t114] 67 (0, 0)) (by (with_reducible repeat (first | refine a7z ?_ _ | refine a8z ?_ | refine blk_alloc ?_ _)); exact BK116.1) hb); have n2_ := a1z.mk (b7z (by repeat (first | (with_reducible first | exact HB.1 | apply a5z | apply a2z | apply a4z | refine a9z ?_ GE115.1 | refine a9z ?_ GE116.1) | exact HB.1)) hb); clear BK115; clear BK116; clear HB; have BK115 := n0_; have BK116 := n1_; have HB := n2_; clear n0_ n1_ n2_; (try clear hb); (try clear hb2); (try clear hk); (try clear hi)))
    go_meet
    case rel => exact ⟨_, (true), (by first | rfl | (simp; done) | (simp [*]; done)), H', ⟨by first | omega | exact Nat.le_refl _⟩, ⟨by (with_reducible repeat (first | refine a7z ?_ _ | refine a8z ?_ | refine blk_alloc ?_ _)); exact BK115.1⟩, ⟨by (with_reducible repeat (first | refine a7z ?_ _ | refine a8z ?_ | refine blk_alloc ?_ _)); exact BK116.1⟩, ⟨by repeat (first | (with_reducible first | exact HB.1 | apply a5z | apply a2z | apply a4z | refine a9z ?_ GE115.1 | refine a9z ?_ GE116.1) | exact HB.1)⟩⟩
   ·rw [if_neg c14] at H
    have c14b0 : (t117 != t118) = false := by simpa using c14
    (try (have c14b1 : decide (t117 = t118) = true := by simpa using c14))
    (try (have c14b2 : (t117 == t118) = true := by simpa using c14))
    clear c14
    (first | rw [c14b0] | (simp only [i64_w, i32_w]; rw [c14b0]) | skip)
    replace H := Option.bind_eq_some_iff.mp H
    obtain ⟨t119, A190, H⟩ := H
    replace H : (laws_FnCellsMeet.j0 k t117 (t119 != t117) t101 t102 t103 t104 t105 t106 t107 t108 t109 t110 t111 t112 t113 t114) = some r := H
    have A19 := a1z.mk A190
    clear A190
    have H' := a1z.mk H
    clear H
    have hnb20 := NB115_116.1
    have hnc20 := NB116_115.1
    have hcz21_0 : w12.cell? ⟨gb115, 0, none⟩ = some (.int .i64 t101) := (a0z BK115.1 0).trans rfl
    have hcz21_1 : w12.cell? ⟨gb115, 1, none⟩ = some (.int .i64 t102) := (a0z BK115.1 1).trans rfl
    have hcz21_2 : w12.cell? ⟨gb115, 2, none⟩ = some (.int .i64 t103) := (a0z BK115.1 2).trans rfl
    have hcz21_3 : w12.cell? ⟨gb115, 3, none⟩ = some (.int .i64 t104) := (a0z BK115.1 3).trans rfl
    have hcz21_4 : w12.cell? ⟨gb115, 4, none⟩ = some (.int .i64 t105) := (a0z BK115.1 4).trans rfl
    have hcz21_5 : w12.cell? ⟨gb115, 5, none⟩ = some (.int .i64 t106) := (a0z BK115.1 5).trans rfl
    have hcz21_6 : w12.cell? ⟨gb115, 6, none⟩ = some (.int .i64 t107) := (a0z BK115.1 6).trans rfl
    have hfz21_0 := a3z BK115.1 0
    have hfz21_1 := a3z BK115.1 1
    have hfz21_2 := a3z BK115.1 2
    have hfz21_3 := a3z BK115.1 3
    have hfz21_4 := a3z BK115.1 4
    have hfz21_5 := a3z BK115.1 5
    have hfz21_6 := a3z BK115.1 6
    have hcz22_0 : w12.cell? ⟨gb116, 0, none⟩ = some (.int .i64 t108) := (a0z BK116.1 0).trans rfl
    have hcz22_1 : w12.cell? ⟨gb116, 1, none⟩ = some (.int .i64 t109) := (a0z BK116.1 1).trans rfl
    have hcz22_2 : w12.cell? ⟨gb116, 2, none⟩ = some (.int .i64 t110) := (a0z BK116.1 2).trans rfl
    have hcz22_3 : w12.cell? ⟨gb116, 3, none⟩ = some (.int .i64 t111) := (a0z BK116.1 3).trans rfl
    have hcz22_4 : w12.cell? ⟨gb116, 4, none⟩ = some (.int .i64 t112) := (a0z BK116.1 4).trans rfl
    have hcz22_5 : w12.cell? ⟨gb116, 5, none⟩ = some (.int .i64 t113) := (a0z BK116.1 5).trans rfl
    have hcz22_6 : w12.cell? ⟨gb116, 6, none⟩ = some (.int .i64 t114) := (a0z BK116.1 6).trans rfl
    have hfz22_0 := a3z BK116.1 0
    have hfz22_1 := a3z BK116.1 1
    have hfz22_2 := a3z BK116.1 2
    have hfz22_3 := a3z BK116.1 3
    have hfz22_4 := a3z BK116.1 4
    have hfz22_5 := a3z BK116.1 5
    have hfz22_6 := a3z BK116.1 6
    go_wp2_with (first | ((with_reducible refine c5z (f := 47) rfl ?_); refine d5z (some 23) rfl rfl Try.func47 (by kernel_rfl) rfl #[.agg #[.int .i64 t101, .int .i64 t102, .int .i64 t103, .int .i64 t104, .int .i64 t105, .int .i64 t106, .int .i64 t107], .agg #[.int .i64 t108, .int .i64 t109, .int .i64 t110, .int .i64 t111, .int .i64 t112, .int .i64 t113, .int .i64 t114]] rfl (by (try simp only [List.map_toArray, List.map_cons, List.map_nil]); first | done | rfl | (simp only [List.length_drop, List.length_take]; rfl)) ?_; (with_reducible refine (spec_CellsMeet.calls t101 t102 t103 t104 t105 t106 t107 t108 t109 t110 t111 t112 t113 t114 t118 _ A13.1).mono ?_); rintro e w23 ⟨rfl, hb⟩; refine ⟨_, rfl, ?_⟩; have n0_ := a1z.mk (c4z (g := gb115) (o := .cells #[.int .i64 t101, .int .i64 t102, .int .i64 t103, .int .i64 t104, .int .i64 t105, .int .i64 t106, .int .i64 t107] 67 (0, 0)) (by (with_reducible repeat (first | refine a7z ?_ _ | refine a8z ?_ | refine blk_alloc ?_ _)); exact BK115.1) hb); have n1_ := a1z.mk (c4z (g := gb116) (o := .cells #[.int .i64 t108, .int .i64 t109, .int .i64 t110, .int .i64 t111, .int .i64 t112, .int .i64 t113, .int .i64 t114] 67 (0, 0)) (by (with_reducible repeat (first | refine a7z ?_ _ | refine a8z ?_ | refine blk_alloc ?_ _)); exact BK116.1) hb); have n2_ := a1z.mk (b7z (by repeat (first | (with_reducible first | exact HB.1 | apply a5z | apply a2z | apply a4z | refine a9z ?_ GE115.1 | refine a9z ?_ GE116.1) | exact HB.1)) hb); clear BK115; clear BK116; clear HB; have BK115 := n0_; have BK116 := n1_; have HB := n2_; clear n0_ n1_ n2_; (try clear hb); (try clear hb2); (try clear hk); (try clear hi); have hcz24_0 : w23.cell? ⟨gb116, 0, none⟩ = some (.int .i64 t108) := (a0z BK116.1 0).trans rfl; have hcz24_1 : w23.cell? ⟨gb116, 1, none⟩ = some (.int .i64 t109) := (a0z BK116.1 1).trans rfl; have hcz24_2 : w23.cell? ⟨gb116, 2, none⟩ = some (.int .i64 t110) := (a0z BK116.1 2).trans rfl; have hcz24_3 : w23.cell? ⟨gb116, 3, none⟩ = some (.int .i64 t111) := (a0z BK116.1 3).trans rfl; have hcz24_4 : w23.cell? ⟨gb116, 4, none⟩ = some (.int .i64 t112) := (a0z BK116.1 4).trans rfl; have hcz24_5 : w23.cell? ⟨gb116, 5, none⟩ = some (.int .i64 t113) := (a0z BK116.1 5).trans rfl; have hcz24_6 : w23.cell? ⟨gb116, 6, none⟩ = some (.int .i64 t114) := (a0z BK116.1 6).trans rfl; have hfz24_0 := a3z BK116.1 0; have hfz24_1 := a3z BK116.1 1; have hfz24_2 := a3z BK116.1 2; have hfz24_3 := a3z BK116.1 3; have hfz24_4 := a3z BK116.1 4; have hfz24_5 := a3z BK116.1 5; have hfz24_6 := a3z BK116.1 6; have hcz25_0 : w23.cell? ⟨gb115, 0, none⟩ = some (.int .i64 t101) := (a0z BK115.1 0).trans rfl; have hcz25_1 : w23.cell? ⟨gb115, 1, none⟩ = some (.int .i64 t102) := (a0z BK115.1 1).trans rfl; have hcz25_2 : w23.cell? ⟨gb115, 2, none⟩ = some (.int .i64 t103) := (a0z BK115.1 2).trans rfl; have hcz25_3 : w23.cell? ⟨gb115, 3, none⟩ = some (.int .i64 t104) := (a0z BK115.1 3).trans rfl; have hcz25_4 : w23.cell? ⟨gb115, 4, none⟩ = some (.int .i64 t105) := (a0z BK115.1 4).trans rfl; have hcz25_5 : w23.cell? ⟨gb115, 5, none⟩ = some (.int .i64 t106) := (a0z BK115.1 5).trans rfl; have hcz25_6 : w23.cell? ⟨gb115, 6, none⟩ = some (.int .i64 t107) := (a0z BK115.1 6).trans rfl; have hfz25_0 := a3z BK115.1 0; have hfz25_1 := a3z BK115.1 1; have hfz25_2 := a3z BK115.1 2; have hfz25_3 := a3z BK115.1 3; have hfz25_4 := a3z BK115.1 4; have hfz25_5 := a3z BK115.1 5; have hfz25_6 := a3z BK115.1 6) | (go_at_call 46; (with_reducible refine (impl_CellsMeet.calls t108 t109 t110 t111 t112 t113 t114 t101 t102 t103 t104 t105 t106 t107 t119 _ A19.1).mono ?_); rintro e w26 ⟨rfl, hb⟩; have n0_ := a1z.mk (c4z (g := gb115) (o := .cells #[.int .i64 t101, .int .i64 t102, .int .i64 t103, .int .i64 t104, .int .i64 t105, .int .i64 t106, .int .i64 t107] 67 (0, 0)) (by (with_reducible repeat (first | refine a7z ?_ _ | refine a8z ?_ | refine blk_alloc ?_ _)); exact BK115.1) hb); have n1_ := a1z.mk (c4z (g := gb116) (o := .cells #[.int .i64 t108, .int .i64 t109, .int .i64 t110, .int .i64 t111, .int .i64 t112, .int .i64 t113, .int .i64 t114] 67 (0, 0)) (by (with_reducible repeat (first | refine a7z ?_ _ | refine a8z ?_ | refine blk_alloc ?_ _)); exact BK116.1) hb); have n2_ := a1z.mk (b7z (by repeat (first | (with_reducible first | exact HB.1 | apply a5z | apply a2z | apply a4z | refine a9z ?_ GE115.1 | refine a9z ?_ GE116.1) | exact HB.1)) hb); clear BK115; clear BK116; clear HB; have BK115 := n0_; have BK116 := n1_; have HB := n2_; clear n0_ n1_ n2_; (try clear hb); (try clear hb2); (try clear hk); (try clear hi)))
    go_meet
    case rel => exact ⟨_, ((t119 != t117)), (by first | rfl | (simp; done) | (simp [*]; done)), H', ⟨by first | omega | exact Nat.le_refl _⟩, ⟨by (with_reducible repeat (first | refine a7z ?_ _ | refine a8z ?_ | refine blk_alloc ?_ _)); exact BK115.1⟩, ⟨by (with_reducible repeat (first | refine a7z ?_ _ | refine a8z ?_ | refine blk_alloc ?_ _)); exact BK116.1⟩, ⟨by repeat (first | (with_reducible first | exact HB.1 | apply a5z | apply a2z | apply a4z | refine a9z ?_ GE115.1 | refine a9z ?_ GE116.1) | exact HB.1)⟩⟩
  case rest =>
   clear HC5
   try clear c1
   try clear c2
   try clear c2b0
   try clear c2b1
   try clear p2
   try clear c4
   try clear c9
   try clear c14
   try clear c14b0
   try clear c14b1
   try clear c14b2
   try clear c15
   try clear c20
   try clear hcz10_0
   try clear hcz10_1
   try clear hcz10_2
   try clear hcz10_3
   try clear hcz10_4
   try clear hcz10_5
   try clear hcz10_6
   try clear hcz11_0
   try clear hcz11_1
   try clear hcz11_2
   try clear hcz11_3
   try clear hcz11_4
   try clear hcz11_5
   try clear hcz11_6
   try clear hcz16_0
   try clear hcz16_1
   try clear hcz16_2
   try clear hcz16_3
   try clear hcz16_4
   try clear hcz16_5
   try clear hcz16_6
   try clear hcz17_0
   try clear hcz17_1
   try clear hcz17_2
   try clear hcz17_3
   try clear hcz17_4
   try clear hcz17_5
   try clear hcz17_6
   try clear hcz21_0
   try clear hcz21_1
   try clear hcz21_2
   try clear hcz21_3
   try clear hcz21_4
   try clear hcz21_5
   try clear hcz21_6
   try clear hcz22_0
   try clear hcz22_1
   try clear hcz22_2
   try clear hcz22_3
   try clear hcz22_4
   try clear hcz22_5
   try clear hcz22_6
   try clear hcz24_0
   try clear hcz24_1
   try clear hcz24_2
   try clear hcz24_3
   try clear hcz24_4
   try clear hcz24_5
   try clear hcz24_6
   try clear hcz25_0
   try clear hcz25_1
   try clear hcz25_2
   try clear hcz25_3
   try clear hcz25_4
   try clear hcz25_5
   try clear hcz25_6
   try clear hfz10_0
   try clear hfz10_1
   try clear hfz10_2
   try clear hfz10_3
   try clear hfz10_4
   try clear hfz10_5
   try clear hfz10_6
   try clear hfz11_0
   try clear hfz11_1
   try clear hfz11_2
   try clear hfz11_3
   try clear hfz11_4
   try clear hfz11_5
   try clear hfz11_6
   try clear hfz16_0
   try clear hfz16_1
   try clear hfz16_2
   try clear hfz16_3
   try clear hfz16_4
   try clear hfz16_5
   try clear hfz16_6
   try clear hfz17_0
   try clear hfz17_1
   try clear hfz17_2
   try clear hfz17_3
   try clear hfz17_4
   try clear hfz17_5
   try clear hfz17_6
   try clear hfz21_0
   try clear hfz21_1
   try clear hfz21_2
   try clear hfz21_3
   try clear hfz21_4
   try clear hfz21_5
   try clear hfz21_6
   try clear hfz22_0
   try clear hfz22_1
   try clear hfz22_2
   try clear hfz22_3
   try clear hfz22_4
   try clear hfz22_5
   try clear hfz22_6
   try clear hfz24_0
   try clear hfz24_1
   try clear hfz24_2
   try clear hfz24_3
   try clear hfz24_4
   try clear hfz24_5
   try clear hfz24_6
   try clear hfz25_0
   try clear hfz25_1
   try clear hfz25_2
   try clear hfz25_3
   try clear hfz25_4
   try clear hfz25_5
   try clear hfz25_6
   obtain ⟨kq, x31_4, rfl, HA, HJ4, BK115, BK116, HB⟩ := hcut
   cases kq with
   | zero => exact absurd HA.1 (by simp [laws_FnCellsMeet.j0])
   | succ kj4 =>
    have H := HA.1
    clear HA
    simp only [laws_FnCellsMeet.j0] at H
    by_cases c27 : x31_4 = true
    ·subst c27
     have H1 : (some false) = some r := by rw [if_pos rfl] at H; exact H
     clear H
     have H := H1
     clear H1
     obtain rfl := Option.some.inj H
     go_wp2
     go_ret
     exact ⟨by first | rfl | (simp [c2z, c1z] <;> rfl) | (simp [*, c2z, c1z] <;> rfl), by repeat (first | (with_reducible first | exact HB.1 | apply a5z | apply a2z | apply a4z | refine a9z ?_ GE115.1 | refine a9z ?_ GE116.1) | exact HB.1)⟩
    ·replace c27 := Bool.eq_false_iff.mpr c27
     subst c27
     have H1 : ((laws_ovMore.f t101 t108).bind fun t120 => ((laws_ovMore.f t103 t110).bind fun t121 => ((laws_ovMore.f t105 t112).bind fun t122 => ((impl_CellsFind.f kj4 (([(⟨t101, t102, t103, t104, t105, t106, 1⟩ : S67)] : List (S67))) t120 t121 t122).bind fun t127 => ((impl_CellsFind.f kj4 (([(⟨t108, t109, t110, t111, t112, t113, 1⟩ : S67)] : List (S67))) t120 t121 t122).bind fun t131 => (if t127 = 1 then (some (t117 == (t131 == 1))) else (some (t117 == false)))))))) = some r := by rw [if_neg (show ¬ (false = true) by decide)] at H; exact H
     clear H
     have H := H1
     clear H1
     replace H := Option.bind_eq_some_iff.mp H
     obtain ⟨t120, A280, H⟩ := H
     replace H : ((laws_ovMore.f t103 t110).bind fun t121 => ((laws_ovMore.f t105 t112).bind fun t122 => ((impl_CellsFind.f kj4 (([(⟨t101, t102, t103, t104, t105, t106, 1⟩ : S67)] : List (S67))) t120 t121 t122).bind fun t127 => ((impl_CellsFind.f kj4 (([(⟨t108, t109, t110, t111, t112, t113, 1⟩ : S67)] : List (S67))) t120 t121 t122).bind fun t131 => (if t127 = 1 then (some (t117 == (t131 == 1))) else (some (t117 == false))))))) = some r := H
     have A28 := a1z.mk A280
     clear A280
     replace H := Option.bind_eq_some_iff.mp H
     obtain ⟨t121, A290, H⟩ := H
     replace H : ((laws_ovMore.f t105 t112).bind fun t122 => ((impl_CellsFind.f kj4 (([(⟨t101, t102, t103, t104, t105, t106, 1⟩ : S67)] : List (S67))) t120 t121 t122).bind fun t127 => ((impl_CellsFind.f kj4 (([(⟨t108, t109, t110, t111, t112, t113, 1⟩ : S67)] : List (S67))) t120 t121 t122).bind fun t131 => (if t127 = 1 then (some (t117 == (t131 == 1))) else (some (t117 == false)))))) = some r := H
     have A29 := a1z.mk A290
     clear A290
     replace H := Option.bind_eq_some_iff.mp H
     obtain ⟨t122, A300, H⟩ := H
     replace H : ((impl_CellsFind.f kj4 (([(⟨t101, t102, t103, t104, t105, t106, 1⟩ : S67)] : List (S67))) t120 t121 t122).bind fun t127 => ((impl_CellsFind.f kj4 (([(⟨t108, t109, t110, t111, t112, t113, 1⟩ : S67)] : List (S67))) t120 t121 t122).bind fun t131 => (if t127 = 1 then (some (t117 == (t131 == 1))) else (some (t117 == false))))) = some r := H
     have A30 := a1z.mk A300
     clear A300
     obtain ⟨y124, hy124⟩ : ∃ y_ : List (S67), y_ = (([(⟨t101, t102, t103, t104, t105, t106, 1⟩ : S67)] : List (S67))) := ⟨_, rfl⟩
     replace H : ((impl_CellsFind.f kj4 y124 t120 t121 t122).bind fun t127 => ((impl_CellsFind.f kj4 (([(⟨t108, t109, t110, t111, t112, t113, 1⟩ : S67)] : List (S67))) t120 t121 t122).bind fun t131 => (if t127 = 1 then (some (t117 == (t131 == 1))) else (some (t117 == false))))) = some r := by first | (rw [hy124]; with_reducible exact H) | (have H2_ := (Option.bind_some _ _).symm.trans H; rw [hy124]; with_reducible exact H2_) | (have H2_ := (Option.bind_some _ _).symm.trans H; with_reducible exact H2_) | with_reducible exact H | (rw [hy124]; exact H) | exact H
     have Ny124 := a1z.mk hy124
     clear hy124
     replace H := Option.bind_eq_some_iff.mp H
     obtain ⟨t127, A310, H⟩ := H
     replace H : ((impl_CellsFind.f kj4 (([(⟨t108, t109, t110, t111, t112, t113, 1⟩ : S67)] : List (S67))) t120 t121 t122).bind fun t131 => (if t127 = 1 then (some (t117 == (t131 == 1))) else (some (t117 == false)))) = some r := H
     have A31 := a1z.mk A310
     clear A310
     obtain ⟨y128, hy128⟩ : ∃ y_ : List (S67), y_ = (([(⟨t108, t109, t110, t111, t112, t113, 1⟩ : S67)] : List (S67))) := ⟨_, rfl⟩
     replace H : ((impl_CellsFind.f kj4 y128 t120 t121 t122).bind fun t131 => (if t127 = 1 then (some (t117 == (t131 == 1))) else (some (t117 == false)))) = some r := by first | (rw [hy128]; with_reducible exact H) | (have H2_ := (Option.bind_some _ _).symm.trans H; rw [hy128]; with_reducible exact H2_) | (have H2_ := (Option.bind_some _ _).symm.trans H; with_reducible exact H2_) | with_reducible exact H | (rw [hy128]; exact H) | exact H
     have Ny128 := a1z.mk hy128
     clear hy128
     replace H := Option.bind_eq_some_iff.mp H
     obtain ⟨t131, A320, H⟩ := H
     replace H : (if t127 = 1 then (some (t117 == (t131 == 1))) else (some (t117 == false))) = some r := H
     have A32 := a1z.mk A320
     clear A320
     by_cases c33 : t127 = 1
     ·rw [if_pos c33] at H
      have c33b0 : (t127 == 1) = true := beq_iff_eq.mpr c33
      have c33b1 : (t127 != 1) = false := bne_eq_false_iff_eq.mpr c33
      clear c33
      obtain rfl := Option.some.inj H
      try go_wp2
      have n0_ := a1z.mk (a8z BK115.1)
      have n1_ := a1z.mk (a8z BK116.1)
      have n2_ := a1z.mk (a4z HB.1)
      clear BK115
      clear BK116
      clear HB
      have BK115 := n0_
      have BK116 := n1_
      have HB := n2_
      clear n0_ n1_ n2_
      refine h9z (n := 18) (S := fun w' => w'.cell? ⟨gb115, 0, none⟩ = some (.int .i64 t101) ∧ w'.cell? ⟨gb115, 1, none⟩ = some (.int .i64 t102) ∧ w'.cell? ⟨gb115, 2, none⟩ = some (.int .i64 t103) ∧ w'.cell? ⟨gb115, 3, none⟩ = some (.int .i64 t104) ∧ w'.cell? ⟨gb115, 4, none⟩ = some (.int .i64 t105) ∧ w'.cell? ⟨gb115, 5, none⟩ = some (.int .i64 t106) ∧ w'.cell? ⟨gb115, 6, none⟩ = some (.int .i64 t107) ∧ w'.cell? ⟨gb116, 0, none⟩ = some (.int .i64 t108) ∧ w'.cell? ⟨gb116, 1, none⟩ = some (.int .i64 t109) ∧ w'.cell? ⟨gb116, 2, none⟩ = some (.int .i64 t110) ∧ w'.cell? ⟨gb116, 3, none⟩ = some (.int .i64 t111) ∧ w'.cell? ⟨gb116, 4, none⟩ = some (.int .i64 t112) ∧ w'.cell? ⟨gb116, 5, none⟩ = some (.int .i64 t113) ∧ w'.cell? ⟨gb116, 6, none⟩ = some (.int .i64 t114)) (ds := []) #[false, false, false, false, false, false, false, false, false, false, false, false, false, false, false, false, false, false] (by kernel_rfl) rfl rfl ⟨(a0z BK115.1 0).trans rfl, (a0z BK115.1 1).trans rfl, (a0z BK115.1 2).trans rfl, (a0z BK115.1 3).trans rfl, (a0z BK115.1 4).trans rfl, (a0z BK115.1 5).trans rfl, (a0z BK115.1 6).trans rfl, (a0z BK116.1 0).trans rfl, (a0z BK116.1 1).trans rfl, (a0z BK116.1 2).trans rfl, (a0z BK116.1 3).trans rfl, (a0z BK116.1 4).trans rfl, (a0z BK116.1 5).trans rfl, (a0z BK116.1 6).trans rfl⟩ (fun hHeld => ?_); refine g7z laws_FnCellsMeet.tab7 laws_FnCellsMeet.bits7 (fun HT_ HW_ => ?_)
      generalize wc.drew = w34 at BK115 BK116 HB hHeld ⊢
      refine pure_ (i := 0) (N := some 32) (v := ?_) (a' := ?_) #[true, false, false, false, false, false, false, false, false, false, false, false, false, false, false, false, false, false] rfl rfl (c9z HT_.1 (by kernel_rfl)) (fun _ _ _ h => h) (Or.inl ⟨by rfl, ?_⟩) ?_ ?_
      rotate_left
      ·intro w'
       go_simp
       with_reducible rfl
      rotate_left
      ·simp only [Act.put, sA_, sZ_, sS_, i64_w, i32_w]
       rfl
      refine pure_ (i := 2) (N := some 34) (v := ?_) (a' := ?_) #[true, false, true, false, false, false, false, false, false, false, false, false, false, false, false, false, false, false] rfl rfl (c9z HT_.1 (by kernel_rfl)) (fun _ _ _ h => h) (Or.inl ⟨by rfl, ?_⟩) ?_ ?_
      rotate_left
      ·intro w'
       go_simp
       with_reducible rfl
      rotate_left
      ·simp only [Act.put, sA_, sZ_, sS_, i64_w, i32_w]
       rfl
      refine pure_ (i := 5) (N := some 37) (v := ?_) (a' := ?_) #[true, false, true, false, false, true, false, false, false, false, false, false, false, false, false, false, false, false] rfl rfl (c9z HT_.1 (by kernel_rfl)) (fun _ _ _ h => h) (Or.inl ⟨by rfl, ?_⟩) ?_ ?_
      rotate_left
      ·intro w'
       go_simp
       with_reducible rfl
      rotate_left
      ·simp only [Act.put, sA_, sZ_, sS_, i64_w, i32_w]
       rfl
      refine pure_ (i := 7) (N := some 39) (v := ?_) (a' := ?_) #[true, false, true, false, false, true, false, true, false, false, false, false, false, false, false, false, false, false] rfl rfl (c9z HT_.1 (by kernel_rfl)) (fun _ _ _ h => h) (Or.inl ⟨by rfl, ?_⟩) ?_ ?_
      rotate_left
      ·intro w'
       go_simp
       with_reducible rfl
      rotate_left
      ·simp only [Act.put, sA_, sZ_, sS_, i64_w, i32_w]
       rfl
      refine pure_ (i := 10) (N := some 42) (v := ?_) (a' := ?_) #[true, false, true, false, false, true, false, true, false, false, true, false, false, false, false, false, false, false] rfl rfl (c9z HT_.1 (by kernel_rfl)) (fun _ _ _ h => h) (Or.inl ⟨by rfl, ?_⟩) ?_ ?_
      rotate_left
      ·intro w'
       go_simp
       with_reducible rfl
      rotate_left
      ·simp only [Act.put, sA_, sZ_, sS_, i64_w, i32_w]
       rfl
      refine pure_ (i := 12) (N := some 44) (v := ?_) (a' := ?_) #[true, false, true, false, false, true, false, true, false, false, true, false, true, false, false, false, false, false] rfl rfl (c9z HT_.1 (by kernel_rfl)) (fun _ _ _ h => h) (Or.inl ⟨by rfl, ?_⟩) ?_ ?_
      rotate_left
      ·intro w'
       go_simp
       with_reducible rfl
      rotate_left
      ·simp only [Act.put, sA_, sZ_, sS_, i64_w, i32_w]
       rfl
      refine take_ (i := 1) (N := some 33) (v := ?_) (a' := ?_) #[true, true, true, false, false, true, false, true, false, false, true, false, true, false, false, false, false, false] rfl rfl (d8z HT_.1 HW_.1 (by kernel_rfl)) (fun _ _ _ h => h) (Or.inl ⟨by rfl, ?_⟩) hHeld ?_ ?_
      rotate_left
      ·rintro w' ⟨s0, s1, s2, s3, s4, s5, s6, s7, s8, s9, s10, s11, s12, s13⟩
       go_simp
       with_reducible rfl
      rotate_left
      ·simp only [Act.put, sA_, sZ_, sS_, i64_w, i32_w]
       rfl
      refine take_ (i := 3) (N := some 35) (v := ?_) (a' := ?_) #[true, true, true, true, false, true, false, true, false, false, true, false, true, false, false, false, false, false] rfl rfl (d8z HT_.1 HW_.1 (by kernel_rfl)) (fun _ _ _ h => h) (Or.inl ⟨by rfl, ?_⟩) hHeld ?_ ?_
      rotate_left
      ·rintro w' ⟨s0, s1, s2, s3, s4, s5, s6, s7, s8, s9, s10, s11, s12, s13⟩
       go_simp
       with_reducible rfl
      rotate_left
      ·simp only [Act.put, sA_, sZ_, sS_, i64_w, i32_w]
       rfl
      refine take_ (i := 6) (N := some 38) (v := ?_) (a' := ?_) #[true, true, true, true, false, true, true, true, false, false, true, false, true, false, false, false, false, false] rfl rfl (d8z HT_.1 HW_.1 (by kernel_rfl)) (fun _ _ _ h => h) (Or.inl ⟨by rfl, ?_⟩) hHeld ?_ ?_
      rotate_left
      ·rintro w' ⟨s0, s1, s2, s3, s4, s5, s6, s7, s8, s9, s10, s11, s12, s13⟩
       go_simp
       with_reducible rfl
      rotate_left
      ·simp only [Act.put, sA_, sZ_, sS_, i64_w, i32_w]
       rfl
      refine take_ (i := 8) (N := some 40) (v := ?_) (a' := ?_) #[true, true, true, true, false, true, true, true, true, false, true, false, true, false, false, false, false, false] rfl rfl (d8z HT_.1 HW_.1 (by kernel_rfl)) (fun _ _ _ h => h) (Or.inl ⟨by rfl, ?_⟩) hHeld ?_ ?_
      rotate_left
      ·rintro w' ⟨s0, s1, s2, s3, s4, s5, s6, s7, s8, s9, s10, s11, s12, s13⟩
       go_simp
       with_reducible rfl
      rotate_left
      ·simp only [Act.put, sA_, sZ_, sS_, i64_w, i32_w]
       rfl
      refine take_ (i := 11) (N := some 43) (v := ?_) (a' := ?_) #[true, true, true, true, false, true, true, true, true, false, true, true, true, false, false, false, false, false] rfl rfl (d8z HT_.1 HW_.1 (by kernel_rfl)) (fun _ _ _ h => h) (Or.inl ⟨by rfl, ?_⟩) hHeld ?_ ?_
      rotate_left
      ·rintro w' ⟨s0, s1, s2, s3, s4, s5, s6, s7, s8, s9, s10, s11, s12, s13⟩
       go_simp
       with_reducible rfl
      rotate_left
      ·simp only [Act.put, sA_, sZ_, sS_, i64_w, i32_w]
       rfl
      refine take_ (i := 13) (N := some 45) (v := ?_) (a' := ?_) #[true, true, true, true, false, true, true, true, true, false, true, true, true, true, false, false, false, false] rfl rfl (d8z HT_.1 HW_.1 (by kernel_rfl)) (fun _ _ _ h => h) (Or.inl ⟨by rfl, ?_⟩) hHeld ?_ ?_
      rotate_left
      ·rintro w' ⟨s0, s1, s2, s3, s4, s5, s6, s7, s8, s9, s10, s11, s12, s13⟩
       go_simp
       with_reducible rfl
      rotate_left
      ·simp only [Act.put, sA_, sZ_, sS_, i64_w, i32_w]
       rfl
      refine join_ (σ := Nat) 1 #[true, true, true, true, true, true, true, true, true, true, true, true, true, true, true, true, true, false] (fun s_ => [(36, .int .i64 t120), (41, .int .i64 t121), (46, .int .i64 t122), (6, .pointer (some ⟨s_, 0, none⟩)), (47, .agg #[.int .i64 t120, .int .i64 t121, .int .i64 t122])]) (fun s_ w' => (w'.cell? ⟨gb115, 0, none⟩ = some (.int .i64 t101) ∧ w'.cell? ⟨gb115, 1, none⟩ = some (.int .i64 t102) ∧ w'.cell? ⟨gb115, 2, none⟩ = some (.int .i64 t103) ∧ w'.cell? ⟨gb115, 3, none⟩ = some (.int .i64 t104) ∧ w'.cell? ⟨gb115, 4, none⟩ = some (.int .i64 t105) ∧ w'.cell? ⟨gb115, 5, none⟩ = some (.int .i64 t106) ∧ w'.cell? ⟨gb115, 6, none⟩ = some (.int .i64 t107) ∧ w'.cell? ⟨gb116, 0, none⟩ = some (.int .i64 t108) ∧ w'.cell? ⟨gb116, 1, none⟩ = some (.int .i64 t109) ∧ w'.cell? ⟨gb116, 2, none⟩ = some (.int .i64 t110) ∧ w'.cell? ⟨gb116, 3, none⟩ = some (.int .i64 t111) ∧ w'.cell? ⟨gb116, 4, none⟩ = some (.int .i64 t112) ∧ w'.cell? ⟨gb116, 5, none⟩ = some (.int .i64 t113) ∧ w'.cell? ⟨gb116, 6, none⟩ = some (.int .i64 t114)) ∧ (w'.heap[gb115]? = some (.cells #[.int .i64 t101, .int .i64 t102, .int .i64 t103, .int .i64 t104, .int .i64 t105, .int .i64 t106, .int .i64 t107] 67 (0, 0))) ∧ (w'.heap[gb116]? = some (.cells #[.int .i64 t108, .int .i64 t109, .int .i64 t110, .int .i64 t111, .int .i64 t112, .int .i64 t113, .int .i64 t114] 67 (0, 0))) ∧ (w'.heap[s_]? = some (.cells #[.int .i64 0, .int .i64 0, .int .i64 0] 36 (0, 0))) ∧ (w.heap.size ≤ s_) ∧ (w.heap.size ≤ s_) ∧ (gb115 ≠ s_) ∧ (s_ ≠ gb115) ∧ (gb116 ≠ s_) ∧ (s_ ≠ gb116) ∧ (Below w.heap.size w w')) ?_ ?_
      rotate_left
      ·intro hCont
       refine two_ (i := 4) (j := 16) (Ni := some 36) (Nj := some 6) #[true, true, true, true, true, true, true, true, true, false, true, true, true, true, false, false, false, false] #[true, true, true, true, false, true, true, true, true, false, true, true, true, true, false, false, true, false] rfl rfl rfl rfl (two_of HT_.1 (by kernel_rfl)) (by decide) (by decide) (fun K hK => ?_) (fun K hK => ?_)
       ·skip
        refine goes_ Try.func48 (by kernel_rfl) rfl #[.int .i64 t101, .int .i64 t108] (by rfl) rfl rfl (by (try simp only [List.map_toArray, List.map_cons, List.map_nil]); first | done | rfl | (simp only [List.length_drop, List.length_take]; rfl)) ?_
        with_reducible refine (laws_ovMore.calls t101 t108 t120 _ A28.1).mono ?_
        rintro e w' ⟨rfl, ⟨nd, rfl⟩⟩
        refine ⟨_, rfl, ?_⟩
        refine hK.out _ _ ⟨(a0z BK115.1 0).trans rfl, (a0z BK115.1 1).trans rfl, (a0z BK115.1 2).trans rfl, (a0z BK115.1 3).trans rfl, (a0z BK115.1 4).trans rfl, (a0z BK115.1 5).trans rfl, (a0z BK115.1 6).trans rfl, (a0z BK116.1 0).trans rfl, (a0z BK116.1 1).trans rfl, (a0z BK116.1 2).trans rfl, (a0z BK116.1 3).trans rfl, (a0z BK116.1 4).trans rfl, (a0z BK116.1 5).trans rfl, (a0z BK116.1 6).trans rfl⟩ (fun hHeld => ?_)
        clear hK K
        refine norm_ (a' := ?_) ?_ ?_
        rotate_left
        ·show Act.put _ (some 36) _ = _
         simp only [Act.put, sA_, sZ_, sS_, i64_w, i32_w]
         rfl
        refine two_ (i := 9) (j := 16) (Ni := some 41) (Nj := some 6) #[true, true, true, true, true, true, true, true, true, true, true, true, true, true, false, false, false, false] #[true, true, true, true, true, true, true, true, true, false, true, true, true, true, false, false, true, false] rfl rfl rfl rfl (two_of HT_.1 (by kernel_rfl)) (by decide) (by decide) (fun K hK => ?_) (fun K hK => ?_)
        ·skip
         refine goes_ Try.func48 (by kernel_rfl) rfl #[.int .i64 t103, .int .i64 t110] (by rfl) rfl rfl (by (try simp only [List.map_toArray, List.map_cons, List.map_nil]); first | done | rfl | (simp only [List.length_drop, List.length_take]; rfl)) ?_
         with_reducible refine (laws_ovMore.calls t103 t110 t121 _ A29.1).mono ?_
         rintro e w' ⟨rfl, ⟨nd, rfl⟩⟩
         refine ⟨_, rfl, ?_⟩
         refine hK.out _ _ ⟨(a0z BK115.1 0).trans rfl, (a0z BK115.1 1).trans rfl, (a0z BK115.1 2).trans rfl, (a0z BK115.1 3).trans rfl, (a0z BK115.1 4).trans rfl, (a0z BK115.1 5).trans rfl, (a0z BK115.1 6).trans rfl, (a0z BK116.1 0).trans rfl, (a0z BK116.1 1).trans rfl, (a0z BK116.1 2).trans rfl, (a0z BK116.1 3).trans rfl, (a0z BK116.1 4).trans rfl, (a0z BK116.1 5).trans rfl, (a0z BK116.1 6).trans rfl⟩ (fun hHeld => ?_)
         clear hK K
         refine norm_ (a' := ?_) ?_ ?_
         rotate_left
         ·show Act.put _ (some 41) _ = _
          simp only [Act.put, sA_, sZ_, sS_, i64_w, i32_w]
          rfl
         refine two_ (i := 14) (j := 16) (Ni := some 46) (Nj := some 6) #[true, true, true, true, true, true, true, true, true, true, true, true, true, true, true, false, false, false] #[true, true, true, true, true, true, true, true, true, true, true, true, true, true, false, false, true, false] rfl rfl rfl rfl (two_of HT_.1 (by kernel_rfl)) (by decide) (by decide) (fun K hK => ?_) (fun K hK => ?_)
         ·skip
          refine goes_ Try.func48 (by kernel_rfl) rfl #[.int .i64 t105, .int .i64 t112] (by rfl) rfl rfl (by (try simp only [List.map_toArray, List.map_cons, List.map_nil]); first | done | rfl | (simp only [List.length_drop, List.length_take]; rfl)) ?_
          with_reducible refine (laws_ovMore.calls t105 t112 t122 _ A30.1).mono ?_
          rintro e w' ⟨rfl, ⟨nd, rfl⟩⟩
          refine ⟨_, rfl, ?_⟩
          refine hK.out _ _ ⟨(a0z BK115.1 0).trans rfl, (a0z BK115.1 1).trans rfl, (a0z BK115.1 2).trans rfl, (a0z BK115.1 3).trans rfl, (a0z BK115.1 4).trans rfl, (a0z BK115.1 5).trans rfl, (a0z BK115.1 6).trans rfl, (a0z BK116.1 0).trans rfl, (a0z BK116.1 1).trans rfl, (a0z BK116.1 2).trans rfl, (a0z BK116.1 3).trans rfl, (a0z BK116.1 4).trans rfl, (a0z BK116.1 5).trans rfl, (a0z BK116.1 6).trans rfl⟩ (fun hHeld => ?_)
          clear hK K
          refine norm_ (a' := ?_) ?_ ?_
          rotate_left
          ·show Act.put _ (some 46) _ = _
           simp only [Act.put, sA_, sZ_, sS_, i64_w, i32_w]
           rfl
          refine pure_ (i := 15) (N := some 47) (v := ?_) (a' := ?_) #[true, true, true, true, true, true, true, true, true, true, true, true, true, true, true, true, false, false] rfl rfl (c9z HT_.1 (by kernel_rfl)) (fun _ _ _ h => h) (Or.inl ⟨by rfl, ?_⟩) ?_ ?_
          rotate_left
          ·intro w'
           go_simp
           with_reducible rfl
          rotate_left
          ·simp only [Act.put, sA_, sZ_, sS_, i64_w, i32_w]
           rfl
          refine one_ (i := 16) (N := some 6) #[true, true, true, true, true, true, true, true, true, true, true, true, true, true, true, true, true, false] rfl rfl (f1z HT_.1 (by kernel_rfl)) (by decide) (fun K hK => ?_)
          refine box_step ?hg (N := 6) ?hd (cs := #[.int .i64 0, .int .i64 0, .int .i64 0]) (t := 36) ?hr ?_; (case hd => rfl); (case hg => rfl); (case hr => first | (go_simp; done) | (go_simp; rfl))
          intro gb123 hg w35 hbox hb
          have n0_ := a1z.mk (c4z (g := gb115) (o := .cells #[.int .i64 t101, .int .i64 t102, .int .i64 t103, .int .i64 t104, .int .i64 t105, .int .i64 t106, .int .i64 t107] 67 (0, 0)) (by (with_reducible repeat (first | refine a7z ?_ _ | refine a8z ?_ | refine blk_alloc ?_ _)); exact BK115.1) hb)
          have n1_ := a1z.mk (c4z (g := gb116) (o := .cells #[.int .i64 t108, .int .i64 t109, .int .i64 t110, .int .i64 t111, .int .i64 t112, .int .i64 t113, .int .i64 t114] 67 (0, 0)) (by (with_reducible repeat (first | refine a7z ?_ _ | refine a8z ?_ | refine blk_alloc ?_ _)); exact BK116.1) hb)
          have n2_ := a1z.mk (b7z (by repeat (first | (with_reducible first | exact HB.1 | apply a5z | apply a2z | apply a4z | refine a9z ?_ GE115.1 | refine a9z ?_ GE116.1) | exact HB.1)) hb)
          have n3_ := a1z.mk (hbox)
          have n4_ := a1z.mk ((by rw [hg]; exact (b5z (by repeat (first | (with_reducible first | exact HB.1 | apply a5z | apply a2z | apply a4z | refine a9z ?_ GE115.1 | refine a9z ?_ GE116.1) | exact HB.1))) : w.heap.size ≤ gb123))
          have n5_ := a1z.mk ((by rw [hg]; exact (b5z (by repeat (first | (with_reducible first | exact HB.1 | apply a5z | apply a2z | apply a4z | refine a9z ?_ GE115.1 | refine a9z ?_ GE116.1) | exact HB.1))) : w.heap.size ≤ gb123))
          have n6_ := a1z.mk ((by rw [hg]; exact Nat.ne_of_lt (d9z (g := gb115) (o := .cells #[.int .i64 t101, .int .i64 t102, .int .i64 t103, .int .i64 t104, .int .i64 t105, .int .i64 t106, .int .i64 t107] 67 (0, 0)) (by (with_reducible repeat (first | refine a7z ?_ _ | refine a8z ?_ | refine blk_alloc ?_ _)); exact BK115.1)) : gb115 ≠ gb123))
          have n7_ := a1z.mk ((by rw [hg]; exact Nat.ne_of_gt (d9z (g := gb115) (o := .cells #[.int .i64 t101, .int .i64 t102, .int .i64 t103, .int .i64 t104, .int .i64 t105, .int .i64 t106, .int .i64 t107] 67 (0, 0)) (by (with_reducible repeat (first | refine a7z ?_ _ | refine a8z ?_ | refine blk_alloc ?_ _)); exact BK115.1)) : gb123 ≠ gb115))
          have n8_ := a1z.mk ((by rw [hg]; exact Nat.ne_of_lt (d9z (g := gb116) (o := .cells #[.int .i64 t108, .int .i64 t109, .int .i64 t110, .int .i64 t111, .int .i64 t112, .int .i64 t113, .int .i64 t114] 67 (0, 0)) (by (with_reducible repeat (first | refine a7z ?_ _ | refine a8z ?_ | refine blk_alloc ?_ _)); exact BK116.1)) : gb116 ≠ gb123))
          have n9_ := a1z.mk ((by rw [hg]; exact Nat.ne_of_gt (d9z (g := gb116) (o := .cells #[.int .i64 t108, .int .i64 t109, .int .i64 t110, .int .i64 t111, .int .i64 t112, .int .i64 t113, .int .i64 t114] 67 (0, 0)) (by (with_reducible repeat (first | refine a7z ?_ _ | refine a8z ?_ | refine blk_alloc ?_ _)); exact BK116.1)) : gb123 ≠ gb116))
          clear BK115
          clear BK116
          clear HB
          have BK115 := n0_
          have BK116 := n1_
          have HB := n2_
          have BK123 := n3_
          have GW123 := n4_
          have GE123 := n5_
          have NB115_123 := n6_
          have NB123_115 := n7_
          have NB116_123 := n8_
          have NB123_116 := n9_
          clear n0_ n1_ n2_ n3_ n4_ n5_ n6_ n7_ n8_ n9_
          clear hb hbox hg
          refine hK.out _ _ ⟨(a0z BK115.1 0).trans rfl, (a0z BK115.1 1).trans rfl, (a0z BK115.1 2).trans rfl, (a0z BK115.1 3).trans rfl, (a0z BK115.1 4).trans rfl, (a0z BK115.1 5).trans rfl, (a0z BK115.1 6).trans rfl, (a0z BK116.1 0).trans rfl, (a0z BK116.1 1).trans rfl, (a0z BK116.1 2).trans rfl, (a0z BK116.1 3).trans rfl, (a0z BK116.1 4).trans rfl, (a0z BK116.1 5).trans rfl, (a0z BK116.1 6).trans rfl⟩ (fun hHeld => ?_)
          clear hK K
          refine norm_ (a' := ?_) ?_ ?_
          rotate_left
          ·show Act.put _ (some 6) _ = _
           simp only [Act.put, sA_, sZ_, sS_, i64_w, i32_w]
           rfl
          exact norm_ (by simp only [putAll, Act.put, sA_, sZ_, sS_]) (hCont (gb123) _ ⟨hHeld, (by (with_reducible repeat (first | refine a7z ?_ _ | refine a8z ?_ | refine blk_alloc ?_ _)); exact BK115.1), (by (with_reducible repeat (first | refine a7z ?_ _ | refine a8z ?_ | refine blk_alloc ?_ _)); exact BK116.1), (by (with_reducible repeat (first | refine a7z ?_ _ | refine a8z ?_ | refine blk_alloc ?_ _)); exact BK123.1), GW123.1, GE123.1, NB115_123.1, NB123_115.1, NB116_123.1, NB123_116.1, (by repeat (first | (with_reducible first | exact HB.1 | apply a5z | apply a2z | apply a4z | refine a9z ?_ GE115.1 | refine a9z ?_ GE116.1 | refine a9z ?_ GE123.1) | exact HB.1))⟩)
         ·skip
          refine box_step ?hg (N := 6) ?hd (cs := #[.int .i64 0, .int .i64 0, .int .i64 0]) (t := 36) ?hr ?_; (case hd => rfl); (case hg => rfl); (case hr => first | (go_simp; done) | (go_simp; rfl))
          intro gb123 hg w35 hbox hb
          have n0_ := a1z.mk (c4z (g := gb115) (o := .cells #[.int .i64 t101, .int .i64 t102, .int .i64 t103, .int .i64 t104, .int .i64 t105, .int .i64 t106, .int .i64 t107] 67 (0, 0)) (by (with_reducible repeat (first | refine a7z ?_ _ | refine a8z ?_ | refine blk_alloc ?_ _)); exact BK115.1) hb)
          have n1_ := a1z.mk (c4z (g := gb116) (o := .cells #[.int .i64 t108, .int .i64 t109, .int .i64 t110, .int .i64 t111, .int .i64 t112, .int .i64 t113, .int .i64 t114] 67 (0, 0)) (by (with_reducible repeat (first | refine a7z ?_ _ | refine a8z ?_ | refine blk_alloc ?_ _)); exact BK116.1) hb)
          have n2_ := a1z.mk (b7z (by repeat (first | (with_reducible first | exact HB.1 | apply a5z | apply a2z | apply a4z | refine a9z ?_ GE115.1 | refine a9z ?_ GE116.1) | exact HB.1)) hb)
          have n3_ := a1z.mk (hbox)
          have n4_ := a1z.mk ((by rw [hg]; exact (b5z (by repeat (first | (with_reducible first | exact HB.1 | apply a5z | apply a2z | apply a4z | refine a9z ?_ GE115.1 | refine a9z ?_ GE116.1) | exact HB.1))) : w.heap.size ≤ gb123))
          have n5_ := a1z.mk ((by rw [hg]; exact (b5z (by repeat (first | (with_reducible first | exact HB.1 | apply a5z | apply a2z | apply a4z | refine a9z ?_ GE115.1 | refine a9z ?_ GE116.1) | exact HB.1))) : w.heap.size ≤ gb123))
          have n6_ := a1z.mk ((by rw [hg]; exact Nat.ne_of_lt (d9z (g := gb115) (o := .cells #[.int .i64 t101, .int .i64 t102, .int .i64 t103, .int .i64 t104, .int .i64 t105, .int .i64 t106, .int .i64 t107] 67 (0, 0)) (by (with_reducible repeat (first | refine a7z ?_ _ | refine a8z ?_ | refine blk_alloc ?_ _)); exact BK115.1)) : gb115 ≠ gb123))
          have n7_ := a1z.mk ((by rw [hg]; exact Nat.ne_of_gt (d9z (g := gb115) (o := .cells #[.int .i64 t101, .int .i64 t102, .int .i64 t103, .int .i64 t104, .int .i64 t105, .int .i64 t106, .int .i64 t107] 67 (0, 0)) (by (with_reducible repeat (first | refine a7z ?_ _ | refine a8z ?_ | refine blk_alloc ?_ _)); exact BK115.1)) : gb123 ≠ gb115))
          have n8_ := a1z.mk ((by rw [hg]; exact Nat.ne_of_lt (d9z (g := gb116) (o := .cells #[.int .i64 t108, .int .i64 t109, .int .i64 t110, .int .i64 t111, .int .i64 t112, .int .i64 t113, .int .i64 t114] 67 (0, 0)) (by (with_reducible repeat (first | refine a7z ?_ _ | refine a8z ?_ | refine blk_alloc ?_ _)); exact BK116.1)) : gb116 ≠ gb123))
          have n9_ := a1z.mk ((by rw [hg]; exact Nat.ne_of_gt (d9z (g := gb116) (o := .cells #[.int .i64 t108, .int .i64 t109, .int .i64 t110, .int .i64 t111, .int .i64 t112, .int .i64 t113, .int .i64 t114] 67 (0, 0)) (by (with_reducible repeat (first | refine a7z ?_ _ | refine a8z ?_ | refine blk_alloc ?_ _)); exact BK116.1)) : gb123 ≠ gb116))
          clear BK115
          clear BK116
          clear HB
          have BK115 := n0_
          have BK116 := n1_
          have HB := n2_
          have BK123 := n3_
          have GW123 := n4_
          have GE123 := n5_
          have NB115_123 := n6_
          have NB123_115 := n7_
          have NB116_123 := n8_
          have NB123_116 := n9_
          clear n0_ n1_ n2_ n3_ n4_ n5_ n6_ n7_ n8_ n9_
          clear hb hbox hg
          refine hK.out _ _ ⟨(a0z BK115.1 0).trans rfl, (a0z BK115.1 1).trans rfl, (a0z BK115.1 2).trans rfl, (a0z BK115.1 3).trans rfl, (a0z BK115.1 4).trans rfl, (a0z BK115.1 5).trans rfl, (a0z BK115.1 6).trans rfl, (a0z BK116.1 0).trans rfl, (a0z BK116.1 1).trans rfl, (a0z BK116.1 2).trans rfl, (a0z BK116.1 3).trans rfl, (a0z BK116.1 4).trans rfl, (a0z BK116.1 5).trans rfl, (a0z BK116.1 6).trans rfl⟩ (fun hHeld => ?_)
          clear hK K
          refine norm_ (a' := ?_) ?_ ?_
          rotate_left
          ·show Act.put _ (some 6) _ = _
           simp only [Act.put, sA_, sZ_, sS_, i64_w, i32_w]
           rfl
          refine one_ (i := 14) (N := some 46) #[true, true, true, true, true, true, true, true, true, true, true, true, true, true, true, false, true, false] rfl rfl (f1z HT_.1 (by kernel_rfl)) (by decide) (fun K hK => ?_)
          refine goes_ Try.func48 (by kernel_rfl) rfl #[.int .i64 t105, .int .i64 t112] (by rfl) rfl rfl (by (try simp only [List.map_toArray, List.map_cons, List.map_nil]); first | done | rfl | (simp only [List.length_drop, List.length_take]; rfl)) ?_
          with_reducible refine (laws_ovMore.calls t105 t112 t122 _ A30.1).mono ?_
          rintro e w' ⟨rfl, ⟨nd, rfl⟩⟩
          refine ⟨_, rfl, ?_⟩
          refine hK.out _ _ ⟨(a0z BK115.1 0).trans rfl, (a0z BK115.1 1).trans rfl, (a0z BK115.1 2).trans rfl, (a0z BK115.1 3).trans rfl, (a0z BK115.1 4).trans rfl, (a0z BK115.1 5).trans rfl, (a0z BK115.1 6).trans rfl, (a0z BK116.1 0).trans rfl, (a0z BK116.1 1).trans rfl, (a0z BK116.1 2).trans rfl, (a0z BK116.1 3).trans rfl, (a0z BK116.1 4).trans rfl, (a0z BK116.1 5).trans rfl, (a0z BK116.1 6).trans rfl⟩ (fun hHeld => ?_)
          clear hK K
          refine norm_ (a' := ?_) ?_ ?_
          rotate_left
          ·show Act.put _ (some 46) _ = _
           simp only [Act.put, sA_, sZ_, sS_, i64_w, i32_w]
           rfl
          refine pure_ (i := 15) (N := some 47) (v := ?_) (a' := ?_) #[true, true, true, true, true, true, true, true, true, true, true, true, true, true, true, true, true, false] rfl rfl (c9z HT_.1 (by kernel_rfl)) (fun _ _ _ h => h) (Or.inl ⟨by rfl, ?_⟩) ?_ ?_
          rotate_left
          ·intro w'
           go_simp
           with_reducible rfl
          rotate_left
          ·simp only [Act.put, sA_, sZ_, sS_, i64_w, i32_w]
           rfl
          exact norm_ (by simp only [putAll, Act.put, sA_, sZ_, sS_]) (hCont (gb123) _ ⟨hHeld, (by (with_reducible repeat (first | refine a7z ?_ _ | refine a8z ?_ | refine blk_alloc ?_ _)); exact BK115.1), (by (with_reducible repeat (first | refine a7z ?_ _ | refine a8z ?_ | refine blk_alloc ?_ _)); exact BK116.1), (by (with_reducible repeat (first | refine a7z ?_ _ | refine a8z ?_ | refine blk_alloc ?_ _)); exact BK123.1), GW123.1, GE123.1, NB115_123.1, NB123_115.1, NB116_123.1, NB123_116.1, (by repeat (first | (with_reducible first | exact HB.1 | apply a5z | apply a2z | apply a4z | refine a9z ?_ GE115.1 | refine a9z ?_ GE116.1 | refine a9z ?_ GE123.1) | exact HB.1))⟩)
        ·skip
         refine box_step ?hg (N := 6) ?hd (cs := #[.int .i64 0, .int .i64 0, .int .i64 0]) (t := 36) ?hr ?_; (case hd => rfl); (case hg => rfl); (case hr => first | (go_simp; done) | (go_simp; rfl))
         intro gb123 hg w35 hbox hb
         have n0_ := a1z.mk (c4z (g := gb115) (o := .cells #[.int .i64 t101, .int .i64 t102, .int .i64 t103, .int .i64 t104, .int .i64 t105, .int .i64 t106, .int .i64 t107] 67 (0, 0)) (by (with_reducible repeat (first | refine a7z ?_ _ | refine a8z ?_ | refine blk_alloc ?_ _)); exact BK115.1) hb)
         have n1_ := a1z.mk (c4z (g := gb116) (o := .cells #[.int .i64 t108, .int .i64 t109, .int .i64 t110, .int .i64 t111, .int .i64 t112, .int .i64 t113, .int .i64 t114] 67 (0, 0)) (by (with_reducible repeat (first | refine a7z ?_ _ | refine a8z ?_ | refine blk_alloc ?_ _)); exact BK116.1) hb)
         have n2_ := a1z.mk (b7z (by repeat (first | (with_reducible first | exact HB.1 | apply a5z | apply a2z | apply a4z | refine a9z ?_ GE115.1 | refine a9z ?_ GE116.1) | exact HB.1)) hb)
         have n3_ := a1z.mk (hbox)
         have n4_ := a1z.mk ((by rw [hg]; exact (b5z (by repeat (first | (with_reducible first | exact HB.1 | apply a5z | apply a2z | apply a4z | refine a9z ?_ GE115.1 | refine a9z ?_ GE116.1) | exact HB.1))) : w.heap.size ≤ gb123))
         have n5_ := a1z.mk ((by rw [hg]; exact (b5z (by repeat (first | (with_reducible first | exact HB.1 | apply a5z | apply a2z | apply a4z | refine a9z ?_ GE115.1 | refine a9z ?_ GE116.1) | exact HB.1))) : w.heap.size ≤ gb123))
         have n6_ := a1z.mk ((by rw [hg]; exact Nat.ne_of_lt (d9z (g := gb115) (o := .cells #[.int .i64 t101, .int .i64 t102, .int .i64 t103, .int .i64 t104, .int .i64 t105, .int .i64 t106, .int .i64 t107] 67 (0, 0)) (by (with_reducible repeat (first | refine a7z ?_ _ | refine a8z ?_ | refine blk_alloc ?_ _)); exact BK115.1)) : gb115 ≠ gb123))
         have n7_ := a1z.mk ((by rw [hg]; exact Nat.ne_of_gt (d9z (g := gb115) (o := .cells #[.int .i64 t101, .int .i64 t102, .int .i64 t103, .int .i64 t104, .int .i64 t105, .int .i64 t106, .int .i64 t107] 67 (0, 0)) (by (with_reducible repeat (first | refine a7z ?_ _ | refine a8z ?_ | refine blk_alloc ?_ _)); exact BK115.1)) : gb123 ≠ gb115))
         have n8_ := a1z.mk ((by rw [hg]; exact Nat.ne_of_lt (d9z (g := gb116) (o := .cells #[.int .i64 t108, .int .i64 t109, .int .i64 t110, .int .i64 t111, .int .i64 t112, .int .i64 t113, .int .i64 t114] 67 (0, 0)) (by (with_reducible repeat (first | refine a7z ?_ _ | refine a8z ?_ | refine blk_alloc ?_ _)); exact BK116.1)) : gb116 ≠ gb123))
         have n9_ := a1z.mk ((by rw [hg]; exact Nat.ne_of_gt (d9z (g := gb116) (o := .cells #[.int .i64 t108, .int .i64 t109, .int .i64 t110, .int .i64 t111, .int .i64 t112, .int .i64 t113, .int .i64 t114] 67 (0, 0)) (by (with_reducible repeat (first | refine a7z ?_ _ | refine a8z ?_ | refine blk_alloc ?_ _)); exact BK116.1)) : gb123 ≠ gb116))
         clear BK115
         clear BK116
         clear HB
         have BK115 := n0_
         have BK116 := n1_
         have HB := n2_
         have BK123 := n3_
         have GW123 := n4_
         have GE123 := n5_
         have NB115_123 := n6_
         have NB123_115 := n7_
         have NB116_123 := n8_
         have NB123_116 := n9_
         clear n0_ n1_ n2_ n3_ n4_ n5_ n6_ n7_ n8_ n9_
         clear hb hbox hg
         refine hK.out _ _ ⟨(a0z BK115.1 0).trans rfl, (a0z BK115.1 1).trans rfl, (a0z BK115.1 2).trans rfl, (a0z BK115.1 3).trans rfl, (a0z BK115.1 4).trans rfl, (a0z BK115.1 5).trans rfl, (a0z BK115.1 6).trans rfl, (a0z BK116.1 0).trans rfl, (a0z BK116.1 1).trans rfl, (a0z BK116.1 2).trans rfl, (a0z BK116.1 3).trans rfl, (a0z BK116.1 4).trans rfl, (a0z BK116.1 5).trans rfl, (a0z BK116.1 6).trans rfl⟩ (fun hHeld => ?_)
         clear hK K
         refine norm_ (a' := ?_) ?_ ?_
         rotate_left
         ·show Act.put _ (some 6) _ = _
          simp only [Act.put, sA_, sZ_, sS_, i64_w, i32_w]
          rfl
         refine one_ (i := 9) (N := some 41) #[true, true, true, true, true, true, true, true, true, true, true, true, true, true, false, false, true, false] rfl rfl (f1z HT_.1 (by kernel_rfl)) (by decide) (fun K hK => ?_)
         refine goes_ Try.func48 (by kernel_rfl) rfl #[.int .i64 t103, .int .i64 t110] (by rfl) rfl rfl (by (try simp only [List.map_toArray, List.map_cons, List.map_nil]); first | done | rfl | (simp only [List.length_drop, List.length_take]; rfl)) ?_
         with_reducible refine (laws_ovMore.calls t103 t110 t121 _ A29.1).mono ?_
         rintro e w' ⟨rfl, ⟨nd, rfl⟩⟩
         refine ⟨_, rfl, ?_⟩
         refine hK.out _ _ ⟨(a0z BK115.1 0).trans rfl, (a0z BK115.1 1).trans rfl, (a0z BK115.1 2).trans rfl, (a0z BK115.1 3).trans rfl, (a0z BK115.1 4).trans rfl, (a0z BK115.1 5).trans rfl, (a0z BK115.1 6).trans rfl, (a0z BK116.1 0).trans rfl, (a0z BK116.1 1).trans rfl, (a0z BK116.1 2).trans rfl, (a0z BK116.1 3).trans rfl, (a0z BK116.1 4).trans rfl, (a0z BK116.1 5).trans rfl, (a0z BK116.1 6).trans rfl⟩ (fun hHeld => ?_)
         clear hK K
         refine norm_ (a' := ?_) ?_ ?_
         rotate_left
         ·show Act.put _ (some 41) _ = _
          simp only [Act.put, sA_, sZ_, sS_, i64_w, i32_w]
          rfl
         refine one_ (i := 14) (N := some 46) #[true, true, true, true, true, true, true, true, true, true, true, true, true, true, true, false, true, false] rfl rfl (f1z HT_.1 (by kernel_rfl)) (by decide) (fun K hK => ?_)
         refine goes_ Try.func48 (by kernel_rfl) rfl #[.int .i64 t105, .int .i64 t112] (by rfl) rfl rfl (by (try simp only [List.map_toArray, List.map_cons, List.map_nil]); first | done | rfl | (simp only [List.length_drop, List.length_take]; rfl)) ?_
         with_reducible refine (laws_ovMore.calls t105 t112 t122 _ A30.1).mono ?_
         rintro e w' ⟨rfl, ⟨nd, rfl⟩⟩
         refine ⟨_, rfl, ?_⟩
         refine hK.out _ _ ⟨(a0z BK115.1 0).trans rfl, (a0z BK115.1 1).trans rfl, (a0z BK115.1 2).trans rfl, (a0z BK115.1 3).trans rfl, (a0z BK115.1 4).trans rfl, (a0z BK115.1 5).trans rfl, (a0z BK115.1 6).trans rfl, (a0z BK116.1 0).trans rfl, (a0z BK116.1 1).trans rfl, (a0z BK116.1 2).trans rfl, (a0z BK116.1 3).trans rfl, (a0z BK116.1 4).trans rfl, (a0z BK116.1 5).trans rfl, (a0z BK116.1 6).trans rfl⟩ (fun hHeld => ?_)
         clear hK K
         refine norm_ (a' := ?_) ?_ ?_
         rotate_left
         ·show Act.put _ (some 46) _ = _
          simp only [Act.put, sA_, sZ_, sS_, i64_w, i32_w]
          rfl
         refine pure_ (i := 15) (N := some 47) (v := ?_) (a' := ?_) #[true, true, true, true, true, true, true, true, true, true, true, true, true, true, true, true, true, false] rfl rfl (c9z HT_.1 (by kernel_rfl)) (fun _ _ _ h => h) (Or.inl ⟨by rfl, ?_⟩) ?_ ?_
         rotate_left
         ·intro w'
          go_simp
          with_reducible rfl
         rotate_left
         ·simp only [Act.put, sA_, sZ_, sS_, i64_w, i32_w]
          rfl
         exact norm_ (by simp only [putAll, Act.put, sA_, sZ_, sS_]) (hCont (gb123) _ ⟨hHeld, (by (with_reducible repeat (first | refine a7z ?_ _ | refine a8z ?_ | refine blk_alloc ?_ _)); exact BK115.1), (by (with_reducible repeat (first | refine a7z ?_ _ | refine a8z ?_ | refine blk_alloc ?_ _)); exact BK116.1), (by (with_reducible repeat (first | refine a7z ?_ _ | refine a8z ?_ | refine blk_alloc ?_ _)); exact BK123.1), GW123.1, GE123.1, NB115_123.1, NB123_115.1, NB116_123.1, NB123_116.1, (by repeat (first | (with_reducible first | exact HB.1 | apply a5z | apply a2z | apply a4z | refine a9z ?_ GE115.1 | refine a9z ?_ GE116.1 | refine a9z ?_ GE123.1) | exact HB.1))⟩)
       ·skip
        refine box_step ?hg (N := 6) ?hd (cs := #[.int .i64 0, .int .i64 0, .int .i64 0]) (t := 36) ?hr ?_; (case hd => rfl); (case hg => rfl); (case hr => first | (go_simp; done) | (go_simp; rfl))
        intro gb123 hg w35 hbox hb
        have n0_ := a1z.mk (c4z (g := gb115) (o := .cells #[.int .i64 t101, .int .i64 t102, .int .i64 t103, .int .i64 t104, .int .i64 t105, .int .i64 t106, .int .i64 t107] 67 (0, 0)) (by (with_reducible repeat (first | refine a7z ?_ _ | refine a8z ?_ | refine blk_alloc ?_ _)); exact BK115.1) hb)
        have n1_ := a1z.mk (c4z (g := gb116) (o := .cells #[.int .i64 t108, .int .i64 t109, .int .i64 t110, .int .i64 t111, .int .i64 t112, .int .i64 t113, .int .i64 t114] 67 (0, 0)) (by (with_reducible repeat (first | refine a7z ?_ _ | refine a8z ?_ | refine blk_alloc ?_ _)); exact BK116.1) hb)
        have n2_ := a1z.mk (b7z (by repeat (first | (with_reducible first | exact HB.1 | apply a5z | apply a2z | apply a4z | refine a9z ?_ GE115.1 | refine a9z ?_ GE116.1) | exact HB.1)) hb)
        have n3_ := a1z.mk (hbox)
        have n4_ := a1z.mk ((by rw [hg]; exact (b5z (by repeat (first | (with_reducible first | exact HB.1 | apply a5z | apply a2z | apply a4z | refine a9z ?_ GE115.1 | refine a9z ?_ GE116.1) | exact HB.1))) : w.heap.size ≤ gb123))
        have n5_ := a1z.mk ((by rw [hg]; exact (b5z (by repeat (first | (with_reducible first | exact HB.1 | apply a5z | apply a2z | apply a4z | refine a9z ?_ GE115.1 | refine a9z ?_ GE116.1) | exact HB.1))) : w.heap.size ≤ gb123))
        have n6_ := a1z.mk ((by rw [hg]; exact Nat.ne_of_lt (d9z (g := gb115) (o := .cells #[.int .i64 t101, .int .i64 t102, .int .i64 t103, .int .i64 t104, .int .i64 t105, .int .i64 t106, .int .i64 t107] 67 (0, 0)) (by (with_reducible repeat (first | refine a7z ?_ _ | refine a8z ?_ | refine blk_alloc ?_ _)); exact BK115.1)) : gb115 ≠ gb123))
        have n7_ := a1z.mk ((by rw [hg]; exact Nat.ne_of_gt (d9z (g := gb115) (o := .cells #[.int .i64 t101, .int .i64 t102, .int .i64 t103, .int .i64 t104, .int .i64 t105, .int .i64 t106, .int .i64 t107] 67 (0, 0)) (by (with_reducible repeat (first | refine a7z ?_ _ | refine a8z ?_ | refine blk_alloc ?_ _)); exact BK115.1)) : gb123 ≠ gb115))
        have n8_ := a1z.mk ((by rw [hg]; exact Nat.ne_of_lt (d9z (g := gb116) (o := .cells #[.int .i64 t108, .int .i64 t109, .int .i64 t110, .int .i64 t111, .int .i64 t112, .int .i64 t113, .int .i64 t114] 67 (0, 0)) (by (with_reducible repeat (first | refine a7z ?_ _ | refine a8z ?_ | refine blk_alloc ?_ _)); exact BK116.1)) : gb116 ≠ gb123))
        have n9_ := a1z.mk ((by rw [hg]; exact Nat.ne_of_gt (d9z (g := gb116) (o := .cells #[.int .i64 t108, .int .i64 t109, .int .i64 t110, .int .i64 t111, .int .i64 t112, .int .i64 t113, .int .i64 t114] 67 (0, 0)) (by (with_reducible repeat (first | refine a7z ?_ _ | refine a8z ?_ | refine blk_alloc ?_ _)); exact BK116.1)) : gb123 ≠ gb116))
        clear BK115
        clear BK116
        clear HB
        have BK115 := n0_
        have BK116 := n1_
        have HB := n2_
        have BK123 := n3_
        have GW123 := n4_
        have GE123 := n5_
        have NB115_123 := n6_
        have NB123_115 := n7_
        have NB116_123 := n8_
        have NB123_116 := n9_
        clear n0_ n1_ n2_ n3_ n4_ n5_ n6_ n7_ n8_ n9_
        clear hb hbox hg
        refine hK.out _ _ ⟨(a0z BK115.1 0).trans rfl, (a0z BK115.1 1).trans rfl, (a0z BK115.1 2).trans rfl, (a0z BK115.1 3).trans rfl, (a0z BK115.1 4).trans rfl, (a0z BK115.1 5).trans rfl, (a0z BK115.1 6).trans rfl, (a0z BK116.1 0).trans rfl, (a0z BK116.1 1).trans rfl, (a0z BK116.1 2).trans rfl, (a0z BK116.1 3).trans rfl, (a0z BK116.1 4).trans rfl, (a0z BK116.1 5).trans rfl, (a0z BK116.1 6).trans rfl⟩ (fun hHeld => ?_)
        clear hK K
        refine norm_ (a' := ?_) ?_ ?_
        rotate_left
        ·show Act.put _ (some 6) _ = _
         simp only [Act.put, sA_, sZ_, sS_, i64_w, i32_w]
         rfl
        refine one_ (i := 4) (N := some 36) #[true, true, true, true, true, true, true, true, true, false, true, true, true, true, false, false, true, false] rfl rfl (f1z HT_.1 (by kernel_rfl)) (by decide) (fun K hK => ?_)
        refine goes_ Try.func48 (by kernel_rfl) rfl #[.int .i64 t101, .int .i64 t108] (by rfl) rfl rfl (by (try simp only [List.map_toArray, List.map_cons, List.map_nil]); first | done | rfl | (simp only [List.length_drop, List.length_take]; rfl)) ?_
        with_reducible refine (laws_ovMore.calls t101 t108 t120 _ A28.1).mono ?_
        rintro e w' ⟨rfl, ⟨nd, rfl⟩⟩
        refine ⟨_, rfl, ?_⟩
        refine hK.out _ _ ⟨(a0z BK115.1 0).trans rfl, (a0z BK115.1 1).trans rfl, (a0z BK115.1 2).trans rfl, (a0z BK115.1 3).trans rfl, (a0z BK115.1 4).trans rfl, (a0z BK115.1 5).trans rfl, (a0z BK115.1 6).trans rfl, (a0z BK116.1 0).trans rfl, (a0z BK116.1 1).trans rfl, (a0z BK116.1 2).trans rfl, (a0z BK116.1 3).trans rfl, (a0z BK116.1 4).trans rfl, (a0z BK116.1 5).trans rfl, (a0z BK116.1 6).trans rfl⟩ (fun hHeld => ?_)
        clear hK K
        refine norm_ (a' := ?_) ?_ ?_
        rotate_left
        ·show Act.put _ (some 36) _ = _
         simp only [Act.put, sA_, sZ_, sS_, i64_w, i32_w]
         rfl
        refine one_ (i := 9) (N := some 41) #[true, true, true, true, true, true, true, true, true, true, true, true, true, true, false, false, true, false] rfl rfl (f1z HT_.1 (by kernel_rfl)) (by decide) (fun K hK => ?_)
        refine goes_ Try.func48 (by kernel_rfl) rfl #[.int .i64 t103, .int .i64 t110] (by rfl) rfl rfl (by (try simp only [List.map_toArray, List.map_cons, List.map_nil]); first | done | rfl | (simp only [List.length_drop, List.length_take]; rfl)) ?_
        with_reducible refine (laws_ovMore.calls t103 t110 t121 _ A29.1).mono ?_
        rintro e w' ⟨rfl, ⟨nd, rfl⟩⟩
        refine ⟨_, rfl, ?_⟩
        refine hK.out _ _ ⟨(a0z BK115.1 0).trans rfl, (a0z BK115.1 1).trans rfl, (a0z BK115.1 2).trans rfl, (a0z BK115.1 3).trans rfl, (a0z BK115.1 4).trans rfl, (a0z BK115.1 5).trans rfl, (a0z BK115.1 6).trans rfl, (a0z BK116.1 0).trans rfl, (a0z BK116.1 1).trans rfl, (a0z BK116.1 2).trans rfl, (a0z BK116.1 3).trans rfl, (a0z BK116.1 4).trans rfl, (a0z BK116.1 5).trans rfl, (a0z BK116.1 6).trans rfl⟩ (fun hHeld => ?_)
        clear hK K
        refine norm_ (a' := ?_) ?_ ?_
        rotate_left
        ·show Act.put _ (some 41) _ = _
         simp only [Act.put, sA_, sZ_, sS_, i64_w, i32_w]
         rfl
        refine one_ (i := 14) (N := some 46) #[true, true, true, true, true, true, true, true, true, true, true, true, true, true, true, false, true, false] rfl rfl (f1z HT_.1 (by kernel_rfl)) (by decide) (fun K hK => ?_)
        refine goes_ Try.func48 (by kernel_rfl) rfl #[.int .i64 t105, .int .i64 t112] (by rfl) rfl rfl (by (try simp only [List.map_toArray, List.map_cons, List.map_nil]); first | done | rfl | (simp only [List.length_drop, List.length_take]; rfl)) ?_
        with_reducible refine (laws_ovMore.calls t105 t112 t122 _ A30.1).mono ?_
        rintro e w' ⟨rfl, ⟨nd, rfl⟩⟩
        refine ⟨_, rfl, ?_⟩
        refine hK.out _ _ ⟨(a0z BK115.1 0).trans rfl, (a0z BK115.1 1).trans rfl, (a0z BK115.1 2).trans rfl, (a0z BK115.1 3).trans rfl, (a0z BK115.1 4).trans rfl, (a0z BK115.1 5).trans rfl, (a0z BK115.1 6).trans rfl, (a0z BK116.1 0).trans rfl, (a0z BK116.1 1).trans rfl, (a0z BK116.1 2).trans rfl, (a0z BK116.1 3).trans rfl, (a0z BK116.1 4).trans rfl, (a0z BK116.1 5).trans rfl, (a0z BK116.1 6).trans rfl⟩ (fun hHeld => ?_)
        clear hK K
        refine norm_ (a' := ?_) ?_ ?_
        rotate_left
        ·show Act.put _ (some 46) _ = _
         simp only [Act.put, sA_, sZ_, sS_, i64_w, i32_w]
         rfl
        refine pure_ (i := 15) (N := some 47) (v := ?_) (a' := ?_) #[true, true, true, true, true, true, true, true, true, true, true, true, true, true, true, true, true, false] rfl rfl (c9z HT_.1 (by kernel_rfl)) (fun _ _ _ h => h) (Or.inl ⟨by rfl, ?_⟩) ?_ ?_
        rotate_left
        ·intro w'
         go_simp
         with_reducible rfl
        rotate_left
        ·simp only [Act.put, sA_, sZ_, sS_, i64_w, i32_w]
         rfl
        exact norm_ (by simp only [putAll, Act.put, sA_, sZ_, sS_]) (hCont (gb123) _ ⟨hHeld, (by (with_reducible repeat (first | refine a7z ?_ _ | refine a8z ?_ | refine blk_alloc ?_ _)); exact BK115.1), (by (with_reducible repeat (first | refine a7z ?_ _ | refine a8z ?_ | refine blk_alloc ?_ _)); exact BK116.1), (by (with_reducible repeat (first | refine a7z ?_ _ | refine a8z ?_ | refine blk_alloc ?_ _)); exact BK123.1), GW123.1, GE123.1, NB115_123.1, NB123_115.1, NB116_123.1, NB123_116.1, (by repeat (first | (with_reducible first | exact HB.1 | apply a5z | apply a2z | apply a4z | refine a9z ?_ GE115.1 | refine a9z ?_ GE116.1 | refine a9z ?_ GE123.1) | exact HB.1))⟩)
      rintro gb123 w36 ⟨hS_, h0_, h1_, h2_, h3_, h4_, h5_, h6_, h7_, h8_, h9_⟩
      have n0_ : a1z (w36.heap[gb115]? = some (.cells #[.int .i64 t101, .int .i64 t102, .int .i64 t103, .int .i64 t104, .int .i64 t105, .int .i64 t106, .int .i64 t107] 67 (0, 0))) := ⟨h0_⟩
      have n1_ : a1z (w36.heap[gb116]? = some (.cells #[.int .i64 t108, .int .i64 t109, .int .i64 t110, .int .i64 t111, .int .i64 t112, .int .i64 t113, .int .i64 t114] 67 (0, 0))) := ⟨h1_⟩
      have n2_ : a1z (w36.heap[gb123]? = some (.cells #[.int .i64 0, .int .i64 0, .int .i64 0] 36 (0, 0))) := ⟨h2_⟩
      have n3_ : a1z (w.heap.size ≤ gb123) := ⟨h3_⟩
      have n4_ : a1z (w.heap.size ≤ gb123) := ⟨h4_⟩
      have n5_ : a1z (gb115 ≠ gb123) := ⟨h5_⟩
      have n6_ : a1z (gb123 ≠ gb115) := ⟨h6_⟩
      have n7_ : a1z (gb116 ≠ gb123) := ⟨h7_⟩
      have n8_ : a1z (gb123 ≠ gb116) := ⟨h8_⟩
      have n9_ : a1z (Below w.heap.size w w36) := ⟨h9_⟩
      clear BK115
      clear BK116
      clear HB
      clear h0_ h1_ h2_ h3_ h4_ h5_ h6_ h7_ h8_ h9_
      have BK115 := n0_
      have BK116 := n1_
      have BK123 := n2_
      have GW123 := n3_
      have GE123 := n4_
      have NB115_123 := n5_
      have NB123_115 := n6_
      have NB116_123 := n7_
      have NB123_116 := n8_
      have HB := n9_
      clear n0_ n1_ n2_ n3_ n4_ n5_ n6_ n7_ n8_ n9_
      have hHeld : w36.cell? ⟨gb115, 0, none⟩ = some (.int .i64 t101) ∧ w36.cell? ⟨gb115, 1, none⟩ = some (.int .i64 t102) ∧ w36.cell? ⟨gb115, 2, none⟩ = some (.int .i64 t103) ∧ w36.cell? ⟨gb115, 3, none⟩ = some (.int .i64 t104) ∧ w36.cell? ⟨gb115, 4, none⟩ = some (.int .i64 t105) ∧ w36.cell? ⟨gb115, 5, none⟩ = some (.int .i64 t106) ∧ w36.cell? ⟨gb115, 6, none⟩ = some (.int .i64 t107) ∧ w36.cell? ⟨gb116, 0, none⟩ = some (.int .i64 t108) ∧ w36.cell? ⟨gb116, 1, none⟩ = some (.int .i64 t109) ∧ w36.cell? ⟨gb116, 2, none⟩ = some (.int .i64 t110) ∧ w36.cell? ⟨gb116, 3, none⟩ = some (.int .i64 t111) ∧ w36.cell? ⟨gb116, 4, none⟩ = some (.int .i64 t112) ∧ w36.cell? ⟨gb116, 5, none⟩ = some (.int .i64 t113) ∧ w36.cell? ⟨gb116, 6, none⟩ = some (.int .i64 t114) := hS_
      refine norm_ (a' := ?_) ?_ ?_
      rotate_left
      ·simp only [putAll, Act.put, sA_, sZ_, sS_]
       rfl
      refine one_ (i := 17) (N := none) #[true, true, true, true, true, true, true, true, true, true, true, true, true, true, true, true, true, true] rfl rfl (f1z HT_.1 (by kernel_rfl)) (by decide) (fun K hK => ?_)
      have hs37 : w36.cell? ⟨gb123, 0, none⟩ = some (.int .i64 0) := (a0z BK123.1 0).trans rfl
      have hfs37 := a3z BK123.1 0
      have hns37_0 := NB115_123.1
      have hns37_1 := NB116_123.1
      have hms37_0 := NB123_115.1
      have hms37_1 := NB123_116.1
      have hs38 : w36.cell? ⟨gb123, 1, none⟩ = some (.int .i64 0) := (a0z BK123.1 1).trans rfl
      have hfs38 := a3z BK123.1 1
      have hns38_0 := NB115_123.1
      have hns38_1 := NB116_123.1
      have hms38_0 := NB123_115.1
      have hms38_1 := NB123_116.1
      have hs39 : w36.cell? ⟨gb123, 2, none⟩ = some (.int .i64 0) := (a0z BK123.1 2).trans rfl
      have hfs39 := a3z BK123.1 2
      have hns39_0 := NB115_123.1
      have hns39_1 := NB116_123.1
      have hms39_0 := NB123_115.1
      have hms39_1 := NB123_116.1
      refine skip_ (w1 := ?_) (by rfl) rfl ?_ ?_
      rotate_left
      ·go_simp
       rfl
      refine hK.out _ _ ⟨((b2z (p := ⟨gb123, _, none⟩) NB115_123.1 _).trans (((b2z (p := ⟨gb123, _, none⟩) NB115_123.1 _).trans (((b2z (p := ⟨gb123, _, none⟩) NB115_123.1 _).trans (hHeld.1)))))), ((b2z (p := ⟨gb123, _, none⟩) NB115_123.1 _).trans (((b2z (p := ⟨gb123, _, none⟩) NB115_123.1 _).trans (((b2z (p := ⟨gb123, _, none⟩) NB115_123.1 _).trans (hHeld.2.1)))))), ((b2z (p := ⟨gb123, _, none⟩) NB115_123.1 _).trans (((b2z (p := ⟨gb123, _, none⟩) NB115_123.1 _).trans (((b2z (p := ⟨gb123, _, none⟩) NB115_123.1 _).trans (hHeld.2.2.1)))))), ((b2z (p := ⟨gb123, _, none⟩) NB115_123.1 _).trans (((b2z (p := ⟨gb123, _, none⟩) NB115_123.1 _).trans (((b2z (p := ⟨gb123, _, none⟩) NB115_123.1 _).trans (hHeld.2.2.2.1)))))), ((b2z (p := ⟨gb123, _, none⟩) NB115_123.1 _).trans (((b2z (p := ⟨gb123, _, none⟩) NB115_123.1 _).trans (((b2z (p := ⟨gb123, _, none⟩) NB115_123.1 _).trans (hHeld.2.2.2.2.1)))))), ((b2z (p := ⟨gb123, _, none⟩) NB115_123.1 _).trans (((b2z (p := ⟨gb123, _, none⟩) NB115_123.1 _).trans (((b2z (p := ⟨gb123, _, none⟩) NB115_123.1 _).trans (hHeld.2.2.2.2.2.1)))))), ((b2z (p := ⟨gb123, _, none⟩) NB115_123.1 _).trans (((b2z (p := ⟨gb123, _, none⟩) NB115_123.1 _).trans (((b2z (p := ⟨gb123, _, none⟩) NB115_123.1 _).trans (hHeld.2.2.2.2.2.2.1)))))), ((b2z (p := ⟨gb123, _, none⟩) NB116_123.1 _).trans (((b2z (p := ⟨gb123, _, none⟩) NB116_123.1 _).trans (((b2z (p := ⟨gb123, _, none⟩) NB116_123.1 _).trans (hHeld.2.2.2.2.2.2.2.1)))))), ((b2z (p := ⟨gb123, _, none⟩) NB116_123.1 _).trans (((b2z (p := ⟨gb123, _, none⟩) NB116_123.1 _).trans (((b2z (p := ⟨gb123, _, none⟩) NB116_123.1 _).trans (hHeld.2.2.2.2.2.2.2.2.1)))))), ((b2z (p := ⟨gb123, _, none⟩) NB116_123.1 _).trans (((b2z (p := ⟨gb123, _, none⟩) NB116_123.1 _).trans (((b2z (p := ⟨gb123, _, none⟩) NB116_123.1 _).trans (hHeld.2.2.2.2.2.2.2.2.2.1)))))), ((b2z (p := ⟨gb123, _, none⟩) NB116_123.1 _).trans (((b2z (p := ⟨gb123, _, none⟩) NB116_123.1 _).trans (((b2z (p := ⟨gb123, _, none⟩) NB116_123.1 _).trans (hHeld.2.2.2.2.2.2.2.2.2.2.1)))))), ((b2z (p := ⟨gb123, _, none⟩) NB116_123.1 _).trans (((b2z (p := ⟨gb123, _, none⟩) NB116_123.1 _).trans (((b2z (p := ⟨gb123, _, none⟩) NB116_123.1 _).trans (hHeld.2.2.2.2.2.2.2.2.2.2.2.1)))))), ((b2z (p := ⟨gb123, _, none⟩) NB116_123.1 _).trans (((b2z (p := ⟨gb123, _, none⟩) NB116_123.1 _).trans (((b2z (p := ⟨gb123, _, none⟩) NB116_123.1 _).trans (hHeld.2.2.2.2.2.2.2.2.2.2.2.2.1)))))), ((b2z (p := ⟨gb123, _, none⟩) NB116_123.1 _).trans (((b2z (p := ⟨gb123, _, none⟩) NB116_123.1 _).trans (((b2z (p := ⟨gb123, _, none⟩) NB116_123.1 _).trans (hHeld.2.2.2.2.2.2.2.2.2.2.2.2.2))))))⟩ (fun hHeld => ?_)
      clear hK K
      refine done_ (h7z HT_.1 (by kernel_rfl)) ?_
      have hnb40 := NB115_116.1
      have hnc40 := NB116_115.1
      have hnb41 := NB115_123.1
      have hnc41 := NB123_115.1
      have hcz42_0 : w36.cell? ⟨gb115, 0, none⟩ = some (.int .i64 t101) := (a0z BK115.1 0).trans rfl
      have hcz42_1 : w36.cell? ⟨gb115, 1, none⟩ = some (.int .i64 t102) := (a0z BK115.1 1).trans rfl
      have hcz42_2 : w36.cell? ⟨gb115, 2, none⟩ = some (.int .i64 t103) := (a0z BK115.1 2).trans rfl
      have hcz42_3 : w36.cell? ⟨gb115, 3, none⟩ = some (.int .i64 t104) := (a0z BK115.1 3).trans rfl
      have hcz42_4 : w36.cell? ⟨gb115, 4, none⟩ = some (.int .i64 t105) := (a0z BK115.1 4).trans rfl
      have hcz42_5 : w36.cell? ⟨gb115, 5, none⟩ = some (.int .i64 t106) := (a0z BK115.1 5).trans rfl
      have hcz42_6 : w36.cell? ⟨gb115, 6, none⟩ = some (.int .i64 t107) := (a0z BK115.1 6).trans rfl
      have hfz42_0 := a3z BK115.1 0
      have hfz42_1 := a3z BK115.1 1
      have hfz42_2 := a3z BK115.1 2
      have hfz42_3 := a3z BK115.1 3
      have hfz42_4 := a3z BK115.1 4
      have hfz42_5 := a3z BK115.1 5
      have hfz42_6 := a3z BK115.1 6
      have hnb43 := NB116_123.1
      have hnc43 := NB123_116.1
      have hcz44_0 : w36.cell? ⟨gb116, 0, none⟩ = some (.int .i64 t108) := (a0z BK116.1 0).trans rfl
      have hcz44_1 : w36.cell? ⟨gb116, 1, none⟩ = some (.int .i64 t109) := (a0z BK116.1 1).trans rfl
      have hcz44_2 : w36.cell? ⟨gb116, 2, none⟩ = some (.int .i64 t110) := (a0z BK116.1 2).trans rfl
      have hcz44_3 : w36.cell? ⟨gb116, 3, none⟩ = some (.int .i64 t111) := (a0z BK116.1 3).trans rfl
      have hcz44_4 : w36.cell? ⟨gb116, 4, none⟩ = some (.int .i64 t112) := (a0z BK116.1 4).trans rfl
      have hcz44_5 : w36.cell? ⟨gb116, 5, none⟩ = some (.int .i64 t113) := (a0z BK116.1 5).trans rfl
      have hcz44_6 : w36.cell? ⟨gb116, 6, none⟩ = some (.int .i64 t114) := (a0z BK116.1 6).trans rfl
      have hfz44_0 := a3z BK116.1 0
      have hfz44_1 := a3z BK116.1 1
      have hfz44_2 := a3z BK116.1 2
      have hfz44_3 := a3z BK116.1 3
      have hfz44_4 := a3z BK116.1 4
      have hfz44_5 := a3z BK116.1 5
      have hfz44_6 := a3z BK116.1 6
      try go_wp2_with (first | ((with_reducible refine d1z (N := 51) rfl ?_); refine Kd.R_lit k67 _ 67 ?hg (N := 51) ?hd (xs := ([(⟨t101, t102, t103, t104, t105, t106, 1⟩ : S67)] : List (S67))) (inner := [.int .i64 t101, .int .i64 t102, .int .i64 t103, .int .i64 t104, .int .i64 t105, .int .i64 t106, .int .i64 1]) (ok := fun _ => True) (okp := fun _ => True) ?hr ?hp (fun _ hk => hk) trivial (Below.refl _ _) (Nat.le_refl _) (by simp) ?_; (case hd => rfl); (case hg => rfl); (case hr => first | (go_simp; done) | (go_simp; rfl)); (case hp => exact (Reps.c7 (show Kd.M k67 _ _ _ (⟨t101, t102, t103, t104, t105, t106, 1⟩ : S67) [.int .i64 t101, .int .i64 t102, .int .i64 t103, .int .i64 t104, .int .i64 t105, .int .i64 t106, .int .i64 1] from (g2z _ _ _ (⟨t101, t102, t103, t104, t105, t106, 1⟩ : S67) )) (Reps.none _ _))); intro v125 w45 ho46 hb hg_ hnew_; clear hg_ hnew_; (first | rw [← Ny124.1] at ho46 | (simp only [Int.reduceToNat] at ho46; rw [← Ny124.1] at ho46)); have n0_ := a1z.mk (Kd.e4z (Kd.R_newB (Kd.R_newB ho46 (g := gb115) (o := .cells #[.int .i64 t101, .int .i64 t102, .int .i64 t103, .int .i64 t104, .int .i64 t105, .int .i64 t106, .int .i64 1] 67 (0, 0)) (by (with_reducible repeat (first | refine a7z ?_ _ | refine a8z ?_ | refine blk_alloc ?_ _)); refine c8z ?_ NB115_116.1 _; (with_reducible repeat (first | refine a7z ?_ _ | refine a8z ?_ | refine blk_alloc ?_ _)); refine d0z (cs := #[.int .i64 t101, .int .i64 t102, .int .i64 t103, .int .i64 t104, .int .i64 t105, .int .i64 t106, .int .i64 t107]) ?_ 6 _ rfl; (with_reducible repeat (first | refine a7z ?_ _ | refine a8z ?_ | refine blk_alloc ?_ _)); refine c8z ?_ NB115_123.1 _; (with_reducible repeat (first | refine a7z ?_ _ | refine a8z ?_ | refine blk_alloc ?_ _)); refine c8z ?_ NB115_123.1 _; (with_reducible repeat (first | refine a7z ?_ _ | refine a8z ?_ | refine blk_alloc ?_ _)); refine c8z ?_ NB115_123.1 _; (with_reducible repeat (first | refine a7z ?_ _ | refine a8z ?_ | refine blk_alloc ?_ _)); exact BK115.1)) (g := gb116) (o := .cells #[.int .i64 t108, .int .i64 t109, .int .i64 t110, .int .i64 t111, .int .i64 t112, .int .i64 t113, .int .i64 1] 67 (0, 0)) (by (with_reducible repeat (first | refine a7z ?_ _ | refine a8z ?_ | refine blk_alloc ?_ _)); refine d0z (cs := #[.int .i64 t108, .int .i64 t109, .int .i64 t110, .int .i64 t111, .int .i64 t112, .int .i64 t113, .int .i64 t114]) ?_ 6 _ rfl; (with_reducible repeat (first | refine a7z ?_ _ | refine a8z ?_ | refine blk_alloc ?_ _)); refine c8z ?_ NB116_115.1 _; (with_reducible repeat (first | refine a7z ?_ _ | refine a8z ?_ | refine blk_alloc ?_ _)); refine c8z ?_ NB116_123.1 _; (with_reducible repeat (first | refine a7z ?_ _ | refine a8z ?_ | refine blk_alloc ?_ _)); refine c8z ?_ NB116_123.1 _; (with_reducible repeat (first | refine a7z ?_ _ | refine a8z ?_ | refine blk_alloc ?_ _)); refine c8z ?_ NB116_123.1 _; (with_reducible repeat (first | refine a7z ?_ _ | refine a8z ?_ | refine blk_alloc ?_ _)); exact BK116.1)) (b5z (by repeat (first | (with_reducible first | exact HB.1 | apply a5z | apply a2z | apply a4z | refine a9z ?_ GE115.1 | refine a9z ?_ GE116.1 | refine a9z ?_ GE123.1) | exact HB.1)))); have n1_ := a1z.mk (c4z (g := gb115) (o := .cells #[.int .i64 t101, .int .i64 t102, .int .i64 t103, .int .i64 t104, .int .i64 t105, .int .i64 t106, .int .i64 1] 67 (0, 0)) (by (with_reducible repeat (first | refine a7z ?_ _ | refine a8z ?_ | refine blk_alloc ?_ _)); refine c8z ?_ NB115_116.1 _; (with_reducible repeat (first | refine a7z ?_ _ | refine a8z ?_ | refine blk_alloc ?_ _)); refine d0z (cs := #[.int .i64 t101, .int .i64 t102, .int .i64 t103, .int .i64 t104, .int .i64 t105, .int .i64 t106, .int .i64 t107]) ?_ 6 _ rfl; (with_reducible repeat (first | refine a7z ?_ _ | refine a8z ?_ | refine blk_alloc ?_ _)); refine c8z ?_ NB115_123.1 _; (with_reducible repeat (first | refine a7z ?_ _ | refine a8z ?_ | refine blk_alloc ?_ _)); refine c8z ?_ NB115_123.1 _; (with_reducible repeat (first | refine a7z ?_ _ | refine a8z ?_ | refine blk_alloc ?_ _)); refine c8z ?_ NB115_123.1 _; (with_reducible repeat (first | refine a7z ?_ _ | refine a8z ?_ | refine blk_alloc ?_ _)); exact BK115.1) hb); have n2_ := a1z.mk (c4z (g := gb116) (o := .cells #[.int .i64 t108, .int .i64 t109, .int .i64 t110, .int .i64 t111, .int .i64 t112, .int .i64 t113, .int .i64 1] 67 (0, 0)) (by (with_reducible repeat (first | refine a7z ?_ _ | refine a8z ?_ | refine blk_alloc ?_ _)); refine d0z (cs := #[.int .i64 t108, .int .i64 t109, .int .i64 t110, .int .i64 t111, .int .i64 t112, .int .i64 t113, .int .i64 t114]) ?_ 6 _ rfl; (with_reducible repeat (first | refine a7z ?_ _ | refine a8z ?_ | refine blk_alloc ?_ _)); refine c8z ?_ NB116_115.1 _; (with_reducible repeat (first | refine a7z ?_ _ | refine a8z ?_ | refine blk_alloc ?_ _)); refine c8z ?_ NB116_123.1 _; (with_reducible repeat (first | refine a7z ?_ _ | refine a8z ?_ | refine blk_alloc ?_ _)); refine c8z ?_ NB116_123.1 _; (with_reducible repeat (first | refine a7z ?_ _ | refine a8z ?_ | refine blk_alloc ?_ _)); refine c8z ?_ NB116_123.1 _; (with_reducible repeat (first | refine a7z ?_ _ | refine a8z ?_ | refine blk_alloc ?_ _)); exact BK116.1) hb); have n3_ := a1z.mk (c4z (g := gb123) (o := .cells #[.int .i64 t120, .int .i64 t121, .int .i64 t122] 36 (0, 0)) (by (with_reducible repeat (first | refine a7z ?_ _ | refine a8z ?_ | refine blk_alloc ?_ _)); refine c8z ?_ NB123_116.1 _; (with_reducible repeat (first | refine a7z ?_ _ | refine a8z ?_ | refine blk_alloc ?_ _)); refine c8z ?_ NB123_115.1 _; (with_reducible repeat (first | refine a7z ?_ _ | refine a8z ?_ | refine blk_alloc ?_ _)); refine d0z (cs := #[.int .i64 t120, .int .i64 t121, .int .i64 0]) ?_ 2 _ rfl; (with_reducible repeat (first | refine a7z ?_ _ | refine a8z ?_ | refine blk_alloc ?_ _)); refine d0z (cs := #[.int .i64 t120, .int .i64 0, .int .i64 0]) ?_ 1 _ rfl; (with_reducible repeat (first | refine a7z ?_ _ | refine a8z ?_ | refine blk_alloc ?_ _)); refine d0z (cs := #[.int .i64 0, .int .i64 0, .int .i64 0]) ?_ 0 _ rfl; (with_reducible repeat (first | refine a7z ?_ _ | refine a8z ?_ | refine blk_alloc ?_ _)); exact BK123.1) hb); have n4_ := a1z.mk (b7z (by repeat (first | (with_reducible first | exact HB.1 | apply a5z | apply a2z | apply a4z | refine a9z ?_ GE115.1 | refine a9z ?_ GE116.1 | refine a9z ?_ GE123.1) | exact HB.1)) hb); clear BK115; clear BK116; clear BK123; clear HB; have HO126 := n0_; have BK115 := n1_; have BK116 := n2_; have BK123 := n3_; have HB := n4_; clear n0_ n1_ n2_ n3_ n4_; clear hb ho46; have hcz47_0 : w45.cell? ⟨gb123, 0, none⟩ = some (.int .i64 t120) := (a0z BK123.1 0).trans rfl; have hcz47_1 : w45.cell? ⟨gb123, 1, none⟩ = some (.int .i64 t121) := (a0z BK123.1 1).trans rfl; have hcz47_2 : w45.cell? ⟨gb123, 2, none⟩ = some (.int .i64 t122) := (a0z BK123.1 2).trans rfl; have hfz47_0 := a3z BK123.1 0; have hfz47_1 := a3z BK123.1 1; have hfz47_2 := a3z BK123.1 2; obtain ⟨Ao48, co48, eo48⟩ := Kd.d6z HO126.1; subst eo48) | ((with_reducible refine c5z (f := 22) rfl ?_); refine d5z (some 53) rfl rfl Try.func22 (by kernel_rfl) rfl #[.slice Ao48 y124.length co48, .agg #[.int .i64 t120, .int .i64 t121, .int .i64 t122]] rfl (by (try simp only [List.map_toArray, List.map_cons, List.map_nil]); first | done | rfl | (simp only [List.length_drop, List.length_take]; rfl)) ?_; (with_reducible refine (impl_CellsFind.calls kj4 _ _ y124 t120 t121 t122 t127 _ ?side1 ?side2 A31.1).mono ?_); (case side1 => repeat (first | exact (Kd.b9z HO126.1).2.2 | (with_reducible refine Kd.C_alloc ?_ _) | (with_reducible refine Kd.C_drewN ?_ _) | (with_reducible refine Kd.C_drew ?_))); (case side2 => exact (Kd.b9z HO126.1).2.1); rintro e w49 ⟨rfl, hb⟩; refine ⟨_, rfl, ?_⟩; have n0_ := a1z.mk (Kd.d7z (by (with_reducible repeat (first | apply Kd.R_alloc | apply Kd.b1z | apply Kd.b3z)); exact HO126.1) hb); have n1_ := a1z.mk (c4z (g := gb115) (o := .cells #[.int .i64 t101, .int .i64 t102, .int .i64 t103, .int .i64 t104, .int .i64 t105, .int .i64 t106, .int .i64 1] 67 (0, 0)) (by (with_reducible repeat (first | refine a7z ?_ _ | refine a8z ?_ | refine blk_alloc ?_ _)); exact BK115.1) hb); have n2_ := a1z.mk (c4z (g := gb116) (o := .cells #[.int .i64 t108, .int .i64 t109, .int .i64 t110, .int .i64 t111, .int .i64 t112, .int .i64 t113, .int .i64 1] 67 (0, 0)) (by (with_reducible repeat (first | refine a7z ?_ _ | refine a8z ?_ | refine blk_alloc ?_ _)); exact BK116.1) hb); have n3_ := a1z.mk (c4z (g := gb123) (o := .cells #[.int .i64 t120, .int .i64 t121, .int .i64 t122] 36 (0, 0)) (by (with_reducible repeat (first | refine a7z ?_ _ | refine a8z ?_ | refine blk_alloc ?_ _)); exact BK123.1) hb); have n4_ := a1z.mk (b7z (by repeat (first | (with_reducible first | exact HB.1 | apply a5z | apply a2z | apply a4z | refine a9z ?_ GE115.1 | refine a9z ?_ GE116.1 | refine a9z ?_ GE123.1) | exact HB.1)) hb); clear HO126; clear BK115; clear BK116; clear BK123; clear HB; have HO126 := n0_; have BK115 := n1_; have BK116 := n2_; have BK123 := n3_; have HB := n4_; clear n0_ n1_ n2_ n3_ n4_; (try clear hb); (try clear hb2); (try clear hk); (try clear hi); have hcz50_0 : w49.cell? ⟨gb116, 0, none⟩ = some (.int .i64 t108) := (a0z BK116.1 0).trans rfl; have hcz50_1 : w49.cell? ⟨gb116, 1, none⟩ = some (.int .i64 t109) := (a0z BK116.1 1).trans rfl; have hcz50_2 : w49.cell? ⟨gb116, 2, none⟩ = some (.int .i64 t110) := (a0z BK116.1 2).trans rfl; have hcz50_3 : w49.cell? ⟨gb116, 3, none⟩ = some (.int .i64 t111) := (a0z BK116.1 3).trans rfl; have hcz50_4 : w49.cell? ⟨gb116, 4, none⟩ = some (.int .i64 t112) := (a0z BK116.1 4).trans rfl; have hcz50_5 : w49.cell? ⟨gb116, 5, none⟩ = some (.int .i64 t113) := (a0z BK116.1 5).trans rfl; have hcz50_6 : w49.cell? ⟨gb116, 6, none⟩ = some (.int .i64 1) := (a0z BK116.1 6).trans rfl; have hfz50_0 := a3z BK116.1 0; have hfz50_1 := a3z BK116.1 1; have hfz50_2 := a3z BK116.1 2; have hfz50_3 := a3z BK116.1 3; have hfz50_4 := a3z BK116.1 4; have hfz50_5 := a3z BK116.1 5; have hfz50_6 := a3z BK116.1 6) | ((with_reducible refine d1z (N := 56) rfl ?_); refine Kd.R_lit k67 _ 67 ?hg (N := 56) ?hd (xs := ([(⟨t108, t109, t110, t111, t112, t113, 1⟩ : S67)] : List (S67))) (inner := [.int .i64 t108, .int .i64 t109, .int .i64 t110, .int .i64 t111, .int .i64 t112, .int .i64 t113, .int .i64 1]) (ok := fun _ => True) (okp := fun _ => True) ?hr ?hp (fun _ hk => hk) trivial (Below.refl _ _) (Nat.le_refl _) (by simp) ?_; (case hd => rfl); (case hg => rfl); (case hr => first | (go_simp; done) | (go_simp; rfl)); (case hp => exact (Reps.c7 (show Kd.M k67 _ _ _ (⟨t108, t109, t110, t111, t112, t113, 1⟩ : S67) [.int .i64 t108, .int .i64 t109, .int .i64 t110, .int .i64 t111, .int .i64 t112, .int .i64 t113, .int .i64 1] from (g2z _ _ _ (⟨t108, t109, t110, t111, t112, t113, 1⟩ : S67) )) (Reps.none _ _))); intro v129 w51 ho52 hb hg_ hnew_; clear hg_ hnew_; (first | rw [← Ny128.1] at ho52 | (simp only [Int.reduceToNat] at ho52; rw [← Ny128.1] at ho52)); have n0_ := a1z.mk (Kd.f0z (by (with_reducible repeat (first | apply Kd.R_alloc | apply Kd.b1z | apply Kd.b3z)); exact HO126.1) (Kd.f8z ho52) hb); have n1_ := a1z.mk (Kd.e4z (Kd.R_newB (Kd.R_newB (Kd.f9z ho52 (Kd.R_lt (by (with_reducible repeat (first | apply Kd.R_alloc | apply Kd.b1z | apply Kd.b3z)); exact HO126.1))) (g := gb115) (o := .cells #[.int .i64 t101, .int .i64 t102, .int .i64 t103, .int .i64 t104, .int .i64 t105, .int .i64 t106, .int .i64 1] 67 (0, 0)) (by (with_reducible repeat (first | refine a7z ?_ _ | refine a8z ?_ | refine blk_alloc ?_ _)); exact BK115.1)) (g := gb116) (o := .cells #[.int .i64 t108, .int .i64 t109, .int .i64 t110, .int .i64 t111, .int .i64 t112, .int .i64 t113, .int .i64 1] 67 (0, 0)) (by (with_reducible repeat (first | refine a7z ?_ _ | refine a8z ?_ | refine blk_alloc ?_ _)); exact BK116.1)) (b5z (by repeat (first | (with_reducible first | exact HB.1 | apply a5z | apply a2z | apply a4z | refine a9z ?_ GE115.1 | refine a9z ?_ GE116.1 | refine a9z ?_ GE123.1) | exact HB.1)))); have n2_ := a1z.mk (c4z (g := gb115) (o := .cells #[.int .i64 t101, .int .i64 t102, .int .i64 t103, .int .i64 t104, .int .i64 t105, .int .i64 t106, .int .i64 1] 67 (0, 0)) (by (with_reducible repeat (first | refine a7z ?_ _ | refine a8z ?_ | refine blk_alloc ?_ _)); exact BK115.1) hb); have n3_ := a1z.mk (c4z (g := gb116) (o := .cells #[.int .i64 t108, .int .i64 t109, .int .i64 t110, .int .i64 t111, .int .i64 t112, .int .i64 t113, .int .i64 1] 67 (0, 0)) (by (with_reducible repeat (first | refine a7z ?_ _ | refine a8z ?_ | refine blk_alloc ?_ _)); exact BK116.1) hb); have n4_ := a1z.mk (c4z (g := gb123) (o := .cells #[.int .i64 t120, .int .i64 t121, .int .i64 t122] 36 (0, 0)) (by (with_reducible repeat (first | refine a7z ?_ _ | refine a8z ?_ | refine blk_alloc ?_ _)); exact BK123.1) hb); have n5_ := a1z.mk (b7z (by repeat (first | (with_reducible first | exact HB.1 | apply a5z | apply a2z | apply a4z | refine a9z ?_ GE115.1 | refine a9z ?_ GE116.1 | refine a9z ?_ GE123.1) | exact HB.1)) hb); clear HO126; clear BK115; clear BK116; clear BK123; clear HB; have HO126 := n0_; have HO130 := n1_; have BK115 := n2_; have BK116 := n3_; have BK123 := n4_; have HB := n5_; clear n0_ n1_ n2_ n3_ n4_ n5_; clear hb ho52; have hcz53_0 : w51.cell? ⟨gb123, 0, none⟩ = some (.int .i64 t120) := (a0z BK123.1 0).trans rfl; have hcz53_1 : w51.cell? ⟨gb123, 1, none⟩ = some (.int .i64 t121) := (a0z BK123.1 1).trans rfl; have hcz53_2 : w51.cell? ⟨gb123, 2, none⟩ = some (.int .i64 t122) := (a0z BK123.1 2).trans rfl; have hfz53_0 := a3z BK123.1 0; have hfz53_1 := a3z BK123.1 1; have hfz53_2 := a3z BK123.1 2; obtain ⟨Ao54, co54, eo54⟩ := Kd.d6z HO130.1; subst eo54) | ((with_reducible refine c5z (f := 22) rfl ?_); refine d5z (some 58) rfl rfl Try.func22 (by kernel_rfl) rfl #[.slice Ao54 y128.length co54, .agg #[.int .i64 t120, .int .i64 t121, .int .i64 t122]] rfl (by (try simp only [List.map_toArray, List.map_cons, List.map_nil]); first | done | rfl | (simp only [List.length_drop, List.length_take]; rfl)) ?_; (with_reducible refine (impl_CellsFind.calls kj4 _ _ y128 t120 t121 t122 t131 _ ?side1 ?side2 A32.1).mono ?_); (case side1 => repeat (first | exact (Kd.b9z HO130.1).2.2 | (with_reducible refine Kd.C_alloc ?_ _) | (with_reducible refine Kd.C_drewN ?_ _) | (with_reducible refine Kd.C_drew ?_))); (case side2 => exact (Kd.b9z HO130.1).2.1); rintro e w55 ⟨rfl, hb⟩; refine ⟨_, rfl, ?_⟩; have n0_ := a1z.mk (Kd.d7z (by (with_reducible repeat (first | apply Kd.R_alloc | apply Kd.b1z | apply Kd.b3z)); exact HO126.1) hb); have n1_ := a1z.mk (Kd.d7z (by (with_reducible repeat (first | apply Kd.R_alloc | apply Kd.b1z | apply Kd.b3z)); exact HO130.1) hb); have n2_ := a1z.mk (c4z (g := gb115) (o := .cells #[.int .i64 t101, .int .i64 t102, .int .i64 t103, .int .i64 t104, .int .i64 t105, .int .i64 t106, .int .i64 1] 67 (0, 0)) (by (with_reducible repeat (first | refine a7z ?_ _ | refine a8z ?_ | refine blk_alloc ?_ _)); exact BK115.1) hb); have n3_ := a1z.mk (c4z (g := gb116) (o := .cells #[.int .i64 t108, .int .i64 t109, .int .i64 t110, .int .i64 t111, .int .i64 t112, .int .i64 t113, .int .i64 1] 67 (0, 0)) (by (with_reducible repeat (first | refine a7z ?_ _ | refine a8z ?_ | refine blk_alloc ?_ _)); exact BK116.1) hb); have n4_ := a1z.mk (c4z (g := gb123) (o := .cells #[.int .i64 t120, .int .i64 t121, .int .i64 t122] 36 (0, 0)) (by (with_reducible repeat (first | refine a7z ?_ _ | refine a8z ?_ | refine blk_alloc ?_ _)); exact BK123.1) hb); have n5_ := a1z.mk (b7z (by repeat (first | (with_reducible first | exact HB.1 | apply a5z | apply a2z | apply a4z | refine a9z ?_ GE115.1 | refine a9z ?_ GE116.1 | refine a9z ?_ GE123.1) | exact HB.1)) hb); clear HO126; clear HO130; clear BK115; clear BK116; clear BK123; clear HB; have HO126 := n0_; have HO130 := n1_; have BK115 := n2_; have BK116 := n3_; have BK123 := n4_; have HB := n5_; clear n0_ n1_ n2_ n3_ n4_ n5_; (try clear hb); (try clear hb2); (try clear hk); (try clear hi)))
      go_ret
      exact ⟨by first | rfl | (simp [c2z, c1z] <;> rfl) | (simp [*, c2z, c1z] <;> rfl), by repeat (first | (with_reducible first | exact HB.1 | apply a5z | apply a2z | apply a4z | refine a9z ?_ GE115.1 | refine a9z ?_ GE116.1 | refine a9z ?_ GE123.1) | exact HB.1)⟩
     ·rw [if_neg c33] at H
      have c33b0 : (t127 == 1) = false := beq_eq_false_iff_ne.mpr c33
      have c33b1 : (t127 != 1) = true := bne_iff_ne.mpr c33
      obtain rfl := Option.some.inj H
      try go_wp2
      have n0_ := a1z.mk (a8z BK115.1)
      have n1_ := a1z.mk (a8z BK116.1)
      have n2_ := a1z.mk (a4z HB.1)
      clear BK115
      clear BK116
      clear HB
      have BK115 := n0_
      have BK116 := n1_
      have HB := n2_
      clear n0_ n1_ n2_
      refine h9z (n := 18) (S := fun w' => w'.cell? ⟨gb115, 0, none⟩ = some (.int .i64 t101) ∧ w'.cell? ⟨gb115, 1, none⟩ = some (.int .i64 t102) ∧ w'.cell? ⟨gb115, 2, none⟩ = some (.int .i64 t103) ∧ w'.cell? ⟨gb115, 3, none⟩ = some (.int .i64 t104) ∧ w'.cell? ⟨gb115, 4, none⟩ = some (.int .i64 t105) ∧ w'.cell? ⟨gb115, 5, none⟩ = some (.int .i64 t106) ∧ w'.cell? ⟨gb115, 6, none⟩ = some (.int .i64 t107) ∧ w'.cell? ⟨gb116, 0, none⟩ = some (.int .i64 t108) ∧ w'.cell? ⟨gb116, 1, none⟩ = some (.int .i64 t109) ∧ w'.cell? ⟨gb116, 2, none⟩ = some (.int .i64 t110) ∧ w'.cell? ⟨gb116, 3, none⟩ = some (.int .i64 t111) ∧ w'.cell? ⟨gb116, 4, none⟩ = some (.int .i64 t112) ∧ w'.cell? ⟨gb116, 5, none⟩ = some (.int .i64 t113) ∧ w'.cell? ⟨gb116, 6, none⟩ = some (.int .i64 t114)) (ds := []) #[false, false, false, false, false, false, false, false, false, false, false, false, false, false, false, false, false, false] (by kernel_rfl) rfl rfl ⟨(a0z BK115.1 0).trans rfl, (a0z BK115.1 1).trans rfl, (a0z BK115.1 2).trans rfl, (a0z BK115.1 3).trans rfl, (a0z BK115.1 4).trans rfl, (a0z BK115.1 5).trans rfl, (a0z BK115.1 6).trans rfl, (a0z BK116.1 0).trans rfl, (a0z BK116.1 1).trans rfl, (a0z BK116.1 2).trans rfl, (a0z BK116.1 3).trans rfl, (a0z BK116.1 4).trans rfl, (a0z BK116.1 5).trans rfl, (a0z BK116.1 6).trans rfl⟩ (fun hHeld => ?_); refine g7z laws_FnCellsMeet.tab7 laws_FnCellsMeet.bits7 (fun HT_ HW_ => ?_)
      generalize wc.drew = w56 at BK115 BK116 HB hHeld ⊢
      refine pure_ (i := 0) (N := some 32) (v := ?_) (a' := ?_) #[true, false, false, false, false, false, false, false, false, false, false, false, false, false, false, false, false, false] rfl rfl (c9z HT_.1 (by kernel_rfl)) (fun _ _ _ h => h) (Or.inl ⟨by rfl, ?_⟩) ?_ ?_
      rotate_left
      ·intro w'
       go_simp
       with_reducible rfl
      rotate_left
      ·simp only [Act.put, sA_, sZ_, sS_, i64_w, i32_w]
       rfl
      refine pure_ (i := 2) (N := some 34) (v := ?_) (a' := ?_) #[true, false, true, false, false, false, false, false, false, false, false, false, false, false, false, false, false, false] rfl rfl (c9z HT_.1 (by kernel_rfl)) (fun _ _ _ h => h) (Or.inl ⟨by rfl, ?_⟩) ?_ ?_
      rotate_left
      ·intro w'
       go_simp
       with_reducible rfl
      rotate_left
      ·simp only [Act.put, sA_, sZ_, sS_, i64_w, i32_w]
       rfl
      refine pure_ (i := 5) (N := some 37) (v := ?_) (a' := ?_) #[true, false, true, false, false, true, false, false, false, false, false, false, false, false, false, false, false, false] rfl rfl (c9z HT_.1 (by kernel_rfl)) (fun _ _ _ h => h) (Or.inl ⟨by rfl, ?_⟩) ?_ ?_
      rotate_left
      ·intro w'
       go_simp
       with_reducible rfl
      rotate_left
      ·simp only [Act.put, sA_, sZ_, sS_, i64_w, i32_w]
       rfl
      refine pure_ (i := 7) (N := some 39) (v := ?_) (a' := ?_) #[true, false, true, false, false, true, false, true, false, false, false, false, false, false, false, false, false, false] rfl rfl (c9z HT_.1 (by kernel_rfl)) (fun _ _ _ h => h) (Or.inl ⟨by rfl, ?_⟩) ?_ ?_
      rotate_left
      ·intro w'
       go_simp
       with_reducible rfl
      rotate_left
      ·simp only [Act.put, sA_, sZ_, sS_, i64_w, i32_w]
       rfl
      refine pure_ (i := 10) (N := some 42) (v := ?_) (a' := ?_) #[true, false, true, false, false, true, false, true, false, false, true, false, false, false, false, false, false, false] rfl rfl (c9z HT_.1 (by kernel_rfl)) (fun _ _ _ h => h) (Or.inl ⟨by rfl, ?_⟩) ?_ ?_
      rotate_left
      ·intro w'
       go_simp
       with_reducible rfl
      rotate_left
      ·simp only [Act.put, sA_, sZ_, sS_, i64_w, i32_w]
       rfl
      refine pure_ (i := 12) (N := some 44) (v := ?_) (a' := ?_) #[true, false, true, false, false, true, false, true, false, false, true, false, true, false, false, false, false, false] rfl rfl (c9z HT_.1 (by kernel_rfl)) (fun _ _ _ h => h) (Or.inl ⟨by rfl, ?_⟩) ?_ ?_
      rotate_left
      ·intro w'
       go_simp
       with_reducible rfl
      rotate_left
      ·simp only [Act.put, sA_, sZ_, sS_, i64_w, i32_w]
       rfl
      refine take_ (i := 1) (N := some 33) (v := ?_) (a' := ?_) #[true, true, true, false, false, true, false, true, false, false, true, false, true, false, false, false, false, false] rfl rfl (d8z HT_.1 HW_.1 (by kernel_rfl)) (fun _ _ _ h => h) (Or.inl ⟨by rfl, ?_⟩) hHeld ?_ ?_
      rotate_left
      ·rintro w' ⟨s0, s1, s2, s3, s4, s5, s6, s7, s8, s9, s10, s11, s12, s13⟩
       go_simp
       with_reducible rfl
      rotate_left
      ·simp only [Act.put, sA_, sZ_, sS_, i64_w, i32_w]
       rfl
      refine take_ (i := 3) (N := some 35) (v := ?_) (a' := ?_) #[true, true, true, true, false, true, false, true, false, false, true, false, true, false, false, false, false, false] rfl rfl (d8z HT_.1 HW_.1 (by kernel_rfl)) (fun _ _ _ h => h) (Or.inl ⟨by rfl, ?_⟩) hHeld ?_ ?_
      rotate_left
      ·rintro w' ⟨s0, s1, s2, s3, s4, s5, s6, s7, s8, s9, s10, s11, s12, s13⟩
       go_simp
       with_reducible rfl
      rotate_left
      ·simp only [Act.put, sA_, sZ_, sS_, i64_w, i32_w]
       rfl
      refine take_ (i := 6) (N := some 38) (v := ?_) (a' := ?_) #[true, true, true, true, false, true, true, true, false, false, true, false, true, false, false, false, false, false] rfl rfl (d8z HT_.1 HW_.1 (by kernel_rfl)) (fun _ _ _ h => h) (Or.inl ⟨by rfl, ?_⟩) hHeld ?_ ?_
      rotate_left
      ·rintro w' ⟨s0, s1, s2, s3, s4, s5, s6, s7, s8, s9, s10, s11, s12, s13⟩
       go_simp
       with_reducible rfl
      rotate_left
      ·simp only [Act.put, sA_, sZ_, sS_, i64_w, i32_w]
       rfl
      refine take_ (i := 8) (N := some 40) (v := ?_) (a' := ?_) #[true, true, true, true, false, true, true, true, true, false, true, false, true, false, false, false, false, false] rfl rfl (d8z HT_.1 HW_.1 (by kernel_rfl)) (fun _ _ _ h => h) (Or.inl ⟨by rfl, ?_⟩) hHeld ?_ ?_
      rotate_left
      ·rintro w' ⟨s0, s1, s2, s3, s4, s5, s6, s7, s8, s9, s10, s11, s12, s13⟩
       go_simp
       with_reducible rfl
      rotate_left
      ·simp only [Act.put, sA_, sZ_, sS_, i64_w, i32_w]
       rfl
      refine take_ (i := 11) (N := some 43) (v := ?_) (a' := ?_) #[true, true, true, true, false, true, true, true, true, false, true, true, true, false, false, false, false, false] rfl rfl (d8z HT_.1 HW_.1 (by kernel_rfl)) (fun _ _ _ h => h) (Or.inl ⟨by rfl, ?_⟩) hHeld ?_ ?_
      rotate_left
      ·rintro w' ⟨s0, s1, s2, s3, s4, s5, s6, s7, s8, s9, s10, s11, s12, s13⟩
       go_simp
       with_reducible rfl
      rotate_left
      ·simp only [Act.put, sA_, sZ_, sS_, i64_w, i32_w]
       rfl
      refine take_ (i := 13) (N := some 45) (v := ?_) (a' := ?_) #[true, true, true, true, false, true, true, true, true, false, true, true, true, true, false, false, false, false] rfl rfl (d8z HT_.1 HW_.1 (by kernel_rfl)) (fun _ _ _ h => h) (Or.inl ⟨by rfl, ?_⟩) hHeld ?_ ?_
      rotate_left
      ·rintro w' ⟨s0, s1, s2, s3, s4, s5, s6, s7, s8, s9, s10, s11, s12, s13⟩
       go_simp
       with_reducible rfl
      rotate_left
      ·simp only [Act.put, sA_, sZ_, sS_, i64_w, i32_w]
       rfl
      refine join_ (σ := Nat) 1 #[true, true, true, true, true, true, true, true, true, true, true, true, true, true, true, true, true, false] (fun s_ => [(36, .int .i64 t120), (41, .int .i64 t121), (46, .int .i64 t122), (6, .pointer (some ⟨s_, 0, none⟩)), (47, .agg #[.int .i64 t120, .int .i64 t121, .int .i64 t122])]) (fun s_ w' => (w'.cell? ⟨gb115, 0, none⟩ = some (.int .i64 t101) ∧ w'.cell? ⟨gb115, 1, none⟩ = some (.int .i64 t102) ∧ w'.cell? ⟨gb115, 2, none⟩ = some (.int .i64 t103) ∧ w'.cell? ⟨gb115, 3, none⟩ = some (.int .i64 t104) ∧ w'.cell? ⟨gb115, 4, none⟩ = some (.int .i64 t105) ∧ w'.cell? ⟨gb115, 5, none⟩ = some (.int .i64 t106) ∧ w'.cell? ⟨gb115, 6, none⟩ = some (.int .i64 t107) ∧ w'.cell? ⟨gb116, 0, none⟩ = some (.int .i64 t108) ∧ w'.cell? ⟨gb116, 1, none⟩ = some (.int .i64 t109) ∧ w'.cell? ⟨gb116, 2, none⟩ = some (.int .i64 t110) ∧ w'.cell? ⟨gb116, 3, none⟩ = some (.int .i64 t111) ∧ w'.cell? ⟨gb116, 4, none⟩ = some (.int .i64 t112) ∧ w'.cell? ⟨gb116, 5, none⟩ = some (.int .i64 t113) ∧ w'.cell? ⟨gb116, 6, none⟩ = some (.int .i64 t114)) ∧ (w'.heap[gb115]? = some (.cells #[.int .i64 t101, .int .i64 t102, .int .i64 t103, .int .i64 t104, .int .i64 t105, .int .i64 t106, .int .i64 t107] 67 (0, 0))) ∧ (w'.heap[gb116]? = some (.cells #[.int .i64 t108, .int .i64 t109, .int .i64 t110, .int .i64 t111, .int .i64 t112, .int .i64 t113, .int .i64 t114] 67 (0, 0))) ∧ (w'.heap[s_]? = some (.cells #[.int .i64 0, .int .i64 0, .int .i64 0] 36 (0, 0))) ∧ (w.heap.size ≤ s_) ∧ (w.heap.size ≤ s_) ∧ (gb115 ≠ s_) ∧ (s_ ≠ gb115) ∧ (gb116 ≠ s_) ∧ (s_ ≠ gb116) ∧ (Below w.heap.size w w')) ?_ ?_
      rotate_left
      ·intro hCont
       refine two_ (i := 4) (j := 16) (Ni := some 36) (Nj := some 6) #[true, true, true, true, true, true, true, true, true, false, true, true, true, true, false, false, false, false] #[true, true, true, true, false, true, true, true, true, false, true, true, true, true, false, false, true, false] rfl rfl rfl rfl (two_of HT_.1 (by kernel_rfl)) (by decide) (by decide) (fun K hK => ?_) (fun K hK => ?_)
       ·skip
        refine goes_ Try.func48 (by kernel_rfl) rfl #[.int .i64 t101, .int .i64 t108] (by rfl) rfl rfl (by (try simp only [List.map_toArray, List.map_cons, List.map_nil]); first | done | rfl | (simp only [List.length_drop, List.length_take]; rfl)) ?_
        with_reducible refine (laws_ovMore.calls t101 t108 t120 _ A28.1).mono ?_
        rintro e w' ⟨rfl, ⟨nd, rfl⟩⟩
        refine ⟨_, rfl, ?_⟩
        refine hK.out _ _ ⟨(a0z BK115.1 0).trans rfl, (a0z BK115.1 1).trans rfl, (a0z BK115.1 2).trans rfl, (a0z BK115.1 3).trans rfl, (a0z BK115.1 4).trans rfl, (a0z BK115.1 5).trans rfl, (a0z BK115.1 6).trans rfl, (a0z BK116.1 0).trans rfl, (a0z BK116.1 1).trans rfl, (a0z BK116.1 2).trans rfl, (a0z BK116.1 3).trans rfl, (a0z BK116.1 4).trans rfl, (a0z BK116.1 5).trans rfl, (a0z BK116.1 6).trans rfl⟩ (fun hHeld => ?_)
        clear hK K
        refine norm_ (a' := ?_) ?_ ?_
        rotate_left
        ·show Act.put _ (some 36) _ = _
         simp only [Act.put, sA_, sZ_, sS_, i64_w, i32_w]
         rfl
        refine two_ (i := 9) (j := 16) (Ni := some 41) (Nj := some 6) #[true, true, true, true, true, true, true, true, true, true, true, true, true, true, false, false, false, false] #[true, true, true, true, true, true, true, true, true, false, true, true, true, true, false, false, true, false] rfl rfl rfl rfl (two_of HT_.1 (by kernel_rfl)) (by decide) (by decide) (fun K hK => ?_) (fun K hK => ?_)
        ·skip
         refine goes_ Try.func48 (by kernel_rfl) rfl #[.int .i64 t103, .int .i64 t110] (by rfl) rfl rfl (by (try simp only [List.map_toArray, List.map_cons, List.map_nil]); first | done | rfl | (simp only [List.length_drop, List.length_take]; rfl)) ?_
         with_reducible refine (laws_ovMore.calls t103 t110 t121 _ A29.1).mono ?_
         rintro e w' ⟨rfl, ⟨nd, rfl⟩⟩
         refine ⟨_, rfl, ?_⟩
         refine hK.out _ _ ⟨(a0z BK115.1 0).trans rfl, (a0z BK115.1 1).trans rfl, (a0z BK115.1 2).trans rfl, (a0z BK115.1 3).trans rfl, (a0z BK115.1 4).trans rfl, (a0z BK115.1 5).trans rfl, (a0z BK115.1 6).trans rfl, (a0z BK116.1 0).trans rfl, (a0z BK116.1 1).trans rfl, (a0z BK116.1 2).trans rfl, (a0z BK116.1 3).trans rfl, (a0z BK116.1 4).trans rfl, (a0z BK116.1 5).trans rfl, (a0z BK116.1 6).trans rfl⟩ (fun hHeld => ?_)
         clear hK K
         refine norm_ (a' := ?_) ?_ ?_
         rotate_left
         ·show Act.put _ (some 41) _ = _
          simp only [Act.put, sA_, sZ_, sS_, i64_w, i32_w]
          rfl
         refine two_ (i := 14) (j := 16) (Ni := some 46) (Nj := some 6) #[true, true, true, true, true, true, true, true, true, true, true, true, true, true, true, false, false, false] #[true, true, true, true, true, true, true, true, true, true, true, true, true, true, false, false, true, false] rfl rfl rfl rfl (two_of HT_.1 (by kernel_rfl)) (by decide) (by decide) (fun K hK => ?_) (fun K hK => ?_)
         ·skip
          refine goes_ Try.func48 (by kernel_rfl) rfl #[.int .i64 t105, .int .i64 t112] (by rfl) rfl rfl (by (try simp only [List.map_toArray, List.map_cons, List.map_nil]); first | done | rfl | (simp only [List.length_drop, List.length_take]; rfl)) ?_
          with_reducible refine (laws_ovMore.calls t105 t112 t122 _ A30.1).mono ?_
          rintro e w' ⟨rfl, ⟨nd, rfl⟩⟩
          refine ⟨_, rfl, ?_⟩
          refine hK.out _ _ ⟨(a0z BK115.1 0).trans rfl, (a0z BK115.1 1).trans rfl, (a0z BK115.1 2).trans rfl, (a0z BK115.1 3).trans rfl, (a0z BK115.1 4).trans rfl, (a0z BK115.1 5).trans rfl, (a0z BK115.1 6).trans rfl, (a0z BK116.1 0).trans rfl, (a0z BK116.1 1).trans rfl, (a0z BK116.1 2).trans rfl, (a0z BK116.1 3).trans rfl, (a0z BK116.1 4).trans rfl, (a0z BK116.1 5).trans rfl, (a0z BK116.1 6).trans rfl⟩ (fun hHeld => ?_)
          clear hK K
          refine norm_ (a' := ?_) ?_ ?_
          rotate_left
          ·show Act.put _ (some 46) _ = _
           simp only [Act.put, sA_, sZ_, sS_, i64_w, i32_w]
           rfl
          refine pure_ (i := 15) (N := some 47) (v := ?_) (a' := ?_) #[true, true, true, true, true, true, true, true, true, true, true, true, true, true, true, true, false, false] rfl rfl (c9z HT_.1 (by kernel_rfl)) (fun _ _ _ h => h) (Or.inl ⟨by rfl, ?_⟩) ?_ ?_
          rotate_left
          ·intro w'
           go_simp
           with_reducible rfl
          rotate_left
          ·simp only [Act.put, sA_, sZ_, sS_, i64_w, i32_w]
           rfl
          refine one_ (i := 16) (N := some 6) #[true, true, true, true, true, true, true, true, true, true, true, true, true, true, true, true, true, false] rfl rfl (f1z HT_.1 (by kernel_rfl)) (by decide) (fun K hK => ?_)
          refine box_step ?hg (N := 6) ?hd (cs := #[.int .i64 0, .int .i64 0, .int .i64 0]) (t := 36) ?hr ?_; (case hd => rfl); (case hg => rfl); (case hr => first | (go_simp; done) | (go_simp; rfl))
          intro gb123 hg w57 hbox hb
          have n0_ := a1z.mk (c4z (g := gb115) (o := .cells #[.int .i64 t101, .int .i64 t102, .int .i64 t103, .int .i64 t104, .int .i64 t105, .int .i64 t106, .int .i64 t107] 67 (0, 0)) (by (with_reducible repeat (first | refine a7z ?_ _ | refine a8z ?_ | refine blk_alloc ?_ _)); exact BK115.1) hb)
          have n1_ := a1z.mk (c4z (g := gb116) (o := .cells #[.int .i64 t108, .int .i64 t109, .int .i64 t110, .int .i64 t111, .int .i64 t112, .int .i64 t113, .int .i64 t114] 67 (0, 0)) (by (with_reducible repeat (first | refine a7z ?_ _ | refine a8z ?_ | refine blk_alloc ?_ _)); exact BK116.1) hb)
          have n2_ := a1z.mk (b7z (by repeat (first | (with_reducible first | exact HB.1 | apply a5z | apply a2z | apply a4z | refine a9z ?_ GE115.1 | refine a9z ?_ GE116.1) | exact HB.1)) hb)
          have n3_ := a1z.mk (hbox)
          have n4_ := a1z.mk ((by rw [hg]; exact (b5z (by repeat (first | (with_reducible first | exact HB.1 | apply a5z | apply a2z | apply a4z | refine a9z ?_ GE115.1 | refine a9z ?_ GE116.1) | exact HB.1))) : w.heap.size ≤ gb123))
          have n5_ := a1z.mk ((by rw [hg]; exact (b5z (by repeat (first | (with_reducible first | exact HB.1 | apply a5z | apply a2z | apply a4z | refine a9z ?_ GE115.1 | refine a9z ?_ GE116.1) | exact HB.1))) : w.heap.size ≤ gb123))
          have n6_ := a1z.mk ((by rw [hg]; exact Nat.ne_of_lt (d9z (g := gb115) (o := .cells #[.int .i64 t101, .int .i64 t102, .int .i64 t103, .int .i64 t104, .int .i64 t105, .int .i64 t106, .int .i64 t107] 67 (0, 0)) (by (with_reducible repeat (first | refine a7z ?_ _ | refine a8z ?_ | refine blk_alloc ?_ _)); exact BK115.1)) : gb115 ≠ gb123))
          have n7_ := a1z.mk ((by rw [hg]; exact Nat.ne_of_gt (d9z (g := gb115) (o := .cells #[.int .i64 t101, .int .i64 t102, .int .i64 t103, .int .i64 t104, .int .i64 t105, .int .i64 t106, .int .i64 t107] 67 (0, 0)) (by (with_reducible repeat (first | refine a7z ?_ _ | refine a8z ?_ | refine blk_alloc ?_ _)); exact BK115.1)) : gb123 ≠ gb115))
          have n8_ := a1z.mk ((by rw [hg]; exact Nat.ne_of_lt (d9z (g := gb116) (o := .cells #[.int .i64 t108, .int .i64 t109, .int .i64 t110, .int .i64 t111, .int .i64 t112, .int .i64 t113, .int .i64 t114] 67 (0, 0)) (by (with_reducible repeat (first | refine a7z ?_ _ | refine a8z ?_ | refine blk_alloc ?_ _)); exact BK116.1)) : gb116 ≠ gb123))
          have n9_ := a1z.mk ((by rw [hg]; exact Nat.ne_of_gt (d9z (g := gb116) (o := .cells #[.int .i64 t108, .int .i64 t109, .int .i64 t110, .int .i64 t111, .int .i64 t112, .int .i64 t113, .int .i64 t114] 67 (0, 0)) (by (with_reducible repeat (first | refine a7z ?_ _ | refine a8z ?_ | refine blk_alloc ?_ _)); exact BK116.1)) : gb123 ≠ gb116))
          clear BK115
          clear BK116
          clear HB
          have BK115 := n0_
          have BK116 := n1_
          have HB := n2_
          have BK123 := n3_
          have GW123 := n4_
          have GE123 := n5_
          have NB115_123 := n6_
          have NB123_115 := n7_
          have NB116_123 := n8_
          have NB123_116 := n9_
          clear n0_ n1_ n2_ n3_ n4_ n5_ n6_ n7_ n8_ n9_
          clear hb hbox hg
          refine hK.out _ _ ⟨(a0z BK115.1 0).trans rfl, (a0z BK115.1 1).trans rfl, (a0z BK115.1 2).trans rfl, (a0z BK115.1 3).trans rfl, (a0z BK115.1 4).trans rfl, (a0z BK115.1 5).trans rfl, (a0z BK115.1 6).trans rfl, (a0z BK116.1 0).trans rfl, (a0z BK116.1 1).trans rfl, (a0z BK116.1 2).trans rfl, (a0z BK116.1 3).trans rfl, (a0z BK116.1 4).trans rfl, (a0z BK116.1 5).trans rfl, (a0z BK116.1 6).trans rfl⟩ (fun hHeld => ?_)
          clear hK K
          refine norm_ (a' := ?_) ?_ ?_
          rotate_left
          ·show Act.put _ (some 6) _ = _
           simp only [Act.put, sA_, sZ_, sS_, i64_w, i32_w]
           rfl
          exact norm_ (by simp only [putAll, Act.put, sA_, sZ_, sS_]) (hCont (gb123) _ ⟨hHeld, (by (with_reducible repeat (first | refine a7z ?_ _ | refine a8z ?_ | refine blk_alloc ?_ _)); exact BK115.1), (by (with_reducible repeat (first | refine a7z ?_ _ | refine a8z ?_ | refine blk_alloc ?_ _)); exact BK116.1), (by (with_reducible repeat (first | refine a7z ?_ _ | refine a8z ?_ | refine blk_alloc ?_ _)); exact BK123.1), GW123.1, GE123.1, NB115_123.1, NB123_115.1, NB116_123.1, NB123_116.1, (by repeat (first | (with_reducible first | exact HB.1 | apply a5z | apply a2z | apply a4z | refine a9z ?_ GE115.1 | refine a9z ?_ GE116.1 | refine a9z ?_ GE123.1) | exact HB.1))⟩)
         ·skip
          refine box_step ?hg (N := 6) ?hd (cs := #[.int .i64 0, .int .i64 0, .int .i64 0]) (t := 36) ?hr ?_; (case hd => rfl); (case hg => rfl); (case hr => first | (go_simp; done) | (go_simp; rfl))
          intro gb123 hg w57 hbox hb
          have n0_ := a1z.mk (c4z (g := gb115) (o := .cells #[.int .i64 t101, .int .i64 t102, .int .i64 t103, .int .i64 t104, .int .i64 t105, .int .i64 t106, .int .i64 t107] 67 (0, 0)) (by (with_reducible repeat (first | refine a7z ?_ _ | refine a8z ?_ | refine blk_alloc ?_ _)); exact BK115.1) hb)
          have n1_ := a1z.mk (c4z (g := gb116) (o := .cells #[.int .i64 t108, .int .i64 t109, .int .i64 t110, .int .i64 t111, .int .i64 t112, .int .i64 t113, .int .i64 t114] 67 (0, 0)) (by (with_reducible repeat (first | refine a7z ?_ _ | refine a8z ?_ | refine blk_alloc ?_ _)); exact BK116.1) hb)
          have n2_ := a1z.mk (b7z (by repeat (first | (with_reducible first | exact HB.1 | apply a5z | apply a2z | apply a4z | refine a9z ?_ GE115.1 | refine a9z ?_ GE116.1) | exact HB.1)) hb)
          have n3_ := a1z.mk (hbox)
          have n4_ := a1z.mk ((by rw [hg]; exact (b5z (by repeat (first | (with_reducible first | exact HB.1 | apply a5z | apply a2z | apply a4z | refine a9z ?_ GE115.1 | refine a9z ?_ GE116.1) | exact HB.1))) : w.heap.size ≤ gb123))
          have n5_ := a1z.mk ((by rw [hg]; exact (b5z (by repeat (first | (with_reducible first | exact HB.1 | apply a5z | apply a2z | apply a4z | refine a9z ?_ GE115.1 | refine a9z ?_ GE116.1) | exact HB.1))) : w.heap.size ≤ gb123))
          have n6_ := a1z.mk ((by rw [hg]; exact Nat.ne_of_lt (d9z (g := gb115) (o := .cells #[.int .i64 t101, .int .i64 t102, .int .i64 t103, .int .i64 t104, .int .i64 t105, .int .i64 t106, .int .i64 t107] 67 (0, 0)) (by (with_reducible repeat (first | refine a7z ?_ _ | refine a8z ?_ | refine blk_alloc ?_ _)); exact BK115.1)) : gb115 ≠ gb123))
          have n7_ := a1z.mk ((by rw [hg]; exact Nat.ne_of_gt (d9z (g := gb115) (o := .cells #[.int .i64 t101, .int .i64 t102, .int .i64 t103, .int .i64 t104, .int .i64 t105, .int .i64 t106, .int .i64 t107] 67 (0, 0)) (by (with_reducible repeat (first | refine a7z ?_ _ | refine a8z ?_ | refine blk_alloc ?_ _)); exact BK115.1)) : gb123 ≠ gb115))
          have n8_ := a1z.mk ((by rw [hg]; exact Nat.ne_of_lt (d9z (g := gb116) (o := .cells #[.int .i64 t108, .int .i64 t109, .int .i64 t110, .int .i64 t111, .int .i64 t112, .int .i64 t113, .int .i64 t114] 67 (0, 0)) (by (with_reducible repeat (first | refine a7z ?_ _ | refine a8z ?_ | refine blk_alloc ?_ _)); exact BK116.1)) : gb116 ≠ gb123))
          have n9_ := a1z.mk ((by rw [hg]; exact Nat.ne_of_gt (d9z (g := gb116) (o := .cells #[.int .i64 t108, .int .i64 t109, .int .i64 t110, .int .i64 t111, .int .i64 t112, .int .i64 t113, .int .i64 t114] 67 (0, 0)) (by (with_reducible repeat (first | refine a7z ?_ _ | refine a8z ?_ | refine blk_alloc ?_ _)); exact BK116.1)) : gb123 ≠ gb116))
          clear BK115
          clear BK116
          clear HB
          have BK115 := n0_
          have BK116 := n1_
          have HB := n2_
          have BK123 := n3_
          have GW123 := n4_
          have GE123 := n5_
          have NB115_123 := n6_
          have NB123_115 := n7_
          have NB116_123 := n8_
          have NB123_116 := n9_
          clear n0_ n1_ n2_ n3_ n4_ n5_ n6_ n7_ n8_ n9_
          clear hb hbox hg
          refine hK.out _ _ ⟨(a0z BK115.1 0).trans rfl, (a0z BK115.1 1).trans rfl, (a0z BK115.1 2).trans rfl, (a0z BK115.1 3).trans rfl, (a0z BK115.1 4).trans rfl, (a0z BK115.1 5).trans rfl, (a0z BK115.1 6).trans rfl, (a0z BK116.1 0).trans rfl, (a0z BK116.1 1).trans rfl, (a0z BK116.1 2).trans rfl, (a0z BK116.1 3).trans rfl, (a0z BK116.1 4).trans rfl, (a0z BK116.1 5).trans rfl, (a0z BK116.1 6).trans rfl⟩ (fun hHeld => ?_)
          clear hK K
          refine norm_ (a' := ?_) ?_ ?_
          rotate_left
          ·show Act.put _ (some 6) _ = _
           simp only [Act.put, sA_, sZ_, sS_, i64_w, i32_w]
           rfl
          refine one_ (i := 14) (N := some 46) #[true, true, true, true, true, true, true, true, true, true, true, true, true, true, true, false, true, false] rfl rfl (f1z HT_.1 (by kernel_rfl)) (by decide) (fun K hK => ?_)
          refine goes_ Try.func48 (by kernel_rfl) rfl #[.int .i64 t105, .int .i64 t112] (by rfl) rfl rfl (by (try simp only [List.map_toArray, List.map_cons, List.map_nil]); first | done | rfl | (simp only [List.length_drop, List.length_take]; rfl)) ?_
          with_reducible refine (laws_ovMore.calls t105 t112 t122 _ A30.1).mono ?_
          rintro e w' ⟨rfl, ⟨nd, rfl⟩⟩
          refine ⟨_, rfl, ?_⟩
          refine hK.out _ _ ⟨(a0z BK115.1 0).trans rfl, (a0z BK115.1 1).trans rfl, (a0z BK115.1 2).trans rfl, (a0z BK115.1 3).trans rfl, (a0z BK115.1 4).trans rfl, (a0z BK115.1 5).trans rfl, (a0z BK115.1 6).trans rfl, (a0z BK116.1 0).trans rfl, (a0z BK116.1 1).trans rfl, (a0z BK116.1 2).trans rfl, (a0z BK116.1 3).trans rfl, (a0z BK116.1 4).trans rfl, (a0z BK116.1 5).trans rfl, (a0z BK116.1 6).trans rfl⟩ (fun hHeld => ?_)
          clear hK K
          refine norm_ (a' := ?_) ?_ ?_
          rotate_left
          ·show Act.put _ (some 46) _ = _
           simp only [Act.put, sA_, sZ_, sS_, i64_w, i32_w]
           rfl
          refine pure_ (i := 15) (N := some 47) (v := ?_) (a' := ?_) #[true, true, true, true, true, true, true, true, true, true, true, true, true, true, true, true, true, false] rfl rfl (c9z HT_.1 (by kernel_rfl)) (fun _ _ _ h => h) (Or.inl ⟨by rfl, ?_⟩) ?_ ?_
          rotate_left
          ·intro w'
           go_simp
           with_reducible rfl
          rotate_left
          ·simp only [Act.put, sA_, sZ_, sS_, i64_w, i32_w]
           rfl
          exact norm_ (by simp only [putAll, Act.put, sA_, sZ_, sS_]) (hCont (gb123) _ ⟨hHeld, (by (with_reducible repeat (first | refine a7z ?_ _ | refine a8z ?_ | refine blk_alloc ?_ _)); exact BK115.1), (by (with_reducible repeat (first | refine a7z ?_ _ | refine a8z ?_ | refine blk_alloc ?_ _)); exact BK116.1), (by (with_reducible repeat (first | refine a7z ?_ _ | refine a8z ?_ | refine blk_alloc ?_ _)); exact BK123.1), GW123.1, GE123.1, NB115_123.1, NB123_115.1, NB116_123.1, NB123_116.1, (by repeat (first | (with_reducible first | exact HB.1 | apply a5z | apply a2z | apply a4z | refine a9z ?_ GE115.1 | refine a9z ?_ GE116.1 | refine a9z ?_ GE123.1) | exact HB.1))⟩)
        ·skip
         refine box_step ?hg (N := 6) ?hd (cs := #[.int .i64 0, .int .i64 0, .int .i64 0]) (t := 36) ?hr ?_; (case hd => rfl); (case hg => rfl); (case hr => first | (go_simp; done) | (go_simp; rfl))
         intro gb123 hg w57 hbox hb
         have n0_ := a1z.mk (c4z (g := gb115) (o := .cells #[.int .i64 t101, .int .i64 t102, .int .i64 t103, .int .i64 t104, .int .i64 t105, .int .i64 t106, .int .i64 t107] 67 (0, 0)) (by (with_reducible repeat (first | refine a7z ?_ _ | refine a8z ?_ | refine blk_alloc ?_ _)); exact BK115.1) hb)
         have n1_ := a1z.mk (c4z (g := gb116) (o := .cells #[.int .i64 t108, .int .i64 t109, .int .i64 t110, .int .i64 t111, .int .i64 t112, .int .i64 t113, .int .i64 t114] 67 (0, 0)) (by (with_reducible repeat (first | refine a7z ?_ _ | refine a8z ?_ | refine blk_alloc ?_ _)); exact BK116.1) hb)
         have n2_ := a1z.mk (b7z (by repeat (first | (with_reducible first | exact HB.1 | apply a5z | apply a2z | apply a4z | refine a9z ?_ GE115.1 | refine a9z ?_ GE116.1) | exact HB.1)) hb)
         have n3_ := a1z.mk (hbox)
         have n4_ := a1z.mk ((by rw [hg]; exact (b5z (by repeat (first | (with_reducible first | exact HB.1 | apply a5z | apply a2z | apply a4z | refine a9z ?_ GE115.1 | refine a9z ?_ GE116.1) | exact HB.1))) : w.heap.size ≤ gb123))
         have n5_ := a1z.mk ((by rw [hg]; exact (b5z (by repeat (first | (with_reducible first | exact HB.1 | apply a5z | apply a2z | apply a4z | refine a9z ?_ GE115.1 | refine a9z ?_ GE116.1) | exact HB.1))) : w.heap.size ≤ gb123))
         have n6_ := a1z.mk ((by rw [hg]; exact Nat.ne_of_lt (d9z (g := gb115) (o := .cells #[.int .i64 t101, .int .i64 t102, .int .i64 t103, .int .i64 t104, .int .i64 t105, .int .i64 t106, .int .i64 t107] 67 (0, 0)) (by (with_reducible repeat (first | refine a7z ?_ _ | refine a8z ?_ | refine blk_alloc ?_ _)); exact BK115.1)) : gb115 ≠ gb123))
         have n7_ := a1z.mk ((by rw [hg]; exact Nat.ne_of_gt (d9z (g := gb115) (o := .cells #[.int .i64 t101, .int .i64 t102, .int .i64 t103, .int .i64 t104, .int .i64 t105, .int .i64 t106, .int .i64 t107] 67 (0, 0)) (by (with_reducible repeat (first | refine a7z ?_ _ | refine a8z ?_ | refine blk_alloc ?_ _)); exact BK115.1)) : gb123 ≠ gb115))
         have n8_ := a1z.mk ((by rw [hg]; exact Nat.ne_of_lt (d9z (g := gb116) (o := .cells #[.int .i64 t108, .int .i64 t109, .int .i64 t110, .int .i64 t111, .int .i64 t112, .int .i64 t113, .int .i64 t114] 67 (0, 0)) (by (with_reducible repeat (first | refine a7z ?_ _ | refine a8z ?_ | refine blk_alloc ?_ _)); exact BK116.1)) : gb116 ≠ gb123))
         have n9_ := a1z.mk ((by rw [hg]; exact Nat.ne_of_gt (d9z (g := gb116) (o := .cells #[.int .i64 t108, .int .i64 t109, .int .i64 t110, .int .i64 t111, .int .i64 t112, .int .i64 t113, .int .i64 t114] 67 (0, 0)) (by (with_reducible repeat (first | refine a7z ?_ _ | refine a8z ?_ | refine blk_alloc ?_ _)); exact BK116.1)) : gb123 ≠ gb116))
         clear BK115
         clear BK116
         clear HB
         have BK115 := n0_
         have BK116 := n1_
         have HB := n2_
         have BK123 := n3_
         have GW123 := n4_
         have GE123 := n5_
         have NB115_123 := n6_
         have NB123_115 := n7_
         have NB116_123 := n8_
         have NB123_116 := n9_
         clear n0_ n1_ n2_ n3_ n4_ n5_ n6_ n7_ n8_ n9_
         clear hb hbox hg
         refine hK.out _ _ ⟨(a0z BK115.1 0).trans rfl, (a0z BK115.1 1).trans rfl, (a0z BK115.1 2).trans rfl, (a0z BK115.1 3).trans rfl, (a0z BK115.1 4).trans rfl, (a0z BK115.1 5).trans rfl, (a0z BK115.1 6).trans rfl, (a0z BK116.1 0).trans rfl, (a0z BK116.1 1).trans rfl, (a0z BK116.1 2).trans rfl, (a0z BK116.1 3).trans rfl, (a0z BK116.1 4).trans rfl, (a0z BK116.1 5).trans rfl, (a0z BK116.1 6).trans rfl⟩ (fun hHeld => ?_)
         clear hK K
         refine norm_ (a' := ?_) ?_ ?_
         rotate_left
         ·show Act.put _ (some 6) _ = _
          simp only [Act.put, sA_, sZ_, sS_, i64_w, i32_w]
          rfl
         refine one_ (i := 9) (N := some 41) #[true, true, true, true, true, true, true, true, true, true, true, true, true, true, false, false, true, false] rfl rfl (f1z HT_.1 (by kernel_rfl)) (by decide) (fun K hK => ?_)
         refine goes_ Try.func48 (by kernel_rfl) rfl #[.int .i64 t103, .int .i64 t110] (by rfl) rfl rfl (by (try simp only [List.map_toArray, List.map_cons, List.map_nil]); first | done | rfl | (simp only [List.length_drop, List.length_take]; rfl)) ?_
         with_reducible refine (laws_ovMore.calls t103 t110 t121 _ A29.1).mono ?_
         rintro e w' ⟨rfl, ⟨nd, rfl⟩⟩
         refine ⟨_, rfl, ?_⟩
         refine hK.out _ _ ⟨(a0z BK115.1 0).trans rfl, (a0z BK115.1 1).trans rfl, (a0z BK115.1 2).trans rfl, (a0z BK115.1 3).trans rfl, (a0z BK115.1 4).trans rfl, (a0z BK115.1 5).trans rfl, (a0z BK115.1 6).trans rfl, (a0z BK116.1 0).trans rfl, (a0z BK116.1 1).trans rfl, (a0z BK116.1 2).trans rfl, (a0z BK116.1 3).trans rfl, (a0z BK116.1 4).trans rfl, (a0z BK116.1 5).trans rfl, (a0z BK116.1 6).trans rfl⟩ (fun hHeld => ?_)
         clear hK K
         refine norm_ (a' := ?_) ?_ ?_
         rotate_left
         ·show Act.put _ (some 41) _ = _
          simp only [Act.put, sA_, sZ_, sS_, i64_w, i32_w]
          rfl
         refine one_ (i := 14) (N := some 46) #[true, true, true, true, true, true, true, true, true, true, true, true, true, true, true, false, true, false] rfl rfl (f1z HT_.1 (by kernel_rfl)) (by decide) (fun K hK => ?_)
         refine goes_ Try.func48 (by kernel_rfl) rfl #[.int .i64 t105, .int .i64 t112] (by rfl) rfl rfl (by (try simp only [List.map_toArray, List.map_cons, List.map_nil]); first | done | rfl | (simp only [List.length_drop, List.length_take]; rfl)) ?_
         with_reducible refine (laws_ovMore.calls t105 t112 t122 _ A30.1).mono ?_
         rintro e w' ⟨rfl, ⟨nd, rfl⟩⟩
         refine ⟨_, rfl, ?_⟩
         refine hK.out _ _ ⟨(a0z BK115.1 0).trans rfl, (a0z BK115.1 1).trans rfl, (a0z BK115.1 2).trans rfl, (a0z BK115.1 3).trans rfl, (a0z BK115.1 4).trans rfl, (a0z BK115.1 5).trans rfl, (a0z BK115.1 6).trans rfl, (a0z BK116.1 0).trans rfl, (a0z BK116.1 1).trans rfl, (a0z BK116.1 2).trans rfl, (a0z BK116.1 3).trans rfl, (a0z BK116.1 4).trans rfl, (a0z BK116.1 5).trans rfl, (a0z BK116.1 6).trans rfl⟩ (fun hHeld => ?_)
         clear hK K
         refine norm_ (a' := ?_) ?_ ?_
         rotate_left
         ·show Act.put _ (some 46) _ = _
          simp only [Act.put, sA_, sZ_, sS_, i64_w, i32_w]
          rfl
         refine pure_ (i := 15) (N := some 47) (v := ?_) (a' := ?_) #[true, true, true, true, true, true, true, true, true, true, true, true, true, true, true, true, true, false] rfl rfl (c9z HT_.1 (by kernel_rfl)) (fun _ _ _ h => h) (Or.inl ⟨by rfl, ?_⟩) ?_ ?_
         rotate_left
         ·intro w'
          go_simp
          with_reducible rfl
         rotate_left
         ·simp only [Act.put, sA_, sZ_, sS_, i64_w, i32_w]
          rfl
         exact norm_ (by simp only [putAll, Act.put, sA_, sZ_, sS_]) (hCont (gb123) _ ⟨hHeld, (by (with_reducible repeat (first | refine a7z ?_ _ | refine a8z ?_ | refine blk_alloc ?_ _)); exact BK115.1), (by (with_reducible repeat (first | refine a7z ?_ _ | refine a8z ?_ | refine blk_alloc ?_ _)); exact BK116.1), (by (with_reducible repeat (first | refine a7z ?_ _ | refine a8z ?_ | refine blk_alloc ?_ _)); exact BK123.1), GW123.1, GE123.1, NB115_123.1, NB123_115.1, NB116_123.1, NB123_116.1, (by repeat (first | (with_reducible first | exact HB.1 | apply a5z | apply a2z | apply a4z | refine a9z ?_ GE115.1 | refine a9z ?_ GE116.1 | refine a9z ?_ GE123.1) | exact HB.1))⟩)
       ·skip
        refine box_step ?hg (N := 6) ?hd (cs := #[.int .i64 0, .int .i64 0, .int .i64 0]) (t := 36) ?hr ?_; (case hd => rfl); (case hg => rfl); (case hr => first | (go_simp; done) | (go_simp; rfl))
        intro gb123 hg w57 hbox hb
        have n0_ := a1z.mk (c4z (g := gb115) (o := .cells #[.int .i64 t101, .int .i64 t102, .int .i64 t103, .int .i64 t104, .int .i64 t105, .int .i64 t106, .int .i64 t107] 67 (0, 0)) (by (with_reducible repeat (first | refine a7z ?_ _ | refine a8z ?_ | refine blk_alloc ?_ _)); exact BK115.1) hb)
        have n1_ := a1z.mk (c4z (g := gb116) (o := .cells #[.int .i64 t108, .int .i64 t109, .int .i64 t110, .int .i64 t111, .int .i64 t112, .int .i64 t113, .int .i64 t114] 67 (0, 0)) (by (with_reducible repeat (first | refine a7z ?_ _ | refine a8z ?_ | refine blk_alloc ?_ _)); exact BK116.1) hb)
        have n2_ := a1z.mk (b7z (by repeat (first | (with_reducible first | exact HB.1 | apply a5z | apply a2z | apply a4z | refine a9z ?_ GE115.1 | refine a9z ?_ GE116.1) | exact HB.1)) hb)
        have n3_ := a1z.mk (hbox)
        have n4_ := a1z.mk ((by rw [hg]; exact (b5z (by repeat (first | (with_reducible first | exact HB.1 | apply a5z | apply a2z | apply a4z | refine a9z ?_ GE115.1 | refine a9z ?_ GE116.1) | exact HB.1))) : w.heap.size ≤ gb123))
        have n5_ := a1z.mk ((by rw [hg]; exact (b5z (by repeat (first | (with_reducible first | exact HB.1 | apply a5z | apply a2z | apply a4z | refine a9z ?_ GE115.1 | refine a9z ?_ GE116.1) | exact HB.1))) : w.heap.size ≤ gb123))
        have n6_ := a1z.mk ((by rw [hg]; exact Nat.ne_of_lt (d9z (g := gb115) (o := .cells #[.int .i64 t101, .int .i64 t102, .int .i64 t103, .int .i64 t104, .int .i64 t105, .int .i64 t106, .int .i64 t107] 67 (0, 0)) (by (with_reducible repeat (first | refine a7z ?_ _ | refine a8z ?_ | refine blk_alloc ?_ _)); exact BK115.1)) : gb115 ≠ gb123))
        have n7_ := a1z.mk ((by rw [hg]; exact Nat.ne_of_gt (d9z (g := gb115) (o := .cells #[.int .i64 t101, .int .i64 t102, .int .i64 t103, .int .i64 t104, .int .i64 t105, .int .i64 t106, .int .i64 t107] 67 (0, 0)) (by (with_reducible repeat (first | refine a7z ?_ _ | refine a8z ?_ | refine blk_alloc ?_ _)); exact BK115.1)) : gb123 ≠ gb115))
        have n8_ := a1z.mk ((by rw [hg]; exact Nat.ne_of_lt (d9z (g := gb116) (o := .cells #[.int .i64 t108, .int .i64 t109, .int .i64 t110, .int .i64 t111, .int .i64 t112, .int .i64 t113, .int .i64 t114] 67 (0, 0)) (by (with_reducible repeat (first | refine a7z ?_ _ | refine a8z ?_ | refine blk_alloc ?_ _)); exact BK116.1)) : gb116 ≠ gb123))
        have n9_ := a1z.mk ((by rw [hg]; exact Nat.ne_of_gt (d9z (g := gb116) (o := .cells #[.int .i64 t108, .int .i64 t109, .int .i64 t110, .int .i64 t111, .int .i64 t112, .int .i64 t113, .int .i64 t114] 67 (0, 0)) (by (with_reducible repeat (first | refine a7z ?_ _ | refine a8z ?_ | refine blk_alloc ?_ _)); exact BK116.1)) : gb123 ≠ gb116))
        clear BK115
        clear BK116
        clear HB
        have BK115 := n0_
        have BK116 := n1_
        have HB := n2_
        have BK123 := n3_
        have GW123 := n4_
        have GE123 := n5_
        have NB115_123 := n6_
        have NB123_115 := n7_
        have NB116_123 := n8_
        have NB123_116 := n9_
        clear n0_ n1_ n2_ n3_ n4_ n5_ n6_ n7_ n8_ n9_
        clear hb hbox hg
        refine hK.out _ _ ⟨(a0z BK115.1 0).trans rfl, (a0z BK115.1 1).trans rfl, (a0z BK115.1 2).trans rfl, (a0z BK115.1 3).trans rfl, (a0z BK115.1 4).trans rfl, (a0z BK115.1 5).trans rfl, (a0z BK115.1 6).trans rfl, (a0z BK116.1 0).trans rfl, (a0z BK116.1 1).trans rfl, (a0z BK116.1 2).trans rfl, (a0z BK116.1 3).trans rfl, (a0z BK116.1 4).trans rfl, (a0z BK116.1 5).trans rfl, (a0z BK116.1 6).trans rfl⟩ (fun hHeld => ?_)
        clear hK K
        refine norm_ (a' := ?_) ?_ ?_
        rotate_left
        ·show Act.put _ (some 6) _ = _
         simp only [Act.put, sA_, sZ_, sS_, i64_w, i32_w]
         rfl
        refine one_ (i := 4) (N := some 36) #[true, true, true, true, true, true, true, true, true, false, true, true, true, true, false, false, true, false] rfl rfl (f1z HT_.1 (by kernel_rfl)) (by decide) (fun K hK => ?_)
        refine goes_ Try.func48 (by kernel_rfl) rfl #[.int .i64 t101, .int .i64 t108] (by rfl) rfl rfl (by (try simp only [List.map_toArray, List.map_cons, List.map_nil]); first | done | rfl | (simp only [List.length_drop, List.length_take]; rfl)) ?_
        with_reducible refine (laws_ovMore.calls t101 t108 t120 _ A28.1).mono ?_
        rintro e w' ⟨rfl, ⟨nd, rfl⟩⟩
        refine ⟨_, rfl, ?_⟩
        refine hK.out _ _ ⟨(a0z BK115.1 0).trans rfl, (a0z BK115.1 1).trans rfl, (a0z BK115.1 2).trans rfl, (a0z BK115.1 3).trans rfl, (a0z BK115.1 4).trans rfl, (a0z BK115.1 5).trans rfl, (a0z BK115.1 6).trans rfl, (a0z BK116.1 0).trans rfl, (a0z BK116.1 1).trans rfl, (a0z BK116.1 2).trans rfl, (a0z BK116.1 3).trans rfl, (a0z BK116.1 4).trans rfl, (a0z BK116.1 5).trans rfl, (a0z BK116.1 6).trans rfl⟩ (fun hHeld => ?_)
        clear hK K
        refine norm_ (a' := ?_) ?_ ?_
        rotate_left
        ·show Act.put _ (some 36) _ = _
         simp only [Act.put, sA_, sZ_, sS_, i64_w, i32_w]
         rfl
        refine one_ (i := 9) (N := some 41) #[true, true, true, true, true, true, true, true, true, true, true, true, true, true, false, false, true, false] rfl rfl (f1z HT_.1 (by kernel_rfl)) (by decide) (fun K hK => ?_)
        refine goes_ Try.func48 (by kernel_rfl) rfl #[.int .i64 t103, .int .i64 t110] (by rfl) rfl rfl (by (try simp only [List.map_toArray, List.map_cons, List.map_nil]); first | done | rfl | (simp only [List.length_drop, List.length_take]; rfl)) ?_
        with_reducible refine (laws_ovMore.calls t103 t110 t121 _ A29.1).mono ?_
        rintro e w' ⟨rfl, ⟨nd, rfl⟩⟩
        refine ⟨_, rfl, ?_⟩
        refine hK.out _ _ ⟨(a0z BK115.1 0).trans rfl, (a0z BK115.1 1).trans rfl, (a0z BK115.1 2).trans rfl, (a0z BK115.1 3).trans rfl, (a0z BK115.1 4).trans rfl, (a0z BK115.1 5).trans rfl, (a0z BK115.1 6).trans rfl, (a0z BK116.1 0).trans rfl, (a0z BK116.1 1).trans rfl, (a0z BK116.1 2).trans rfl, (a0z BK116.1 3).trans rfl, (a0z BK116.1 4).trans rfl, (a0z BK116.1 5).trans rfl, (a0z BK116.1 6).trans rfl⟩ (fun hHeld => ?_)
        clear hK K
        refine norm_ (a' := ?_) ?_ ?_
        rotate_left
        ·show Act.put _ (some 41) _ = _
         simp only [Act.put, sA_, sZ_, sS_, i64_w, i32_w]
         rfl
        refine one_ (i := 14) (N := some 46) #[true, true, true, true, true, true, true, true, true, true, true, true, true, true, true, false, true, false] rfl rfl (f1z HT_.1 (by kernel_rfl)) (by decide) (fun K hK => ?_)
        refine goes_ Try.func48 (by kernel_rfl) rfl #[.int .i64 t105, .int .i64 t112] (by rfl) rfl rfl (by (try simp only [List.map_toArray, List.map_cons, List.map_nil]); first | done | rfl | (simp only [List.length_drop, List.length_take]; rfl)) ?_
        with_reducible refine (laws_ovMore.calls t105 t112 t122 _ A30.1).mono ?_
        rintro e w' ⟨rfl, ⟨nd, rfl⟩⟩
        refine ⟨_, rfl, ?_⟩
        refine hK.out _ _ ⟨(a0z BK115.1 0).trans rfl, (a0z BK115.1 1).trans rfl, (a0z BK115.1 2).trans rfl, (a0z BK115.1 3).trans rfl, (a0z BK115.1 4).trans rfl, (a0z BK115.1 5).trans rfl, (a0z BK115.1 6).trans rfl, (a0z BK116.1 0).trans rfl, (a0z BK116.1 1).trans rfl, (a0z BK116.1 2).trans rfl, (a0z BK116.1 3).trans rfl, (a0z BK116.1 4).trans rfl, (a0z BK116.1 5).trans rfl, (a0z BK116.1 6).trans rfl⟩ (fun hHeld => ?_)
        clear hK K
        refine norm_ (a' := ?_) ?_ ?_
        rotate_left
        ·show Act.put _ (some 46) _ = _
         simp only [Act.put, sA_, sZ_, sS_, i64_w, i32_w]
         rfl
        refine pure_ (i := 15) (N := some 47) (v := ?_) (a' := ?_) #[true, true, true, true, true, true, true, true, true, true, true, true, true, true, true, true, true, false] rfl rfl (c9z HT_.1 (by kernel_rfl)) (fun _ _ _ h => h) (Or.inl ⟨by rfl, ?_⟩) ?_ ?_
        rotate_left
        ·intro w'
         go_simp
         with_reducible rfl
        rotate_left
        ·simp only [Act.put, sA_, sZ_, sS_, i64_w, i32_w]
         rfl
        exact norm_ (by simp only [putAll, Act.put, sA_, sZ_, sS_]) (hCont (gb123) _ ⟨hHeld, (by (with_reducible repeat (first | refine a7z ?_ _ | refine a8z ?_ | refine blk_alloc ?_ _)); exact BK115.1), (by (with_reducible repeat (first | refine a7z ?_ _ | refine a8z ?_ | refine blk_alloc ?_ _)); exact BK116.1), (by (with_reducible repeat (first | refine a7z ?_ _ | refine a8z ?_ | refine blk_alloc ?_ _)); exact BK123.1), GW123.1, GE123.1, NB115_123.1, NB123_115.1, NB116_123.1, NB123_116.1, (by repeat (first | (with_reducible first | exact HB.1 | apply a5z | apply a2z | apply a4z | refine a9z ?_ GE115.1 | refine a9z ?_ GE116.1 | refine a9z ?_ GE123.1) | exact HB.1))⟩)
      rintro gb123 w58 ⟨hS_, h0_, h1_, h2_, h3_, h4_, h5_, h6_, h7_, h8_, h9_⟩
      have n0_ : a1z (w58.heap[gb115]? = some (.cells #[.int .i64 t101, .int .i64 t102, .int .i64 t103, .int .i64 t104, .int .i64 t105, .int .i64 t106, .int .i64 t107] 67 (0, 0))) := ⟨h0_⟩
      have n1_ : a1z (w58.heap[gb116]? = some (.cells #[.int .i64 t108, .int .i64 t109, .int .i64 t110, .int .i64 t111, .int .i64 t112, .int .i64 t113, .int .i64 t114] 67 (0, 0))) := ⟨h1_⟩
      have n2_ : a1z (w58.heap[gb123]? = some (.cells #[.int .i64 0, .int .i64 0, .int .i64 0] 36 (0, 0))) := ⟨h2_⟩
      have n3_ : a1z (w.heap.size ≤ gb123) := ⟨h3_⟩
      have n4_ : a1z (w.heap.size ≤ gb123) := ⟨h4_⟩
      have n5_ : a1z (gb115 ≠ gb123) := ⟨h5_⟩
      have n6_ : a1z (gb123 ≠ gb115) := ⟨h6_⟩
      have n7_ : a1z (gb116 ≠ gb123) := ⟨h7_⟩
      have n8_ : a1z (gb123 ≠ gb116) := ⟨h8_⟩
      have n9_ : a1z (Below w.heap.size w w58) := ⟨h9_⟩
      clear BK115
      clear BK116
      clear HB
      clear h0_ h1_ h2_ h3_ h4_ h5_ h6_ h7_ h8_ h9_
      have BK115 := n0_
      have BK116 := n1_
      have BK123 := n2_
      have GW123 := n3_
      have GE123 := n4_
      have NB115_123 := n5_
      have NB123_115 := n6_
      have NB116_123 := n7_
      have NB123_116 := n8_
      have HB := n9_
      clear n0_ n1_ n2_ n3_ n4_ n5_ n6_ n7_ n8_ n9_
      have hHeld : w58.cell? ⟨gb115, 0, none⟩ = some (.int .i64 t101) ∧ w58.cell? ⟨gb115, 1, none⟩ = some (.int .i64 t102) ∧ w58.cell? ⟨gb115, 2, none⟩ = some (.int .i64 t103) ∧ w58.cell? ⟨gb115, 3, none⟩ = some (.int .i64 t104) ∧ w58.cell? ⟨gb115, 4, none⟩ = some (.int .i64 t105) ∧ w58.cell? ⟨gb115, 5, none⟩ = some (.int .i64 t106) ∧ w58.cell? ⟨gb115, 6, none⟩ = some (.int .i64 t107) ∧ w58.cell? ⟨gb116, 0, none⟩ = some (.int .i64 t108) ∧ w58.cell? ⟨gb116, 1, none⟩ = some (.int .i64 t109) ∧ w58.cell? ⟨gb116, 2, none⟩ = some (.int .i64 t110) ∧ w58.cell? ⟨gb116, 3, none⟩ = some (.int .i64 t111) ∧ w58.cell? ⟨gb116, 4, none⟩ = some (.int .i64 t112) ∧ w58.cell? ⟨gb116, 5, none⟩ = some (.int .i64 t113) ∧ w58.cell? ⟨gb116, 6, none⟩ = some (.int .i64 t114) := hS_
      refine norm_ (a' := ?_) ?_ ?_
      rotate_left
      ·simp only [putAll, Act.put, sA_, sZ_, sS_]
       rfl
      refine one_ (i := 17) (N := none) #[true, true, true, true, true, true, true, true, true, true, true, true, true, true, true, true, true, true] rfl rfl (f1z HT_.1 (by kernel_rfl)) (by decide) (fun K hK => ?_)
      have hs59 : w58.cell? ⟨gb123, 0, none⟩ = some (.int .i64 0) := (a0z BK123.1 0).trans rfl
      have hfs59 := a3z BK123.1 0
      have hns59_0 := NB115_123.1
      have hns59_1 := NB116_123.1
      have hms59_0 := NB123_115.1
      have hms59_1 := NB123_116.1
      have hs60 : w58.cell? ⟨gb123, 1, none⟩ = some (.int .i64 0) := (a0z BK123.1 1).trans rfl
      have hfs60 := a3z BK123.1 1
      have hns60_0 := NB115_123.1
      have hns60_1 := NB116_123.1
      have hms60_0 := NB123_115.1
      have hms60_1 := NB123_116.1
      have hs61 : w58.cell? ⟨gb123, 2, none⟩ = some (.int .i64 0) := (a0z BK123.1 2).trans rfl
      have hfs61 := a3z BK123.1 2
      have hns61_0 := NB115_123.1
      have hns61_1 := NB116_123.1
      have hms61_0 := NB123_115.1
      have hms61_1 := NB123_116.1
      refine skip_ (w1 := ?_) (by rfl) rfl ?_ ?_
      rotate_left
      ·go_simp
       rfl
      refine hK.out _ _ ⟨((b2z (p := ⟨gb123, _, none⟩) NB115_123.1 _).trans (((b2z (p := ⟨gb123, _, none⟩) NB115_123.1 _).trans (((b2z (p := ⟨gb123, _, none⟩) NB115_123.1 _).trans (hHeld.1)))))), ((b2z (p := ⟨gb123, _, none⟩) NB115_123.1 _).trans (((b2z (p := ⟨gb123, _, none⟩) NB115_123.1 _).trans (((b2z (p := ⟨gb123, _, none⟩) NB115_123.1 _).trans (hHeld.2.1)))))), ((b2z (p := ⟨gb123, _, none⟩) NB115_123.1 _).trans (((b2z (p := ⟨gb123, _, none⟩) NB115_123.1 _).trans (((b2z (p := ⟨gb123, _, none⟩) NB115_123.1 _).trans (hHeld.2.2.1)))))), ((b2z (p := ⟨gb123, _, none⟩) NB115_123.1 _).trans (((b2z (p := ⟨gb123, _, none⟩) NB115_123.1 _).trans (((b2z (p := ⟨gb123, _, none⟩) NB115_123.1 _).trans (hHeld.2.2.2.1)))))), ((b2z (p := ⟨gb123, _, none⟩) NB115_123.1 _).trans (((b2z (p := ⟨gb123, _, none⟩) NB115_123.1 _).trans (((b2z (p := ⟨gb123, _, none⟩) NB115_123.1 _).trans (hHeld.2.2.2.2.1)))))), ((b2z (p := ⟨gb123, _, none⟩) NB115_123.1 _).trans (((b2z (p := ⟨gb123, _, none⟩) NB115_123.1 _).trans (((b2z (p := ⟨gb123, _, none⟩) NB115_123.1 _).trans (hHeld.2.2.2.2.2.1)))))), ((b2z (p := ⟨gb123, _, none⟩) NB115_123.1 _).trans (((b2z (p := ⟨gb123, _, none⟩) NB115_123.1 _).trans (((b2z (p := ⟨gb123, _, none⟩) NB115_123.1 _).trans (hHeld.2.2.2.2.2.2.1)))))), ((b2z (p := ⟨gb123, _, none⟩) NB116_123.1 _).trans (((b2z (p := ⟨gb123, _, none⟩) NB116_123.1 _).trans (((b2z (p := ⟨gb123, _, none⟩) NB116_123.1 _).trans (hHeld.2.2.2.2.2.2.2.1)))))), ((b2z (p := ⟨gb123, _, none⟩) NB116_123.1 _).trans (((b2z (p := ⟨gb123, _, none⟩) NB116_123.1 _).trans (((b2z (p := ⟨gb123, _, none⟩) NB116_123.1 _).trans (hHeld.2.2.2.2.2.2.2.2.1)))))), ((b2z (p := ⟨gb123, _, none⟩) NB116_123.1 _).trans (((b2z (p := ⟨gb123, _, none⟩) NB116_123.1 _).trans (((b2z (p := ⟨gb123, _, none⟩) NB116_123.1 _).trans (hHeld.2.2.2.2.2.2.2.2.2.1)))))), ((b2z (p := ⟨gb123, _, none⟩) NB116_123.1 _).trans (((b2z (p := ⟨gb123, _, none⟩) NB116_123.1 _).trans (((b2z (p := ⟨gb123, _, none⟩) NB116_123.1 _).trans (hHeld.2.2.2.2.2.2.2.2.2.2.1)))))), ((b2z (p := ⟨gb123, _, none⟩) NB116_123.1 _).trans (((b2z (p := ⟨gb123, _, none⟩) NB116_123.1 _).trans (((b2z (p := ⟨gb123, _, none⟩) NB116_123.1 _).trans (hHeld.2.2.2.2.2.2.2.2.2.2.2.1)))))), ((b2z (p := ⟨gb123, _, none⟩) NB116_123.1 _).trans (((b2z (p := ⟨gb123, _, none⟩) NB116_123.1 _).trans (((b2z (p := ⟨gb123, _, none⟩) NB116_123.1 _).trans (hHeld.2.2.2.2.2.2.2.2.2.2.2.2.1)))))), ((b2z (p := ⟨gb123, _, none⟩) NB116_123.1 _).trans (((b2z (p := ⟨gb123, _, none⟩) NB116_123.1 _).trans (((b2z (p := ⟨gb123, _, none⟩) NB116_123.1 _).trans (hHeld.2.2.2.2.2.2.2.2.2.2.2.2.2))))))⟩ (fun hHeld => ?_)
      clear hK K
      refine done_ (h7z HT_.1 (by kernel_rfl)) ?_
      have hnb62 := NB115_116.1
      have hnc62 := NB116_115.1
      have hnb63 := NB115_123.1
      have hnc63 := NB123_115.1
      have hcz64_0 : w58.cell? ⟨gb115, 0, none⟩ = some (.int .i64 t101) := (a0z BK115.1 0).trans rfl
      have hcz64_1 : w58.cell? ⟨gb115, 1, none⟩ = some (.int .i64 t102) := (a0z BK115.1 1).trans rfl
      have hcz64_2 : w58.cell? ⟨gb115, 2, none⟩ = some (.int .i64 t103) := (a0z BK115.1 2).trans rfl
      have hcz64_3 : w58.cell? ⟨gb115, 3, none⟩ = some (.int .i64 t104) := (a0z BK115.1 3).trans rfl
      have hcz64_4 : w58.cell? ⟨gb115, 4, none⟩ = some (.int .i64 t105) := (a0z BK115.1 4).trans rfl
      have hcz64_5 : w58.cell? ⟨gb115, 5, none⟩ = some (.int .i64 t106) := (a0z BK115.1 5).trans rfl
      have hcz64_6 : w58.cell? ⟨gb115, 6, none⟩ = some (.int .i64 t107) := (a0z BK115.1 6).trans rfl
      have hfz64_0 := a3z BK115.1 0
      have hfz64_1 := a3z BK115.1 1
      have hfz64_2 := a3z BK115.1 2
      have hfz64_3 := a3z BK115.1 3
      have hfz64_4 := a3z BK115.1 4
      have hfz64_5 := a3z BK115.1 5
      have hfz64_6 := a3z BK115.1 6
      have hnb65 := NB116_123.1
      have hnc65 := NB123_116.1
      have hcz66_0 : w58.cell? ⟨gb116, 0, none⟩ = some (.int .i64 t108) := (a0z BK116.1 0).trans rfl
      have hcz66_1 : w58.cell? ⟨gb116, 1, none⟩ = some (.int .i64 t109) := (a0z BK116.1 1).trans rfl
      have hcz66_2 : w58.cell? ⟨gb116, 2, none⟩ = some (.int .i64 t110) := (a0z BK116.1 2).trans rfl
      have hcz66_3 : w58.cell? ⟨gb116, 3, none⟩ = some (.int .i64 t111) := (a0z BK116.1 3).trans rfl
      have hcz66_4 : w58.cell? ⟨gb116, 4, none⟩ = some (.int .i64 t112) := (a0z BK116.1 4).trans rfl
      have hcz66_5 : w58.cell? ⟨gb116, 5, none⟩ = some (.int .i64 t113) := (a0z BK116.1 5).trans rfl
      have hcz66_6 : w58.cell? ⟨gb116, 6, none⟩ = some (.int .i64 t114) := (a0z BK116.1 6).trans rfl
      have hfz66_0 := a3z BK116.1 0
      have hfz66_1 := a3z BK116.1 1
      have hfz66_2 := a3z BK116.1 2
      have hfz66_3 := a3z BK116.1 3
      have hfz66_4 := a3z BK116.1 4
      have hfz66_5 := a3z BK116.1 5
      have hfz66_6 := a3z BK116.1 6
      try go_wp2_with (first | ((with_reducible refine d1z (N := 51) rfl ?_); refine Kd.R_lit k67 _ 67 ?hg (N := 51) ?hd (xs := ([(⟨t101, t102, t103, t104, t105, t106, 1⟩ : S67)] : List (S67))) (inner := [.int .i64 t101, .int .i64 t102, .int .i64 t103, .int .i64 t104, .int .i64 t105, .int .i64 t106, .int .i64 1]) (ok := fun _ => True) (okp := fun _ => True) ?hr ?hp (fun _ hk => hk) trivial (Below.refl _ _) (Nat.le_refl _) (by simp) ?_; (case hd => rfl); (case hg => rfl); (case hr => first | (go_simp; done) | (go_simp; rfl)); (case hp => exact (Reps.c7 (show Kd.M k67 _ _ _ (⟨t101, t102, t103, t104, t105, t106, 1⟩ : S67) [.int .i64 t101, .int .i64 t102, .int .i64 t103, .int .i64 t104, .int .i64 t105, .int .i64 t106, .int .i64 1] from (g2z _ _ _ (⟨t101, t102, t103, t104, t105, t106, 1⟩ : S67) )) (Reps.none _ _))); intro v125 w67 ho68 hb hg_ hnew_; clear hg_ hnew_; (first | rw [← Ny124.1] at ho68 | (simp only [Int.reduceToNat] at ho68; rw [← Ny124.1] at ho68)); have n0_ := a1z.mk (Kd.e4z (Kd.R_newB (Kd.R_newB ho68 (g := gb115) (o := .cells #[.int .i64 t101, .int .i64 t102, .int .i64 t103, .int .i64 t104, .int .i64 t105, .int .i64 t106, .int .i64 1] 67 (0, 0)) (by (with_reducible repeat (first | refine a7z ?_ _ | refine a8z ?_ | refine blk_alloc ?_ _)); refine c8z ?_ NB115_116.1 _; (with_reducible repeat (first | refine a7z ?_ _ | refine a8z ?_ | refine blk_alloc ?_ _)); refine d0z (cs := #[.int .i64 t101, .int .i64 t102, .int .i64 t103, .int .i64 t104, .int .i64 t105, .int .i64 t106, .int .i64 t107]) ?_ 6 _ rfl; (with_reducible repeat (first | refine a7z ?_ _ | refine a8z ?_ | refine blk_alloc ?_ _)); refine c8z ?_ NB115_123.1 _; (with_reducible repeat (first | refine a7z ?_ _ | refine a8z ?_ | refine blk_alloc ?_ _)); refine c8z ?_ NB115_123.1 _; (with_reducible repeat (first | refine a7z ?_ _ | refine a8z ?_ | refine blk_alloc ?_ _)); refine c8z ?_ NB115_123.1 _; (with_reducible repeat (first | refine a7z ?_ _ | refine a8z ?_ | refine blk_alloc ?_ _)); exact BK115.1)) (g := gb116) (o := .cells #[.int .i64 t108, .int .i64 t109, .int .i64 t110, .int .i64 t111, .int .i64 t112, .int .i64 t113, .int .i64 1] 67 (0, 0)) (by (with_reducible repeat (first | refine a7z ?_ _ | refine a8z ?_ | refine blk_alloc ?_ _)); refine d0z (cs := #[.int .i64 t108, .int .i64 t109, .int .i64 t110, .int .i64 t111, .int .i64 t112, .int .i64 t113, .int .i64 t114]) ?_ 6 _ rfl; (with_reducible repeat (first | refine a7z ?_ _ | refine a8z ?_ | refine blk_alloc ?_ _)); refine c8z ?_ NB116_115.1 _; (with_reducible repeat (first | refine a7z ?_ _ | refine a8z ?_ | refine blk_alloc ?_ _)); refine c8z ?_ NB116_123.1 _; (with_reducible repeat (first | refine a7z ?_ _ | refine a8z ?_ | refine blk_alloc ?_ _)); refine c8z ?_ NB116_123.1 _; (with_reducible repeat (first | refine a7z ?_ _ | refine a8z ?_ | refine blk_alloc ?_ _)); refine c8z ?_ NB116_123.1 _; (with_reducible repeat (first | refine a7z ?_ _ | refine a8z ?_ | refine blk_alloc ?_ _)); exact BK116.1)) (b5z (by repeat (first | (with_reducible first | exact HB.1 | apply a5z | apply a2z | apply a4z | refine a9z ?_ GE115.1 | refine a9z ?_ GE116.1 | refine a9z ?_ GE123.1) | exact HB.1)))); have n1_ := a1z.mk (c4z (g := gb115) (o := .cells #[.int .i64 t101, .int .i64 t102, .int .i64 t103, .int .i64 t104, .int .i64 t105, .int .i64 t106, .int .i64 1] 67 (0, 0)) (by (with_reducible repeat (first | refine a7z ?_ _ | refine a8z ?_ | refine blk_alloc ?_ _)); refine c8z ?_ NB115_116.1 _; (with_reducible repeat (first | refine a7z ?_ _ | refine a8z ?_ | refine blk_alloc ?_ _)); refine d0z (cs := #[.int .i64 t101, .int .i64 t102, .int .i64 t103, .int .i64 t104, .int .i64 t105, .int .i64 t106, .int .i64 t107]) ?_ 6 _ rfl; (with_reducible repeat (first | refine a7z ?_ _ | refine a8z ?_ | refine blk_alloc ?_ _)); refine c8z ?_ NB115_123.1 _; (with_reducible repeat (first | refine a7z ?_ _ | refine a8z ?_ | refine blk_alloc ?_ _)); refine c8z ?_ NB115_123.1 _; (with_reducible repeat (first | refine a7z ?_ _ | refine a8z ?_ | refine blk_alloc ?_ _)); refine c8z ?_ NB115_123.1 _; (with_reducible repeat (first | refine a7z ?_ _ | refine a8z ?_ | refine blk_alloc ?_ _)); exact BK115.1) hb); have n2_ := a1z.mk (c4z (g := gb116) (o := .cells #[.int .i64 t108, .int .i64 t109, .int .i64 t110, .int .i64 t111, .int .i64 t112, .int .i64 t113, .int .i64 1] 67 (0, 0)) (by (with_reducible repeat (first | refine a7z ?_ _ | refine a8z ?_ | refine blk_alloc ?_ _)); refine d0z (cs := #[.int .i64 t108, .int .i64 t109, .int .i64 t110, .int .i64 t111, .int .i64 t112, .int .i64 t113, .int .i64 t114]) ?_ 6 _ rfl; (with_reducible repeat (first | refine a7z ?_ _ | refine a8z ?_ | refine blk_alloc ?_ _)); refine c8z ?_ NB116_115.1 _; (with_reducible repeat (first | refine a7z ?_ _ | refine a8z ?_ | refine blk_alloc ?_ _)); refine c8z ?_ NB116_123.1 _; (with_reducible repeat (first | refine a7z ?_ _ | refine a8z ?_ | refine blk_alloc ?_ _)); refine c8z ?_ NB116_123.1 _; (with_reducible repeat (first | refine a7z ?_ _ | refine a8z ?_ | refine blk_alloc ?_ _)); refine c8z ?_ NB116_123.1 _; (with_reducible repeat (first | refine a7z ?_ _ | refine a8z ?_ | refine blk_alloc ?_ _)); exact BK116.1) hb); have n3_ := a1z.mk (c4z (g := gb123) (o := .cells #[.int .i64 t120, .int .i64 t121, .int .i64 t122] 36 (0, 0)) (by (with_reducible repeat (first | refine a7z ?_ _ | refine a8z ?_ | refine blk_alloc ?_ _)); refine c8z ?_ NB123_116.1 _; (with_reducible repeat (first | refine a7z ?_ _ | refine a8z ?_ | refine blk_alloc ?_ _)); refine c8z ?_ NB123_115.1 _; (with_reducible repeat (first | refine a7z ?_ _ | refine a8z ?_ | refine blk_alloc ?_ _)); refine d0z (cs := #[.int .i64 t120, .int .i64 t121, .int .i64 0]) ?_ 2 _ rfl; (with_reducible repeat (first | refine a7z ?_ _ | refine a8z ?_ | refine blk_alloc ?_ _)); refine d0z (cs := #[.int .i64 t120, .int .i64 0, .int .i64 0]) ?_ 1 _ rfl; (with_reducible repeat (first | refine a7z ?_ _ | refine a8z ?_ | refine blk_alloc ?_ _)); refine d0z (cs := #[.int .i64 0, .int .i64 0, .int .i64 0]) ?_ 0 _ rfl; (with_reducible repeat (first | refine a7z ?_ _ | refine a8z ?_ | refine blk_alloc ?_ _)); exact BK123.1) hb); have n4_ := a1z.mk (b7z (by repeat (first | (with_reducible first | exact HB.1 | apply a5z | apply a2z | apply a4z | refine a9z ?_ GE115.1 | refine a9z ?_ GE116.1 | refine a9z ?_ GE123.1) | exact HB.1)) hb); clear BK115; clear BK116; clear BK123; clear HB; have HO126 := n0_; have BK115 := n1_; have BK116 := n2_; have BK123 := n3_; have HB := n4_; clear n0_ n1_ n2_ n3_ n4_; clear hb ho68; have hcz69_0 : w67.cell? ⟨gb123, 0, none⟩ = some (.int .i64 t120) := (a0z BK123.1 0).trans rfl; have hcz69_1 : w67.cell? ⟨gb123, 1, none⟩ = some (.int .i64 t121) := (a0z BK123.1 1).trans rfl; have hcz69_2 : w67.cell? ⟨gb123, 2, none⟩ = some (.int .i64 t122) := (a0z BK123.1 2).trans rfl; have hfz69_0 := a3z BK123.1 0; have hfz69_1 := a3z BK123.1 1; have hfz69_2 := a3z BK123.1 2; obtain ⟨Ao70, co70, eo70⟩ := Kd.d6z HO126.1; subst eo70) | ((with_reducible refine c5z (f := 22) rfl ?_); refine d5z (some 53) rfl rfl Try.func22 (by kernel_rfl) rfl #[.slice Ao70 y124.length co70, .agg #[.int .i64 t120, .int .i64 t121, .int .i64 t122]] rfl (by (try simp only [List.map_toArray, List.map_cons, List.map_nil]); first | done | rfl | (simp only [List.length_drop, List.length_take]; rfl)) ?_; (with_reducible refine (impl_CellsFind.calls kj4 _ _ y124 t120 t121 t122 t127 _ ?side1 ?side2 A31.1).mono ?_); (case side1 => repeat (first | exact (Kd.b9z HO126.1).2.2 | (with_reducible refine Kd.C_alloc ?_ _) | (with_reducible refine Kd.C_drewN ?_ _) | (with_reducible refine Kd.C_drew ?_))); (case side2 => exact (Kd.b9z HO126.1).2.1); rintro e w71 ⟨rfl, hb⟩; refine ⟨_, rfl, ?_⟩; have n0_ := a1z.mk (Kd.d7z (by (with_reducible repeat (first | apply Kd.R_alloc | apply Kd.b1z | apply Kd.b3z)); exact HO126.1) hb); have n1_ := a1z.mk (c4z (g := gb115) (o := .cells #[.int .i64 t101, .int .i64 t102, .int .i64 t103, .int .i64 t104, .int .i64 t105, .int .i64 t106, .int .i64 1] 67 (0, 0)) (by (with_reducible repeat (first | refine a7z ?_ _ | refine a8z ?_ | refine blk_alloc ?_ _)); exact BK115.1) hb); have n2_ := a1z.mk (c4z (g := gb116) (o := .cells #[.int .i64 t108, .int .i64 t109, .int .i64 t110, .int .i64 t111, .int .i64 t112, .int .i64 t113, .int .i64 1] 67 (0, 0)) (by (with_reducible repeat (first | refine a7z ?_ _ | refine a8z ?_ | refine blk_alloc ?_ _)); exact BK116.1) hb); have n3_ := a1z.mk (c4z (g := gb123) (o := .cells #[.int .i64 t120, .int .i64 t121, .int .i64 t122] 36 (0, 0)) (by (with_reducible repeat (first | refine a7z ?_ _ | refine a8z ?_ | refine blk_alloc ?_ _)); exact BK123.1) hb); have n4_ := a1z.mk (b7z (by repeat (first | (with_reducible first | exact HB.1 | apply a5z | apply a2z | apply a4z | refine a9z ?_ GE115.1 | refine a9z ?_ GE116.1 | refine a9z ?_ GE123.1) | exact HB.1)) hb); clear HO126; clear BK115; clear BK116; clear BK123; clear HB; have HO126 := n0_; have BK115 := n1_; have BK116 := n2_; have BK123 := n3_; have HB := n4_; clear n0_ n1_ n2_ n3_ n4_; (try clear hb); (try clear hb2); (try clear hk); (try clear hi); have hcz72_0 : w71.cell? ⟨gb116, 0, none⟩ = some (.int .i64 t108) := (a0z BK116.1 0).trans rfl; have hcz72_1 : w71.cell? ⟨gb116, 1, none⟩ = some (.int .i64 t109) := (a0z BK116.1 1).trans rfl; have hcz72_2 : w71.cell? ⟨gb116, 2, none⟩ = some (.int .i64 t110) := (a0z BK116.1 2).trans rfl; have hcz72_3 : w71.cell? ⟨gb116, 3, none⟩ = some (.int .i64 t111) := (a0z BK116.1 3).trans rfl; have hcz72_4 : w71.cell? ⟨gb116, 4, none⟩ = some (.int .i64 t112) := (a0z BK116.1 4).trans rfl; have hcz72_5 : w71.cell? ⟨gb116, 5, none⟩ = some (.int .i64 t113) := (a0z BK116.1 5).trans rfl; have hcz72_6 : w71.cell? ⟨gb116, 6, none⟩ = some (.int .i64 1) := (a0z BK116.1 6).trans rfl; have hfz72_0 := a3z BK116.1 0; have hfz72_1 := a3z BK116.1 1; have hfz72_2 := a3z BK116.1 2; have hfz72_3 := a3z BK116.1 3; have hfz72_4 := a3z BK116.1 4; have hfz72_5 := a3z BK116.1 5; have hfz72_6 := a3z BK116.1 6) | ((with_reducible refine d1z (N := 56) rfl ?_); refine Kd.R_lit k67 _ 67 ?hg (N := 56) ?hd (xs := ([(⟨t108, t109, t110, t111, t112, t113, 1⟩ : S67)] : List (S67))) (inner := [.int .i64 t108, .int .i64 t109, .int .i64 t110, .int .i64 t111, .int .i64 t112, .int .i64 t113, .int .i64 1]) (ok := fun _ => True) (okp := fun _ => True) ?hr ?hp (fun _ hk => hk) trivial (Below.refl _ _) (Nat.le_refl _) (by simp) ?_; (case hd => rfl); (case hg => rfl); (case hr => first | (go_simp; done) | (go_simp; rfl)); (case hp => exact (Reps.c7 (show Kd.M k67 _ _ _ (⟨t108, t109, t110, t111, t112, t113, 1⟩ : S67) [.int .i64 t108, .int .i64 t109, .int .i64 t110, .int .i64 t111, .int .i64 t112, .int .i64 t113, .int .i64 1] from (g2z _ _ _ (⟨t108, t109, t110, t111, t112, t113, 1⟩ : S67) )) (Reps.none _ _))); intro v129 w73 ho74 hb hg_ hnew_; clear hg_ hnew_; (first | rw [← Ny128.1] at ho74 | (simp only [Int.reduceToNat] at ho74; rw [← Ny128.1] at ho74)); have n0_ := a1z.mk (Kd.f0z (by (with_reducible repeat (first | apply Kd.R_alloc | apply Kd.b1z | apply Kd.b3z)); exact HO126.1) (Kd.f8z ho74) hb); have n1_ := a1z.mk (Kd.e4z (Kd.R_newB (Kd.R_newB (Kd.f9z ho74 (Kd.R_lt (by (with_reducible repeat (first | apply Kd.R_alloc | apply Kd.b1z | apply Kd.b3z)); exact HO126.1))) (g := gb115) (o := .cells #[.int .i64 t101, .int .i64 t102, .int .i64 t103, .int .i64 t104, .int .i64 t105, .int .i64 t106, .int .i64 1] 67 (0, 0)) (by (with_reducible repeat (first | refine a7z ?_ _ | refine a8z ?_ | refine blk_alloc ?_ _)); exact BK115.1)) (g := gb116) (o := .cells #[.int .i64 t108, .int .i64 t109, .int .i64 t110, .int .i64 t111, .int .i64 t112, .int .i64 t113, .int .i64 1] 67 (0, 0)) (by (with_reducible repeat (first | refine a7z ?_ _ | refine a8z ?_ | refine blk_alloc ?_ _)); exact BK116.1)) (b5z (by repeat (first | (with_reducible first | exact HB.1 | apply a5z | apply a2z | apply a4z | refine a9z ?_ GE115.1 | refine a9z ?_ GE116.1 | refine a9z ?_ GE123.1) | exact HB.1)))); have n2_ := a1z.mk (c4z (g := gb115) (o := .cells #[.int .i64 t101, .int .i64 t102, .int .i64 t103, .int .i64 t104, .int .i64 t105, .int .i64 t106, .int .i64 1] 67 (0, 0)) (by (with_reducible repeat (first | refine a7z ?_ _ | refine a8z ?_ | refine blk_alloc ?_ _)); exact BK115.1) hb); have n3_ := a1z.mk (c4z (g := gb116) (o := .cells #[.int .i64 t108, .int .i64 t109, .int .i64 t110, .int .i64 t111, .int .i64 t112, .int .i64 t113, .int .i64 1] 67 (0, 0)) (by (with_reducible repeat (first | refine a7z ?_ _ | refine a8z ?_ | refine blk_alloc ?_ _)); exact BK116.1) hb); have n4_ := a1z.mk (c4z (g := gb123) (o := .cells #[.int .i64 t120, .int .i64 t121, .int .i64 t122] 36 (0, 0)) (by (with_reducible repeat (first | refine a7z ?_ _ | refine a8z ?_ | refine blk_alloc ?_ _)); exact BK123.1) hb); have n5_ := a1z.mk (b7z (by repeat (first | (with_reducible first | exact HB.1 | apply a5z | apply a2z | apply a4z | refine a9z ?_ GE115.1 | refine a9z ?_ GE116.1 | refine a9z ?_ GE123.1) | exact HB.1)) hb); clear HO126; clear BK115; clear BK116; clear BK123; clear HB; have HO126 := n0_; have HO130 := n1_; have BK115 := n2_; have BK116 := n3_; have BK123 := n4_; have HB := n5_; clear n0_ n1_ n2_ n3_ n4_ n5_; clear hb ho74; have hcz75_0 : w73.cell? ⟨gb123, 0, none⟩ = some (.int .i64 t120) := (a0z BK123.1 0).trans rfl; have hcz75_1 : w73.cell? ⟨gb123, 1, none⟩ = some (.int .i64 t121) := (a0z BK123.1 1).trans rfl; have hcz75_2 : w73.cell? ⟨gb123, 2, none⟩ = some (.int .i64 t122) := (a0z BK123.1 2).trans rfl; have hfz75_0 := a3z BK123.1 0; have hfz75_1 := a3z BK123.1 1; have hfz75_2 := a3z BK123.1 2; obtain ⟨Ao76, co76, eo76⟩ := Kd.d6z HO130.1; subst eo76) | ((with_reducible refine c5z (f := 22) rfl ?_); refine d5z (some 58) rfl rfl Try.func22 (by kernel_rfl) rfl #[.slice Ao76 y128.length co76, .agg #[.int .i64 t120, .int .i64 t121, .int .i64 t122]] rfl (by (try simp only [List.map_toArray, List.map_cons, List.map_nil]); first | done | rfl | (simp only [List.length_drop, List.length_take]; rfl)) ?_; (with_reducible refine (impl_CellsFind.calls kj4 _ _ y128 t120 t121 t122 t131 _ ?side1 ?side2 A32.1).mono ?_); (case side1 => repeat (first | exact (Kd.b9z HO130.1).2.2 | (with_reducible refine Kd.C_alloc ?_ _) | (with_reducible refine Kd.C_drewN ?_ _) | (with_reducible refine Kd.C_drew ?_))); (case side2 => exact (Kd.b9z HO130.1).2.1); rintro e w77 ⟨rfl, hb⟩; refine ⟨_, rfl, ?_⟩; have n0_ := a1z.mk (Kd.d7z (by (with_reducible repeat (first | apply Kd.R_alloc | apply Kd.b1z | apply Kd.b3z)); exact HO126.1) hb); have n1_ := a1z.mk (Kd.d7z (by (with_reducible repeat (first | apply Kd.R_alloc | apply Kd.b1z | apply Kd.b3z)); exact HO130.1) hb); have n2_ := a1z.mk (c4z (g := gb115) (o := .cells #[.int .i64 t101, .int .i64 t102, .int .i64 t103, .int .i64 t104, .int .i64 t105, .int .i64 t106, .int .i64 1] 67 (0, 0)) (by (with_reducible repeat (first | refine a7z ?_ _ | refine a8z ?_ | refine blk_alloc ?_ _)); exact BK115.1) hb); have n3_ := a1z.mk (c4z (g := gb116) (o := .cells #[.int .i64 t108, .int .i64 t109, .int .i64 t110, .int .i64 t111, .int .i64 t112, .int .i64 t113, .int .i64 1] 67 (0, 0)) (by (with_reducible repeat (first | refine a7z ?_ _ | refine a8z ?_ | refine blk_alloc ?_ _)); exact BK116.1) hb); have n4_ := a1z.mk (c4z (g := gb123) (o := .cells #[.int .i64 t120, .int .i64 t121, .int .i64 t122] 36 (0, 0)) (by (with_reducible repeat (first | refine a7z ?_ _ | refine a8z ?_ | refine blk_alloc ?_ _)); exact BK123.1) hb); have n5_ := a1z.mk (b7z (by repeat (first | (with_reducible first | exact HB.1 | apply a5z | apply a2z | apply a4z | refine a9z ?_ GE115.1 | refine a9z ?_ GE116.1 | refine a9z ?_ GE123.1) | exact HB.1)) hb); clear HO126; clear HO130; clear BK115; clear BK116; clear BK123; clear HB; have HO126 := n0_; have HO130 := n1_; have BK115 := n2_; have BK116 := n3_; have BK123 := n4_; have HB := n5_; clear n0_ n1_ n2_ n3_ n4_ n5_; (try clear hb); (try clear hb2); (try clear hk); (try clear hi)))
      go_ret
      exact ⟨by first | rfl | (simp [c2z, c1z] <;> rfl) | (simp [*, c2z, c1z] <;> rfl), by repeat (first | (with_reducible first | exact HB.1 | apply a5z | apply a2z | apply a4z | refine a9z ?_ GE115.1 | refine a9z ?_ GE116.1 | refine a9z ?_ GE123.1) | exact HB.1)⟩
end Go.Proofs.Ytbhgkpfbggkgdaa.Q

namespace Go.Proofs.Ytbhgkpfbggkgdaa.Open
open Go.RowKit Go.ChangeShapes Go.WideShapes Go.Deep Go.Proofs.YtbhgkpfbggkgdaaW.PrintWords
/-- A number fits its kind. -/
def Fits (k : IntKind) (n : Int) : Prop := (Lit.int k n).wf = true
/-- What the cells of a type say. -/
def Opens (P : Program) (w : World) (t : TypeId) {α : Type} (d : Kd α) (p : α → Prop) : Prop :=
 ∀ (H : Type) (enc : TypeId × Value → H) (base : Nat) (spare : Nat → Bool) (held : Bool) (fuel : Nat) (cs : List Value) (x : DataW H × List MemPlace),
  DataW.trod enc P w base spare held fuel t cs = some x → ∃ a, d.K w a cs ∧ p a
theorem opens_int {P : Program} {w : World} {t : TypeId} {k : IntKind} (ht : P.underlying t = some (.int k)) : Opens P w t (Kd.int k) (fun n => Fits k n) := by
 intro H enc base spare held fuel cs x h
 obtain ⟨n, rfl, _, hw⟩ := DataW.trod_int ht h
 exact ⟨n, rfl, hw⟩
theorem pick {α : Type} (n : Nat) (R : Nat → α → Prop) (h : ∀ i, i < n → ∃ a, R i a) : ∃ xs : List α, xs.length = n ∧ ∀ i a, xs[i]? = some a → R i a := by
 induction n with
 | zero => exact ⟨[], rfl, fun i a e => by simp at e⟩
 | succ n ih =>
  obtain ⟨xs, hl, hx⟩ := ih (fun i hi => h i (by omega))
  obtain ⟨a, ha⟩ := h n (by omega)
  refine ⟨xs ++ [a], by simp [hl], fun i b e => ?_⟩
  rcases Nat.lt_or_ge i xs.length with hi | hi
  ·rw [List.getElem?_append_left hi] at e
   exact hx i b e
  ·have hlt := (List.getElem?_eq_some_iff.1 e).1
   rw [List.length_append, List.length_singleton] at hlt
   obtain rfl : i = xs.length := by omega
   simp at e
   subst e
   rw [hl]
   exact ha
theorem opens_slice {P : Program} {w : World} {t e : TypeId} {α : Type} {d : Kd α} {p : α → Prop} (ht : P.underlying t = some (.slice e)) (hc : P.cellsOf e = d.sz) (he : Opens P w e d p) :
  Opens P w t (Kd.slice e d) (fun xs => xs.length ≤ 9223372036854775807 ∧ ∀ y ∈ xs, p y) := by
 intro H enc base spare held fuel cs x h
 rcases open_slice ht h with ⟨rfl, _⟩ | ⟨a, len, cap, m, n, D, Pl, rfl, _, hl, hm, hmm, _, hi⟩
 ·exact ⟨[], ⟨none, 0, rfl, by simp, by simp, by simp, fun hn => by simp at hn⟩, by simp, by simp⟩
 ·have hle : len ≤ m := by rw [hmm]; split <;> omega
  obtain ⟨xs, hxl, hx⟩ := pick len (fun i y => p y ∧ ∃ c, c.length = d.sz ∧ d.K w y c ∧ ∀ j u, c[j]? = some u → w.cell? (a.add (i * d.sz + j)) = some u) (fun i hil => by
   obtain ⟨cs', h1, h2⟩ := hi i (by omega)
   obtain ⟨y, hK, hp⟩ := he _ _ _ _ _ _ _ _ h2
   obtain ⟨_, hcl, hat⟩ := World.cells?_some h1
   rw [hc] at hcl hat
   refine ⟨y, hp, cs', hcl, hK, fun j u hu => ?_⟩
   have hj := (List.getElem?_eq_some_iff.1 hu).1
   rw [← Go.Deep.add_add, hat j (by omega), hu])
  have hmx : maxLen = 9223372036854775807 := rfl
  refine ⟨xs, ⟨some a, cap, by rw [hxl], by omega, ?_⟩, by omega, fun y hy => ?_⟩
  ·refine ⟨rfl, by omega, fun _ => ⟨a, rfl, fun j q hj => ?_⟩⟩
   obtain ⟨_, c, h1, h2, h3⟩ := hx j q hj
   exact ⟨c, h1, h2, h3⟩
  ·obtain ⟨i, hi2⟩ := List.getElem?_of_mem hy
   exact (hx i y hi2).1
theorem open_arg {H : Type} {enc : TypeId × Value → H} {P : Program} {w : World} {base : Nat} {spare : Nat → Bool} {held : Bool} {t : TypeId} {α : Type} {d : Kd α} {p : α → Prop} {v : Value} {dt : DataW H} {ps : List MemPlace} (he : Opens P w t d p)
  (h : DataW.Trod enc P w base spare held t v dt ps) : ∃ a, d.K w a v.cells.toList ∧ p a := by
 obtain ⟨fuel, hf⟩ := h
 exact he _ _ _ _ _ _ _ _ hf
theorem slice_of_cells {a A : Option Addr} {len cap n c : Nat} (h : (Value.slice a len cap).cells.toList = [.slice A n c]) : A = a ∧ len = n ∧ c = cap := by
 simp only [Value.cells, List.cons.injEq, Value.slice.injEq, and_true] at h
 exact ⟨h.1.symm, h.2.1, h.2.2.symm⟩
end Go.Proofs.Ytbhgkpfbggkgdaa.Open

namespace Go.Proofs.Ytbhgkpfbggkgdaa.Q
open Go.RowKit Go.Proofs.YtbhgkpfbggkgdaaW.PrintWords Go.Proofs.Ytbhgkpfbggkgdaa.Open
theorem op5 (w : World) : Opens Try.prog w 5 (Kd.int .u8) (fun x => Open.Fits .u8 x) := opens_int Try.underlying5
theorem op40 (w : World) : Opens Try.prog w 40 (Kd.slice 5 (Kd.int .u8)) (fun x => (x.length ≤ 9223372036854775807 ∧ ∀ y ∈ x, Open.Fits .u8 y)) := opens_slice Try.underlying40 (by kernel_rfl) (op5 w)
end Go.Proofs.Ytbhgkpfbggkgdaa.Q

namespace Go.Proofs.Ytbhgkpfbggkgdaa.Q
open Go.Proofs.Ytbhgkpfbggkgdaa.Open
/-- The pure statement of laws_FnCellsMeet. -/
def laws_FnCellsMeet.Pure : Prop := ∀ (x0 : List Int), ((x0.length ≤ 9223372036854775807 ∧ ∀ y ∈ x0, Open.Fits .u8 y)) → ∃ k, laws_FnCellsMeet.f k x0 = some true
end Go.Proofs.Ytbhgkpfbggkgdaa.Q

namespace Go.Proofs.Ytbhgkpfbggkgdaa.Pure
open Go.RowKit
theorem w64 {x : Int} (h : -9223372036854775808 ≤ x) (h' : x ≤ 9223372036854775807) : wrap64 x = x := by
 unfold wrap64
 omega
/-- A loop that leaves at the first place that isn't good. -/
theorem scan_loop {β : Type} (l0 : Nat → Int → Option β) (n K : Nat) (good : Nat → Bool) (bad fin : β)
  (hgood : ∀ k i : Nat, i < n → K ≤ k → (∀ j, j < i → good j = true) → good i = true → l0 (k + 1) (i : Int) = l0 k ((i + 1 : Nat) : Int))
  (hbad : ∀ k i : Nat, i < n → K ≤ k → (∀ j, j < i → good j = true) → good i = false → l0 (k + 1) (i : Int) = some bad)
  (hend : ∀ k : Nat, K ≤ k → l0 (k + 1) (n : Int) = some fin) :
  ∀ k, n + K < k → l0 k 0 = some (if (List.range n).all good then fin else bad) := by
 have key : ∀ (e k i : Nat), n - i = e → e + K < k → i ≤ n → (∀ j, j < i → good j = true) → l0 k (i : Int) = some (if (List.range n).all good then fin else bad) := by
  intro e
  induction e with
  | zero =>
   intro k i he hk hi hg
   obtain ⟨k, rfl⟩ : ∃ m, k = m + 1 := ⟨k - 1, by omega⟩
   obtain rfl : i = n := by omega
   rw [hend k (by omega), if_pos]
   rw [List.all_eq_true]
   exact fun x hx => hg x (List.mem_range.1 hx)
  | succ e ih =>
   intro k i he hk hi hg
   obtain ⟨k, rfl⟩ : ∃ m, k = m + 1 := ⟨k - 1, by omega⟩
   cases hc : good i with
   | true =>
    rw [hgood k i (by omega) (by omega) hg hc]
    refine ih k (i + 1) (by omega) (by omega) (by omega) (fun j hj => ?_)
    by_cases h : j = i
    ·rw [h]; exact hc
    ·exact hg j (by omega)
   | false =>
    rw [hbad k i (by omega) (by omega) hg hc, if_neg]
    rw [List.all_eq_true]
    intro h
    have := h i (List.mem_range.2 (by omega))
    rw [hc] at this
    exact absurd this (by simp)
 intro k hk
 exact key n k 0 (by omega) (by omega) (by omega) (fun j hj => by omega)
end Go.Proofs.Ytbhgkpfbggkgdaa.Pure

namespace Go.Proofs.Ytbhgkpfbggkgdaa.Pure
open Go.RowKit Go.Proofs.Ytbhgkpfbggkgdaa.Q Go.Proofs.YtbhgkpfbggkgdaaW.PrintWords Go.Proofs.YtbhgkpfbggkgdaaW.PrintLast Go.Proofs.YtbhgkpfbggkgdaaW.PrintMore
/-- How many addresses a block of b bits has. -/
def sz (b : Int) : Int := 2 ^ (32 - b).toNat
theorem sz_pos (b : Int) : 0 < sz b := Int.pow_pos (by omega)
theorem sz_le {b : Int} (h : 0 ≤ b) : sz b ≤ 4294967296 := by
 have h1 : (32 - b).toNat ≤ 32 := by omega
 have h2 : (2 : Nat) ^ (32 - b).toNat ≤ 2 ^ 32 := Nat.pow_le_pow_right (by omega) h1
 have h3 : ((2 : Nat) ^ (32 - b).toNat : Nat) ≤ 4294967296 := by simpa using h2
 unfold sz
 have h4 : ((2 ^ (32 - b).toNat : Nat) : Int) = (2 : Int) ^ (32 - b).toNat := by norm_cast
 omega
theorem in_spec (a lo hi : Int) : spec_l1In.f a lo hi = some (decide (lo ≤ a ∧ a ≤ hi)) := by
 unfold spec_l1In.f
 by_cases h : a ≥ lo
 ·rw [if_pos h]; simp [show lo ≤ a from h]
 ·rw [if_neg h]; simp [show ¬ lo ≤ a from h]
theorem in_impl (a lo hi : Int) : impl_in.f a lo hi = some (decide (lo ≤ a ∧ a ≤ hi)) := by
 unfold impl_in.f
 by_cases h : a ≥ lo
 ·rw [if_pos h]; simp [show lo ≤ a from h]
 ·rw [if_neg h]; simp [show ¬ lo ≤ a from h]
theorem addr_spec (a : Int) : spec_l1Addr.f a = some (decide (0 ≤ a ∧ a ≤ 4294967295)) := by
 unfold spec_l1Addr.f
 rw [in_spec]
 rfl
theorem two_ev : ∀ (m k : Nat) (x : Int), m < k → 0 ≤ x → x * 2 ^ m ≤ 9223372036854775807 → m ≤ 62 → spec_l1Two.l0 k m x = some (x * 2 ^ m) := by
 intro m
 induction m with
 | zero =>
  intro k x hk h0 h1 _
  obtain ⟨k, rfl⟩ : ∃ j, k = j + 1 := ⟨k - 1, by omega⟩
  simp only [spec_l1Two.l0]
  rw [if_neg (by omega)]
  simp
 | succ m ih =>
  intro k x hk h0 h1 hm
  obtain ⟨k, rfl⟩ : ∃ j, k = j + 1 := ⟨k - 1, by omega⟩
  simp only [spec_l1Two.l0]
  rw [if_pos (by omega)]
  have e : x * 2 ^ (m + 1) = x * 2 * 2 ^ m := by rw [Int.pow_succ]; rw [Int.mul_comm (2 ^ m) 2, Int.mul_assoc]
  have p : (1 : Int) ≤ 2 ^ m := Int.pow_pos (by omega)
  have h2 : x * 2 ≤ x * 2 * 2 ^ m := by
   have := Int.mul_le_mul_of_nonneg_left p (show 0 ≤ x * 2 by omega)
   omega
  rw [w64 (by omega) (by omega), w64 (by omega) (by omega), show (((m + 1 : Nat) : Int) - 1) = (m : Int) by omega, ih k (x * 2) (by omega) (by omega) (by rw [← e]; exact h1) (by omega), e]
theorem size_spec {b : Int} {k : Nat} (h0 : 0 ≤ b) (h1 : b ≤ 32) (hk : 40 ≤ k) : spec_l1Size.f k b = some (sz b) := by
 unfold spec_l1Size.f spec_l1Two.f
 rw [w64 (by omega) (by omega)]
 have e : (32 - b) = (((32 - b).toNat : Nat) : Int) := by omega
 have hs := sz_le h0
 rw [e, two_ev _ k 1 (by omega) (by omega) (by unfold sz at hs; omega) (by omega)]
 simp [sz]
/-- A block is valid. -/
def bok (a b : Int) : Bool := decide (0 ≤ a ∧ a ≤ 4294967295 ∧ 0 ≤ b ∧ b ≤ 32 ∧ a % sz b = 0)
theorem bok_iff {a b : Int} : bok a b = true ↔ 0 ≤ a ∧ a ≤ 4294967295 ∧ 0 ≤ b ∧ b ≤ 32 ∧ a % sz b = 0 := by
 unfold bok
 rw [decide_eq_true_iff]
theorem tmod_of {a b : Int} (h : 0 ≤ a) : Int.tmod a (sz b) = a % sz b := Int.tmod_eq_emod_of_nonneg h
theorem ok_spec {k : Nat} (a b : Int) (hk : 40 ≤ k) : spec_BlockOk.f k a b = some (bok a b) := by
 unfold spec_BlockOk.f
 rw [addr_spec, Option.bind_some]
 by_cases h : 0 ≤ a ∧ a ≤ 4294967295
 ·rw [if_pos (by simpa using h), in_spec, Option.bind_some]
  by_cases h2 : 0 ≤ b ∧ b ≤ 32
  ·rw [if_pos (by simpa using h2), size_spec h2.1 h2.2 hk, Option.bind_some, if_neg (by have := sz_pos b; omega), tmod_of h.1]
   congr 1
   unfold bok
   rw [Bool.eq_iff_iff]
   simp [h, h2]
  ·rw [if_neg (by simpa using h2)]
   congr 1
   symm
   unfold bok
   rw [decide_eq_false_iff_not]
   omega
 ·rw [if_neg (by simpa using h)]
  congr 1
  symm
  unfold bok
  rw [decide_eq_false_iff_not]
  omega
theorem last_spec {k : Nat} {a b : Int} (h : bok a b = true) (hk : 40 ≤ k) : spec_l1Last.f k a b = some (a + sz b - 1) := by
 obtain ⟨h1, h2, h3, h4, _⟩ := bok_iff.1 h
 have := sz_le h3
 have := sz_pos b
 unfold spec_l1Last.f
 rw [size_spec h3 h4 hk, Option.bind_some, w64 (x := a + sz b) (by omega) (by omega), w64 (by omega) (by omega)]
end Go.Proofs.Ytbhgkpfbggkgdaa.Pure

namespace Go.Proofs.Ytbhgkpfbggkgdaa.Pure
set_option linter.unusedSimpArgs false
open Go.RowKit Go.Proofs.Ytbhgkpfbggkgdaa.Q Go.Proofs.YtbhgkpfbggkgdaaW.PrintWords Go.Proofs.YtbhgkpfbggkgdaaW.PrintLast Go.Proofs.YtbhgkpfbggkgdaaW.PrintMore
/-- A cell has a call. -/
def chas (x : S67) (a b c : Int) : Bool := decide (x.f0 ≤ a ∧ a ≤ x.f1) && (decide (x.f2 ≤ b ∧ b ≤ x.f3) && decide (x.f4 ≤ c ∧ c ≤ x.f5))
end Go.Proofs.Ytbhgkpfbggkgdaa.Pure

namespace Go.Proofs.Ytbhgkpfbggkgdaa.Pure
set_option linter.unusedSimpArgs false
open Go.RowKit Go.Proofs.Ytbhgkpfbggkgdaa.Q Go.Proofs.Ytbhgkpfbggkgdaa.Open Go.Proofs.YtbhgkpfbggkgdaaW.PrintWords Go.Proofs.YtbhgkpfbggkgdaaW.PrintLast Go.Proofs.YtbhgkpfbggkgdaaW.PrintMore
/-- Bytes, at most two thousand of them. -/
def rdOk (xs : List Int) : Prop := (∀ y ∈ xs, 0 ≤ y ∧ y ≤ 255) ∧ xs.length ≤ 2000
theorem fits_u8 {y : Int} (h : Fits .u8 y) : 0 ≤ y ∧ y ≤ 255 := by
 have g : (decide (IntKind.u8.min ≤ y) && decide (y ≤ IntKind.u8.max)) = true := h
 rw [Bool.and_eq_true, decide_eq_true_eq, decide_eq_true_eq] at g
 exact g
theorem xor_nn {a b : Int} (ha : 0 ≤ a) (ha' : a < 4611686018427387904) (hb : 0 ≤ b) (hb' : b < 4611686018427387904) : 0 ≤ Go.bits .xor .i64 a b := by
 obtain ⟨m, rfl⟩ := Int.eq_ofNat_of_zero_le ha
 obtain ⟨n, rfl⟩ := Int.eq_ofNat_of_zero_le hb
 have hm : m < 2 ^ 62 := by omega
 have hn : n < 2 ^ 62 := by omega
 have hx : m ^^^ n < 2 ^ 62 := Nat.xor_lt_two_pow hm hn
 simp only [Go.bits, BitVec.ofInt_natCast, BitVec.toNat_xor, BitVec.toNat_ofNat]
 rw [Nat.mod_eq_of_lt (show m < 2 ^ IntKind.i64.bits by show m < 2 ^ 64; omega), Nat.mod_eq_of_lt (show n < 2 ^ IntKind.i64.bits by show n < 2 ^ 64; omega), IntKind.wrap_i64]
 generalize m ^^^ n = z at hx
 omega
theorem rd_byte {xs : List Int} (hx : rdOk xs) (i : Int) : 0 ≤ rd xs i ∧ rd xs i ≤ 255 := by
 show 0 ≤ xs.getD i.toNat 0 ∧ xs.getD i.toNat 0 ≤ 255
 rw [List.getD_eq_getElem?_getD]
 by_cases h : i.toNat < xs.length
 ·rw [List.getElem?_eq_getElem h]
  exact hx.1 _ (List.getElem_mem h)
 ·rw [List.getElem?_eq_none (by omega)]
  decide
theorem tmod_in {a n : Int} (ha : 0 ≤ a) (hn : 1 ≤ n) : 0 ≤ Int.tmod a n ∧ Int.tmod a n < n := ⟨Int.tmod_nonneg _ ha, Int.tmod_lt_of_pos _ (by omega)⟩
theorem h6z {xs : List Int} (hx : rdOk xs) {s n : Int} (hs : 0 ≤ s) (hs' : s ≤ 1000000000) (hn : 1 ≤ n) {k : Nat} (hk : 1 ≤ k) : ∃ v, spec_l1Rd_pick.f k xs s n = some (v, s + 1) ∧ 0 ≤ v ∧ v < n := by
 obtain ⟨k, rfl⟩ : ∃ m, k = m + 1 := ⟨k - 1, by omega⟩
 have hl := hx.2
 unfold spec_l1Rd_pick.f
 rw [if_neg (by omega), w64 (x := s + 1) (by omega) (by omega)]
 simp only [spec_l1Rd_pick.j0]
 rw [w64 (x := s + 1 - 1) (by omega) (by omega), show s + 1 - 1 = s by omega]
 by_cases h0 : xs.length = 0
 ·rw [if_pos (by simp [h0])]
  exact ⟨0, rfl, by omega, by omega⟩
 ·rw [if_neg (by simp; intro h; exact h0 (by rw [h]; rfl))]
  by_cases h1 : s < (xs.length : Int)
  ·obtain ⟨g0, g1⟩ := rd_byte hx s
   rw [if_pos h1, if_pos hs, if_neg (by omega), w64 (by omega) (by omega)]
   obtain ⟨t0, t1⟩ := tmod_in g0 hn
   exact ⟨_, rfl, t0, t1⟩
  ·rw [if_neg h1, if_neg (by omega)]
   obtain ⟨i0, i1⟩ := tmod_in (n := (xs.length : Int)) hs (by omega)
   rw [if_pos i0, if_pos i1, w64 (x := s * 7) (by omega) (by omega), w64 (x := s * 7 + 3) (by omega) (by omega)]
   obtain ⟨j0, j1⟩ := tmod_in (a := s * 7 + 3) (n := (xs.length : Int)) (by omega) (by omega)
   rw [if_pos j0, if_pos j1, if_neg (by omega)]
   obtain ⟨g0, g1⟩ := rd_byte hx (Int.tmod s (xs.length : Int))
   obtain ⟨f0, f1⟩ := rd_byte hx (Int.tmod (s * 7 + 3) (xs.length : Int))
   have q0 : 0 ≤ Int.tdiv s (xs.length : Int) := Int.tdiv_nonneg hs (by omega)
   have q1 : Int.tdiv s (xs.length : Int) ≤ s := by
    rw [Int.tdiv_eq_ediv_of_nonneg hs]
    exact Int.ediv_le_self _ hs
   generalize rd xs (Int.tmod s (xs.length : Int)) = g at *
   generalize rd xs (Int.tmod (s * 7 + 3) (xs.length : Int)) = f at *
   generalize Int.tdiv s (xs.length : Int) = q at *
   rw [w64 (x := g) (by omega) (by omega), w64 (x := f) (by omega) (by omega), w64 (x := q) (by omega) (by omega), w64 (x := g * 131) (by omega) (by omega), w64 (x := f * 1117) (by omega) (by omega), w64 (x := s * 29) (by omega) (by omega), w64 (x := q * 53) (by omega) (by omega), w64 (x := g * 131 + f * 1117) (by omega) (by omega), w64 (x := g * 131 + f * 1117 + s * 29) (by omega) (by omega), w64 (x := g * 131 + f * 1117 + s * 29 + q * 53) (by omega) (by omega)]
   have hA : 0 ≤ g * 131 + f * 1117 + s * 29 + q * 53 := by omega
   have hA' : g * 131 + f * 1117 + s * 29 + q * 53 < 4611686018427387904 := by omega
   generalize g * 131 + f * 1117 + s * 29 + q * 53 = A at hA hA'
   rw [Int.tdiv_eq_ediv_of_nonneg hA, w64 (x := A / 64) (by omega) (by omega)]
   obtain ⟨t0, t1⟩ := tmod_in (xor_nn hA hA' (b := A / 64) (by omega) (by omega)) hn
   exact ⟨_, rfl, t0, t1⟩
theorem one_ev {xs : List Int} (hx : rdOk xs) {s : Int} (hs : 0 ≤ s) (hs' : s ≤ 1000000000) (l : List Int) (hl : 1 ≤ l.length) {k : Nat} (hk : 1 ≤ k) : ∃ v, spec_l1Rd_one.f k xs s l = some (v, s + 1) ∧ v ∈ l := by
 unfold spec_l1Rd_one.f
 obtain ⟨v, e, v0, v1⟩ := h6z hx hs hs' (n := (l.length : Int)) (by omega) hk
 rw [e, Option.bind_some]
 dsimp only
 rw [if_pos v0, if_pos v1]
 refine ⟨_, rfl, ?_⟩
 show l.getD v.toNat 0 ∈ l
 rw [List.getD_eq_getElem?_getD, List.getElem?_eq_getElem (by omega)]
 exact List.getElem_mem _
theorem drAddr_ev {xs : List Int} (hx : rdOk xs) {s : Int} (hs : 0 ≤ s) (hs' : s ≤ 999999990) {k : Nat} (hk : 1 ≤ k) : ∃ a, spec_l12Addr.f k xs s = some (a, s + 6) ∧ 0 ≤ a ∧ a ≤ 4294967295 := by
 unfold spec_l12Addr.f
 obtain ⟨v0, e0, l0, u0⟩ := h6z hx (s := s) (n := 256) (by omega) (by omega) (by omega) hk
 obtain ⟨v1, e1, l1, u1⟩ := h6z hx (s := s + 1) (n := 8) (by omega) (by omega) (by omega) hk
 obtain ⟨v2, e2, l2, u2⟩ := h6z hx (s := s + 1 + 1) (n := 16) (by omega) (by omega) (by omega) hk
 obtain ⟨v3, e3, l3, u3⟩ := h6z hx (s := s + 1 + 1 + 1) (n := 256) (by omega) (by omega) (by omega) hk
 obtain ⟨v4, e4, l4, u4⟩ := h6z hx (s := s + 1 + 1 + 1 + 1) (n := 64) (by omega) (by omega) (by omega) hk
 simp only [e0, e1, e2, e3, e4, Option.bind_some]
 rw [w64 (x := 167772160 + v0) (by omega) (by omega), w64 (x := 167772160 + v1) (by omega) (by omega), w64 (x := 167772416 + v2) (by omega) (by omega), w64 (x := 3232235520 + v3) (by omega) (by omega), w64 (x := v4 * 256) (by omega) (by omega), w64 (x := 2886729728 + v4 * 256) (by omega) (by omega)]
 obtain ⟨v, e, hv⟩ := one_ev hx (s := s + 1 + 1 + 1 + 1 + 1) (by omega) (by omega) [167772160 + v0, 167772160 + v1, 167772416 + v2, 3232235520 + v3, 0, 4294967295, 184549375, 2886729728 + v4 * 256] (by simp) hk
 rw [e, Option.bind_some]
 refine ⟨v, by show some (v, s + 1 + 1 + 1 + 1 + 1 + 1) = _; congr 2; omega, ?_⟩
 simp only [List.mem_cons, List.not_mem_nil, or_false] at hv
 omega
theorem over_ev {a b : Int} (h0 : 0 ≤ a) (h1 : a ≤ 4294967295) (h2 : 0 ≤ b) (h3 : b ≤ 32) {k : Nat} (hk : 40 ≤ k) : spec_l1Over.f k a b = some (a / sz b * sz b, b) ∧ bok (a / sz b * sz b) b = true := by
 have hp := sz_pos b
 have hd : sz b * (a / sz b) + a % sz b = a := Int.mul_ediv_add_emod a (sz b)
 have hr := Int.emod_nonneg a (show sz b ≠ 0 by omega)
 have hq : 0 ≤ a / sz b := Int.ediv_nonneg h0 (by omega)
 have hq' : a / sz b ≤ a := Int.ediv_le_self _ h0
 have hm : 0 ≤ a / sz b * sz b := Int.mul_nonneg hq (by omega)
 rw [Int.mul_comm] at hd
 constructor
 ·unfold spec_l1Over.f
  rw [size_spec h2 h3 hk, Option.bind_some, if_neg (by omega), Option.bind_some, Int.tdiv_eq_ediv_of_nonneg h0, w64 (x := a / sz b) (by omega) (by omega), w64 (by omega) (by omega)]
 ·rw [bok_iff]
  exact ⟨hm, by omega, h2, h3, Int.mul_emod_left _ _⟩
theorem drBlock_ev {xs : List Int} (hx : rdOk xs) {s : Int} (hs : 0 ≤ s) (hs' : s ≤ 999999980) {k : Nat} (hk : 40 ≤ k) : ∃ a b, spec_l12Block.f k xs s = some (a, b, s + 7) ∧ bok a b = true := by
 unfold spec_l12Block.f
 obtain ⟨a, ea, a0, a1⟩ := drAddr_ev hx hs (by omega) (show 1 ≤ k by omega)
 obtain ⟨b, eb, hb⟩ := one_ev hx (s := s + 6) (by omega) (by omega) [32, 31, 30, 28, 24, 24, 25, 16, 8, 1, 0, 29] (by simp) (show 1 ≤ k by omega)
 simp only [List.mem_cons, List.not_mem_nil, or_false] at hb
 obtain ⟨eo, ho⟩ := over_ev (b := b) a0 a1 (by omega) (by omega) hk
 rw [ea, Option.bind_some]
 dsimp only
 rw [eb, Option.bind_some]
 dsimp only
 rw [eo, Option.bind_some]
 exact ⟨_, _, by show some (_, _, s + 6 + 1) = _; congr 3; omega, ho⟩
theorem open_ev {xs : List Int} (hx : ∀ y ∈ xs, 0 ≤ y ∧ y ≤ 255) : ∃ ys, spec_l1Open.f xs = some (ys, 0) ∧ rdOk ys := by
 unfold spec_l1Open.f
 by_cases h : (xs.length : Int) > 2000
 ·rw [if_pos h, if_pos (by omega)]
  exact ⟨_, rfl, fun y hy => hx y (List.mem_of_mem_take hy), by rw [List.length_take]; omega⟩
 ·rw [if_neg h]
  exact ⟨_, rfl, hx, by omega⟩
end Go.Proofs.Ytbhgkpfbggkgdaa.Pure

namespace Go.Proofs.Ytbhgkpfbggkgdaa.Pure
set_option linter.unusedSimpArgs false
open Go.RowKit Go.Proofs.Ytbhgkpfbggkgdaa.Q Go.Proofs.YtbhgkpfbggkgdaaW.PrintWords Go.Proofs.YtbhgkpfbggkgdaaW.PrintLast Go.Proofs.YtbhgkpfbggkgdaaW.PrintMore
/-- A rule is valid. -/
def rok (r : S109) : Bool := bok r.f2.f0 r.f2.f1 && (bok r.f3.f0 r.f3.f1 && (decide (0 ≤ r.f4 ∧ r.f4 ≤ r.f5) && (decide (r.f5 ≤ 65535) && (decide (0 ≤ r.f0 ∧ r.f0 ≤ 2) && (decide (r.f1 = 0) || (decide (r.f0 = 2) && decide (0 ≤ r.f1 ∧ r.f1 ≤ 3)))))))
theorem l4Ok_ev (r : S109) {k : Nat} (hk : 41 ≤ k) : spec_l4Ok.f k r.f0 r.f1 r.f2.f0 r.f2.f1 r.f3.f0 r.f3.f1 r.f4 r.f5 = some (rok r) := by
 obtain ⟨k, rfl⟩ : ∃ m, k = m + 1 := ⟨k - 1, by omega⟩
 unfold spec_l4Ok.f rok
 simp only [spec_l4Ok.j0, ok_spec _ _ (show 40 ≤ k + 1 by omega), in_spec, Option.bind_some]
 cases bok r.f2.f0 r.f2.f1
 ·simp
 ·cases bok r.f3.f0 r.f3.f1
  ·simp
  ·by_cases h4 : 0 ≤ r.f4 ∧ r.f4 ≤ r.f5
   ·by_cases h5 : r.f5 ≤ 65535
    ·by_cases h0 : 0 ≤ r.f0 ∧ r.f0 ≤ 2
     ·by_cases h2 : r.f0 = 2
      ·have e : (0 ≤ r.f1 ∧ r.f1 ≤ 3) ↔ (r.f1 = 0 ∨ (0 ≤ r.f1 ∧ r.f1 ≤ 3)) := by omega
       simp [h4, h0, h2, show ¬ r.f5 > 65535 by omega, h5]
       omega
      ·simp [h4, h0, h2, show ¬ r.f5 > 65535 by omega, h5]
       first | rfl | (rw [Bool.eq_iff_iff]; simp)
     ·simp [h4, h0, show ¬ r.f5 > 65535 by omega, h5]
    ·simp [h4, show r.f5 > 65535 by omega, h5]
   ·simp [h4]
theorem rdR (l : List S109) (i : Nat) : c7z l (i : Int) = l.getD i z109 := rfl
/-- Rules are valid. -/
def rsok (l : List S109) : Bool := if (List.range l.length).all (fun i => rok (l.getD i z109)) then decide ((l.length : Int) ≤ 8) else false
theorem rulesOk_spec {l : List S109} {k : Nat} (hl : l.length ≤ 1048577) (hk : l.length + 50 < k) : spec_RulesOk.f k l = some (rsok l) := by
 unfold spec_RulesOk.f rsok
 refine scan_loop (fun k i => spec_RulesOk.l0 k l i) l.length 50 (fun i => rok (l.getD i z109)) false _ ?_ ?_ ?_ k hk
 ·intro k i hi hk _ hg
  simp only [spec_RulesOk.l0]
  rw [if_pos (by omega), if_pos (by omega), rdR, l4Ok_ev _ (by omega), Option.bind_some, if_pos hg, w64 (by omega) (by omega)]
  rfl
 ·intro k i hi hk _ hg
  simp only [spec_RulesOk.l0]
  rw [if_pos (by omega), if_pos (by omega), rdR, l4Ok_ev _ (by omega), Option.bind_some, if_neg (by rw [hg]; simp)]
 ·intro k _
  simp only [spec_RulesOk.l0]
  rw [if_neg (by omega)]
end Go.Proofs.Ytbhgkpfbggkgdaa.Pure

namespace Go.Proofs.Ytbhgkpfbggkgdaa.Pure
set_option linter.unusedSimpArgs false
set_option linter.unusedVariables false
open Go.RowKit Go.Proofs.Ytbhgkpfbggkgdaa.Q Go.Proofs.Ytbhgkpfbggkgdaa.Open Go.Proofs.YtbhgkpfbggkgdaaW.PrintWords Go.Proofs.YtbhgkpfbggkgdaaW.PrintLast Go.Proofs.YtbhgkpfbggkgdaaW.PrintMore
theorem drRule_ev {xs : List Int} (hx : rdOk xs) {s : Int} (hs : 0 ≤ s) (hs' : s ≤ 999999900) {k : Nat} (hk : 50 ≤ k) : ∃ a b c d e f g h t, spec_l12Rule.f k xs s = some (a, b, c, d, e, f, g, h, t) ∧ s ≤ t ∧ t ≤ s + 18 := by
 unfold spec_l12Rule.f
 obtain ⟨a, ea, ha⟩ := one_ev hx (s := s) (by omega) (by omega) [0, 1, 2, 2, 2] (by simp) (show 1 ≤ k by omega)
 obtain ⟨b0, b1, eb, _⟩ := drBlock_ev hx (s := s + 1) (by omega) (by omega) (show 40 ≤ k by omega)
 obtain ⟨c0, c1, ec, _⟩ := drBlock_ev hx (s := s + 1 + 7) (by omega) (by omega) (show 40 ≤ k by omega)
 obtain ⟨d, ed, hd⟩ := one_ev hx (s := s + 1 + 7 + 7) (by omega) (by omega) [0, 0, 80, 100] (by simp) (show 1 ≤ k by omega)
 obtain ⟨f, ef, hf⟩ := one_ev hx (s := s + 1 + 7 + 7 + 1) (by omega) (by omega) [65535, 80, 100, 443] (by simp) (show 1 ≤ k by omega)
 obtain ⟨v, ev, _⟩ := h6z hx (s := s + 1 + 7 + 7 + 1 + 1) (n := 2) (by omega) (by omega) (by omega) (show 1 ≤ k by omega)
 simp only [ea, eb, ec, ed, ef, ev, Option.bind_some]
 split <;> split <;> exact ⟨_, _, _, _, _, _, _, _, _, rfl, by omega, by omega⟩
theorem drRules_ev {xs : List Int} (hx : rdOk xs) {s : Int} (hs : 0 ≤ s) (hs' : s ≤ 999990000) {k : Nat} (hk : 70 ≤ k) : ∃ l t, spec_l12Rules.f k xs s = some (l, t) ∧ s ≤ t ∧ t ≤ s + 200 ∧ l.length ≤ 6 := by
 have key : ∀ (n : Nat) (l : List S109) (u : Int) (k : Nat), 0 ≤ u → u + 18 * (n : Int) ≤ 999999000 → l.length + n ≤ 100 → n ≤ 10 → 60 + n ≤ k → ∃ l' t, spec_l12Rules.l0 k l (n : Int) xs u = some (l', t) ∧ u ≤ t ∧ t ≤ u + 18 * (n : Int) + 2 ∧ l'.length ≤ l.length + n + 1 := by
  intro n
  induction n with
  | zero =>
   intro l u k hu hu' hl hn hk
   obtain ⟨k, rfl⟩ : ∃ m, k = m + 1 := ⟨k - 1, by omega⟩
   simp only [spec_l12Rules.l0]
   obtain ⟨v, ev, _⟩ := h6z hx (s := u) (n := 2) (by omega) (by omega) (by omega) (show 1 ≤ k by omega)
   obtain ⟨a, ea, ha⟩ := one_ev hx (s := u + 1) (by omega) (by omega) [1, 2, 2] (by simp) (show 1 ≤ k by omega)
   obtain ⟨eo, _⟩ := over_ev (a := 0) (b := 0) (by omega) (by omega) (by omega) (by omega) (show 40 ≤ k by omega)
   rw [if_neg (by omega)]
   simp only [ev, ea, eo, Option.bind_some]
   by_cases h : v = 0
   ·rw [if_pos h, if_pos (by omega)]
    exact ⟨_, _, rfl, by omega, by omega, by simp⟩
   ·rw [if_neg h]
    exact ⟨_, _, rfl, by omega, by omega, by omega⟩
  | succ n ih =>
   intro l u k hu hu' hl hn hk
   obtain ⟨k, rfl⟩ : ∃ m, k = m + 1 := ⟨k - 1, by omega⟩
   simp only [spec_l12Rules.l0]
   obtain ⟨a, b, c, d, e, f, g, h, t, et, t0, t1⟩ := drRule_ev hx (s := u) (by omega) (by omega) (show 50 ≤ k by omega)
   rw [if_pos (by omega), et, Option.bind_some]
   dsimp only
   rw [if_pos (by omega), w64 (by omega) (by omega), show ((n + 1 : Nat) : Int) - 1 = (n : Int) by omega]
   obtain ⟨l', t', e', g0, g1, g2⟩ := ih (l ++ [⟨a, b, ⟨c, d⟩, ⟨e, f⟩, g, h⟩]) t k (by omega) (by omega) (by rw [List.length_append, List.length_singleton]; omega) (by omega) (by omega)
   rw [List.length_append, List.length_singleton] at g2
   exact ⟨l', t', e', by omega, by omega, by omega⟩
 unfold spec_l12Rules.f
 obtain ⟨v, ev, v0, v1⟩ := h6z hx (s := s) (n := 5) (by omega) (by omega) (by omega) (show 1 ≤ k by omega)
 obtain ⟨n, rfl⟩ := Int.eq_ofNat_of_zero_le v0
 obtain ⟨l, t, e, t0, t1, h⟩ := key n [] (s + 1) k (by omega) (by omega) (by rw [List.length_nil]; omega) (by omega) (by omega)
 rw [ev, Option.bind_some]
 exact ⟨l, t, e, by omega, by omega, by rw [List.length_nil] at h; omega⟩
theorem l3Num_ev (n : Int) {k : Nat} (x : List Int) (hx : x.length ≤ 1000000) (hk : x.length < k) : ∃ y, spec_l3Num.f k x n = some y ∧ y.length ≤ x.length + 1 := by
 have fin : ∀ i : Nat, i ≤ x.length → ((some (([] : List Int) : List Int)).bind fun y126 => ((some (x.take (i : Int).toNat : List Int)).bind fun y129 => (if y126.length + y129.length < 17592186044416 then ((some (y126 ++ y129 : List Int)).bind fun y133 => ((some (([n] : List Int) : List Int)).bind fun y136 => (if y133.length + y136.length < 17592186044416 then ((some (y133 ++ y136 : List Int)).bind fun y139 => ((some (x.drop (i : Int).toNat : List Int)).bind fun y142 => (if y139.length + y142.length < 17592186044416 then (some (y139 ++ y142)) else (none)))) else (none)))) else (none)))) = some (x.take i ++ [n] ++ x.drop i) := by
  intro i hi
  simp only [Option.bind_some, Int.toNat_natCast, List.length_append, List.length_nil, List.length_take, List.length_singleton, List.length_drop, List.nil_append]
  rw [if_pos (by omega), if_pos (by omega), if_pos (by omega)]
 have len : ∀ i : Nat, i ≤ x.length → (x.take i ++ [n] ++ x.drop i).length ≤ x.length + 1 := by
  intro i hi
  rw [List.length_append, List.length_append, List.length_take, List.length_drop, List.length_singleton]
  omega
 have key : ∀ (e i k : Nat), x.length - i = e → i ≤ x.length → e < k → ∃ y, spec_l3Num.l0 k x n (i : Int) = some y ∧ y.length ≤ x.length + 1 := by
  intro e
  induction e with
  | zero =>
   intro i k he hi hk
   obtain ⟨k, rfl⟩ : ∃ m, k = m + 1 := ⟨k - 1, by omega⟩
   simp only [spec_l3Num.l0]
   rw [if_neg (by omega)]
   have f := fin i hi
   simp only [Option.bind_some] at f ⊢
   rw [if_pos (by omega), if_pos (by omega)]
   exact ⟨_, f, len i hi⟩
  | succ e ih =>
   intro i k he hi hk
   obtain ⟨k, rfl⟩ : ∃ m, k = m + 1 := ⟨k - 1, by omega⟩
   simp only [spec_l3Num.l0]
   rw [if_pos (by omega), if_pos (by omega), w64 (by omega) (by omega), show ((i : Int) + 1) = ((i + 1 : Nat) : Int) by omega]
   by_cases h1 : rd x (i : Int) < n
   ·rw [if_pos h1]
    exact ih (i + 1) k (by omega) (by omega) (by omega)
   ·rw [if_neg h1]
    by_cases h2 : rd x (i : Int) = n
    ·rw [if_pos h2]
     exact ⟨_, rfl, by omega⟩
    ·rw [if_neg h2]
     have f := fin i hi
     simp only [Option.bind_some] at f ⊢
     rw [if_pos (by omega)]
     exact ⟨_, f, len i hi⟩
 exact key x.length 0 k (by omega) (by omega) hk
theorem edges_ev (l : List S109) (hl : l.length ≤ 1000) (hr : ∀ i, i < l.length → rok (l.getD i z109) = true) (w : Int) (x : List Int) (hx : x.length ≤ 10000) {k : Nat} (hk : 20000 ≤ k) : ∃ y, spec_l4Edges.f k l w x = some y ∧ y.length ≤ x.length + 2 * l.length := by
 have key : ∀ (e i k : Nat) (x : List Int), l.length - i = e → i ≤ l.length → x.length ≤ 10000 + 2 * i → 15000 + 3 * e ≤ k → ∃ y, spec_l4Edges.l0 k l w x (i : Int) = some y ∧ y.length ≤ x.length + 2 * e := by
  intro e
  induction e with
  | zero =>
   intro i k x he hi hx hk
   obtain ⟨k, rfl⟩ : ∃ m, k = m + 1 := ⟨k - 1, by omega⟩
   simp only [spec_l4Edges.l0]
   rw [if_neg (by omega)]
   exact ⟨_, rfl, by omega⟩
  | succ e ih =>
   intro i k x he hi hx hk
   obtain ⟨k, rfl⟩ : ∃ m, k = m + 1 := ⟨k - 1, by omega⟩
   obtain ⟨k, rfl⟩ : ∃ m, k = m + 1 := ⟨k - 1, by omega⟩
   obtain ⟨k, rfl⟩ : ∃ m, k = m + 1 := ⟨k - 1, by omega⟩
   have hrr := hr i (by omega)
   rw [show l.getD i z109 = c7z l (i : Int) from (rdR l i).symm] at hrr
   unfold rok at hrr
   rw [Bool.and_eq_true, Bool.and_eq_true] at hrr
   have j2 : ∀ a b c : Int, ∃ y, spec_l4Edges.j2 (k + 1) l w x (i : Int) a b c = some y ∧ y.length ≤ x.length + 2 * (e + 1) := by
    intro a b c
    simp only [spec_l4Edges.j2]
    obtain ⟨y, ey, hy⟩ := l3Num_ev a x (by omega) (show x.length < k by omega)
    obtain ⟨y', ey', hy'⟩ := l3Num_ev (wrap64 (b + 1)) y (by omega) (show y.length < k by omega)
    rw [ey, Option.bind_some, w64 (x := (i : Int) + 1) (by omega) (by omega), show ((i : Int) + 1) = ((i + 1 : Nat) : Int) by omega, ey', Option.bind_some]
    split
    ·obtain ⟨z, ez, hz⟩ := ih (i + 1) k y' (by omega) (by omega) (by omega) (by omega)
     exact ⟨z, ez, by omega⟩
    ·obtain ⟨z, ez, hz⟩ := ih (i + 1) k y (by omega) (by omega) (by omega) (by omega)
     exact ⟨z, ez, by omega⟩
   have j1 : ∀ a b c : Int, ∃ y, spec_l4Edges.j1 (k + 1 + 1) l w x (i : Int) a b c = some y ∧ y.length ≤ x.length + 2 * (e + 1) := by
    intro a b c
    simp only [spec_l4Edges.j1]
    split
    ·rw [if_pos (by omega), if_pos (by omega), last_spec hrr.2.1 (by omega), Option.bind_some]
     exact j2 _ _ _
    ·exact j2 _ _ _
   simp only [spec_l4Edges.l0]
   rw [if_pos (by omega), if_pos (by omega)]
   split
   ·rw [last_spec hrr.1 (by omega), Option.bind_some]
    exact j1 _ _ _
   ·exact j1 _ _ _
 unfold spec_l4Edges.f
 exact key l.length 0 k x (by omega) (by omega) (by omega) (by omega)
theorem edges_none (w : Int) (x : List Int) {k : Nat} (hk : 1 ≤ k) : spec_l4Edges.f k [] w x = some x := by
 obtain ⟨k, rfl⟩ : ∃ m, k = m + 1 := ⟨k - 1, by omega⟩
 unfold spec_l4Edges.f
 simp only [spec_l4Edges.l0]
 rw [if_neg (by simp)]
theorem about_ev (r : S109) (h : rok r = true) (a b c : Int) {k : Nat} (hk : 40 ≤ k) : ∃ v, spec_l4About.f k r.f0 r.f1 r.f2.f0 r.f2.f1 r.f3.f0 r.f3.f1 r.f4 r.f5 a b c = some v := by
 unfold rok at h
 rw [Bool.and_eq_true, Bool.and_eq_true] at h
 unfold spec_l4About.f
 simp only [last_spec h.1 hk, last_spec h.2.1 hk, in_spec, Option.bind_some]
 split
 ·split <;> exact ⟨_, rfl⟩
 ·exact ⟨_, rfl⟩
theorem first_ev (l : List S109) (hl : l.length ≤ 1000) (hr : ∀ i, i < l.length → rok (l.getD i z109) = true) (a b c : Int) {k : Nat} (hk : l.length + 50 ≤ k) : ∃ v, spec_l4First.f k l a b c = some v := by
 have key : ∀ (e i k : Nat), l.length - i = e → i ≤ l.length → e + 50 ≤ k → ∃ v, spec_l4First.l0 k l (i : Int) a b c = some v := by
  intro e
  induction e with
  | zero =>
   intro i k he hi hk
   obtain ⟨k, rfl⟩ : ∃ m, k = m + 1 := ⟨k - 1, by omega⟩
   simp only [spec_l4First.l0]
   rw [if_neg (by omega)]
   exact ⟨_, rfl⟩
  | succ e ih =>
   intro i k he hi hk
   obtain ⟨k, rfl⟩ : ∃ m, k = m + 1 := ⟨k - 1, by omega⟩
   simp only [spec_l4First.l0]
   have hrr := hr i (by omega)
   rw [show l.getD i z109 = c7z l (i : Int) from (rdR l i).symm] at hrr
   obtain ⟨v, ev⟩ := about_ev _ hrr a b c (show 40 ≤ k by omega)
   rw [if_pos (by omega), if_pos (by omega), ev, Option.bind_some, w64 (x := (i : Int) + 1) (by omega) (by omega), show ((i : Int) + 1) = ((i + 1 : Nat) : Int) by omega]
   split
   ·exact ⟨_, rfl⟩
   ·exact ih (i + 1) k (by omega) (by omega) (by omega)
 exact key l.length 0 k (by omega) (by omega) (by omega)
theorem to_ev (x : List Int) (i m : Int) : ∃ v, spec_l5To.f x i m = some v ∨ ¬ 0 ≤ wrap64 (i + 1) := by
 by_cases h : 0 ≤ wrap64 (i + 1)
 ·unfold spec_l5To.f
  by_cases g : wrap64 (i + 1) < (x.length : Int)
  ·rw [if_pos g, if_pos h]; exact ⟨_, .inl rfl⟩
  ·rw [if_neg g]; exact ⟨_, .inl rfl⟩
 ·exact ⟨0, .inr h⟩
theorem to_ev' (x : List Int) (i : Nat) (m : Int) (hi : i ≤ 1000000) : ∃ v, spec_l5To.f x (i : Int) m = some v := by
 obtain ⟨v, h | h⟩ := to_ev x i m
 ·exact ⟨v, h⟩
 ·rw [w64 (by omega) (by omega)] at h
  omega
theorem join_ev (l : List S67) (hl : l.length ≤ 1000000) (a b c d e f g : Int) : ∃ y, spec_l5Join.f l a b c d e f g = some y ∧ y.length ≤ l.length + 1 := by
 unfold spec_l5Join.f
 rw [w64 (x := (l.length : Int) - 1) (by omega) (by omega), if_pos (show l.length < 2513169434916 by omega)]
 by_cases h : (l.length : Int) - 1 ≥ 0
 ·rw [if_pos h, if_pos (by omega), if_pos (by omega)]
  repeat' split
  all_goals exact ⟨_, rfl, by simp⟩
 ·rw [if_neg h]
  exact ⟨_, rfl, by simp⟩
theorem cells_loop (l : List S109) (hl : l.length ≤ 1000) (hr : ∀ i, i < l.length → rok (l.getD i z109) = true) (A B C : List Int) (hA : A.length ≤ 50) (hB : B.length ≤ 50) (hC : C.length ≤ 50) (k : Nat) (hk : 150000 ≤ k) :
  ∃ y, spec_l5Cells.l0 k l [] 0 A B C = some y := by
 -- the innermost loop: back to the one around it
 have i2 : ∀ (a b : Nat), a < A.length → b < B.length → ∀ (e c k : Nat) (out : List S67), C.length - c = e → c ≤ C.length → out.length + e ≤ 900000 → 2000 ≤ k → ∃ out', out'.length ≤ out.length + e ∧ spec_l5Cells.l2 (k + e + 1) l out (a : Int) (b : Int) (c : Int) A B C = spec_l5Cells.l1 k l out' (a : Int) ((b + 1 : Nat) : Int) A B C := by
  intro a b ha hb e
  induction e with
  | zero =>
   intro c k out he hc ho hk
   simp only [spec_l5Cells.l2, Nat.add_zero]
   rw [if_neg (by omega), w64 (x := (b : Int) + 1) (by omega) (by omega), show ((b : Int) + 1) = ((b + 1 : Nat) : Int) by omega]
   exact ⟨out, by omega, rfl⟩
  | succ e ih =>
   intro c k out he hc ho hk
   obtain ⟨K, hK⟩ : ∃ K, K = k + e + 1 := ⟨_, rfl⟩
   rw [show k + (e + 1) + 1 = K + 1 by omega]
   simp only [spec_l5Cells.l2]
   obtain ⟨v, ev⟩ := first_ev l hl hr (rd A (a : Int)) (rd B (b : Int)) (rd C (c : Int)) (show l.length + 50 ≤ K by omega)
   obtain ⟨x, ex⟩ := to_ev' A a 4294967295 (by omega)
   obtain ⟨y, ey⟩ := to_ev' B b 4294967295 (by omega)
   obtain ⟨z, ez⟩ := to_ev' C c 65535 (by omega)
   obtain ⟨q, eq, hq⟩ := join_ev out (by omega) (rd A (a : Int)) x (rd B (b : Int)) y (rd C (c : Int)) z v
   rw [if_pos (by omega), if_pos (by omega), if_pos (by omega), if_pos (by omega), if_pos (by omega), if_pos (by omega), ev, Option.bind_some, w64 (x := (c : Int) + 1) (by omega) (by omega), show ((c : Int) + 1) = ((c + 1 : Nat) : Int) by omega]
   by_cases h : v ≥ 0
   ·rw [if_pos h, ex, Option.bind_some, ey, Option.bind_some, ez, Option.bind_some, eq, Option.bind_some]
    obtain ⟨o, ho', e'⟩ := ih (c + 1) k q (by omega) (by omega) (by omega) hk
    rw [← hK] at e'
    exact ⟨o, by omega, e'⟩
   ·rw [if_neg h]
    obtain ⟨o, ho', e'⟩ := ih (c + 1) k out (by omega) (by omega) (by omega) hk
    rw [← hK] at e'
    exact ⟨o, by omega, e'⟩
 have i1 : ∀ a : Nat, a < A.length → ∀ (e b k : Nat) (out : List S67), B.length - b = e → b ≤ B.length → out.length + e * 50 ≤ 900000 → 2000 ≤ k → ∃ out', out'.length ≤ out.length + e * 50 ∧ spec_l5Cells.l1 (k + e * (C.length + 2) + 1) l out (a : Int) (b : Int) A B C = spec_l5Cells.l0 k l out' ((a + 1 : Nat) : Int) A B C := by
  intro a ha e
  induction e with
  | zero =>
   intro b k out he hb ho hk
   simp only [spec_l5Cells.l1, Nat.zero_mul, Nat.add_zero]
   rw [if_neg (by omega), w64 (x := (a : Int) + 1) (by omega) (by omega), show ((a : Int) + 1) = ((a + 1 : Nat) : Int) by omega]
   exact ⟨out, by omega, rfl⟩
  | succ e ih =>
   intro b k out he hb ho hk
   obtain ⟨o, ho', e'⟩ := i2 a b ha (by omega) C.length 0 (k + e * (C.length + 2) + 1) out (by omega) (by omega) (by omega) (by omega)
   rw [show k + (e + 1) * (C.length + 2) + 1 = (k + e * (C.length + 2) + 1 + C.length + 1) + 1 by rw [Nat.add_mul]; omega]
   simp only [spec_l5Cells.l1]
   rw [if_pos (by omega)]
   rw [show ((0 : Nat) : Int) = 0 from rfl] at e'
   rw [e']
   obtain ⟨o2, ho2, e2⟩ := ih (b + 1) k o (by omega) (by omega) (by omega) hk
   exact ⟨o2, by omega, e2⟩
 have i0 : ∀ (e a k : Nat) (out : List S67), A.length - a = e → a ≤ A.length → out.length + e * 2500 ≤ 900000 → 2000 ≤ k → ∃ y, spec_l5Cells.l0 (k + e * (B.length * (C.length + 2) + 2) + 1) l out (a : Int) A B C = some y := by
  intro e
  induction e with
  | zero =>
   intro a k out he ha ho hk
   simp only [spec_l5Cells.l0, Nat.zero_mul, Nat.add_zero]
   rw [if_neg (by omega)]
   exact ⟨_, rfl⟩
  | succ e ih =>
   intro a k out he ha ho hk
   obtain ⟨o, ho', e'⟩ := i1 a (by omega) B.length 0 (k + e * (B.length * (C.length + 2) + 2) + 1) out (by omega) (by omega) (by omega) (by omega)
   rw [show k + (e + 1) * (B.length * (C.length + 2) + 2) + 1 = (k + e * (B.length * (C.length + 2) + 2) + 1 + B.length * (C.length + 2) + 1) + 1 by rw [Nat.add_mul]; omega]
   simp only [spec_l5Cells.l0]
   rw [if_pos (by omega)]
   rw [show ((0 : Nat) : Int) = 0 from rfl] at e'
   rw [e']
   exact ih (a + 1) k o (by omega) (by omega) (by omega) hk
 have h1 : B.length * (C.length + 2) ≤ 50 * 52 := Nat.mul_le_mul hB (by omega)
 have h2 : A.length * (B.length * (C.length + 2) + 2) ≤ 50 * 2602 := Nat.mul_le_mul hA (by omega)
 obtain ⟨k, rfl⟩ : ∃ m, k = m + A.length * (B.length * (C.length + 2) + 2) + 1 := ⟨k - A.length * (B.length * (C.length + 2) + 2) - 1, by omega⟩
 exact i0 A.length 0 k [] (by omega) (by omega) (by rw [List.length_nil]; omega) (by omega)
theorem cells_ev (l : List S109) (hl : l.length ≤ 1000) {k : Nat} (hk : 150000 ≤ k) : ∃ c b, spec_Cells.f k l = some (c, b) ∧ c.length ≤ 400 := by
 unfold spec_Cells.f
 rw [rulesOk_spec (by omega) (by omega), Option.bind_some]
 by_cases h : rsok l = true
 ·rw [if_pos h]
  unfold rsok at h
  by_cases g : ((List.range l.length).all fun i => rok (l.getD i z109)) = true
  ·rw [if_pos g, decide_eq_true_eq] at h
   rw [List.all_eq_true] at g
   have hr : ∀ i, i < l.length → rok (l.getD i z109) = true := fun i hi => g i (List.mem_range.2 hi)
   obtain ⟨A, eA, hA⟩ := edges_ev l hl hr 0 [0] (by simp) (show 20000 ≤ k by omega)
   obtain ⟨B, eB, hB⟩ := edges_ev l hl hr 1 [0] (by simp) (show 20000 ≤ k by omega)
   obtain ⟨C, eC, hC⟩ := edges_ev l hl hr 2 [0] (by simp) (show 20000 ≤ k by omega)
   rw [List.length_singleton] at hA hB hC
   obtain ⟨y, ey⟩ := cells_loop l hl hr A B C (by omega) (by omega) (by omega) k hk
   have e : spec_l5Cells.f k l = some y := by
    unfold spec_l5Cells.f spec_l4Of.f
    simp only [eA, eB, eC, edges_none _ _ (show 1 ≤ k by omega), Option.bind_some]
    exact ey
   rw [e, Option.bind_some]
   by_cases hy : (y.length : Int) > 400
   ·rw [if_pos hy]
    exact ⟨_, _, rfl, by simp⟩
   ·rw [if_neg hy]
    exact ⟨_, _, rfl, by omega⟩
  ·rw [if_neg g] at h
   cases h
 ·rw [if_neg h]
  exact ⟨_, _, rfl, by simp⟩
end Go.Proofs.Ytbhgkpfbggkgdaa.Pure

namespace Go.Proofs.Ytbhgkpfbggkgdaa.Pure
set_option linter.unusedSimpArgs false
open Go.RowKit Go.Proofs.Ytbhgkpfbggkgdaa.Q Go.Proofs.Ytbhgkpfbggkgdaa.Open Go.Proofs.YtbhgkpfbggkgdaaW.PrintWords Go.Proofs.YtbhgkpfbggkgdaaW.PrintLast Go.Proofs.YtbhgkpfbggkgdaaW.PrintMore
theorem mx_le_mn (a b c d : Int) : mx a c ≤ mn b d ↔ a ≤ b ∧ c ≤ d ∧ a ≤ d ∧ c ≤ b := by
 unfold mx mn
 split <;> split <;> omega
theorem over_spec (a b c d : Int) : spec_l5Over.f a b c d = some (decide (mx a c ≤ mn b d)) := by
 unfold spec_l5Over.f
 rw [show decide (mx a c ≤ mn b d) = decide (a ≤ b ∧ c ≤ d ∧ a ≤ d ∧ c ≤ b) from by rw [decide_eq_decide]; exact mx_le_mn a b c d]
 repeat' split
 all_goals simp [*]
/-- Two cells have a call in common. -/
def cmeet (x y : S67) : Bool := decide (mx x.f0 y.f0 ≤ mn x.f1 y.f1) && (decide (mx x.f2 y.f2 ≤ mn x.f3 y.f3) && decide (mx x.f4 y.f4 ≤ mn x.f5 y.f5))
theorem meet_impl (x y : S67) : impl_CellsMeet.f x.f0 x.f1 x.f2 x.f3 x.f4 x.f5 x.f6 y.f0 y.f1 y.f2 y.f3 y.f4 y.f5 y.f6 = some (cmeet x y) := by
 unfold impl_CellsMeet.f cmeet
 repeat' split
 all_goals simp [*]
theorem meet_spec (x y : S67) : spec_CellsMeet.f x.f0 x.f1 x.f2 x.f3 x.f4 x.f5 x.f6 y.f0 y.f1 y.f2 y.f3 y.f4 y.f5 y.f6 = some (cmeet x y) := by
 unfold spec_CellsMeet.f cmeet
 simp only [over_spec, Option.bind_some, decide_eq_true_eq]
 repeat' split
 all_goals simp [*]
theorem meet_comm (x y : S67) : cmeet x y = cmeet y x := by
 unfold cmeet
 rw [Bool.eq_iff_iff]
 simp only [Bool.and_eq_true, decide_eq_true_eq, mx_le_mn]
 constructor <;> (intro h; omega)
theorem more_ev (a b : Int) : laws_ovMore.f a b = some (mx a b) := by
 unfold laws_ovMore.f mx
 split <;> split <;> first | rfl | (congr 1; omega)
theorem find_one (x : S67) (a b c : Int) {k : Nat} (hk : 3 ≤ k) : impl_CellsFind.f k [x] a b c = some (if chas x a b c = true then x.f6 else -1) := by
 obtain ⟨k, rfl⟩ : ∃ m, k = m + 2 := ⟨k - 2, by omega⟩
 unfold impl_CellsFind.f
 have e0 : b6z [x] 0 = x := rfl
 have e1 : wrap64 (0 + 1) = 1 := w64 (by omega) (by omega)
 simp only [impl_CellsFind.l0, List.length_singleton, e0, in_impl, Option.bind_some, e1]
 rw [if_pos (by omega), if_pos (by omega), if_pos (by omega), if_neg (show ¬ (1 : Int) < ((1 : Nat) : Int) by omega)]
 unfold chas
 generalize decide (x.f0 ≤ a ∧ a ≤ x.f1) = p
 generalize decide (x.f2 ≤ b ∧ b ≤ x.f3) = q
 generalize decide (x.f4 ≤ c ∧ c ≤ x.f5) = r
 cases p <;> cases q <;> cases r <;> rfl
theorem meet_has (x y : S67) : cmeet x y = (chas x (mx x.f0 y.f0) (mx x.f2 y.f2) (mx x.f4 y.f4) && chas y (mx x.f0 y.f0) (mx x.f2 y.f2) (mx x.f4 y.f4)) := by
 have one : ∀ a b c d : Int, mx a c ≤ mn b d ↔ (a ≤ mx a c ∧ mx a c ≤ b) ∧ (c ≤ mx a c ∧ mx a c ≤ d) := by
  intro a b c d
  unfold mx mn
  split <;> split <;> omega
 unfold cmeet chas
 rw [Bool.eq_iff_iff]
 simp only [Bool.and_eq_true, decide_eq_true_eq, one]
 constructor
 ·rintro ⟨⟨a, b⟩, ⟨c, d⟩, e, f⟩; exact ⟨⟨a, c, e⟩, b, d, f⟩
 ·rintro ⟨⟨a, c, e⟩, b, d, f⟩; exact ⟨⟨a, b⟩, ⟨c, d⟩, e, f⟩
theorem FnCellsMeet_tail (x y : S67) {k : Nat} (hk : 10 ≤ k) : laws_FnCellsMeet.j0 k (cmeet x y) false x.f0 x.f1 x.f2 x.f3 x.f4 x.f5 x.f6 y.f0 y.f1 y.f2 y.f3 y.f4 y.f5 y.f6 = some true := by
 obtain ⟨k, rfl⟩ : ∃ m, k = m + 1 := ⟨k - 1, by omega⟩
 simp only [laws_FnCellsMeet.j0]
 rw [if_neg (by simp), more_ev, Option.bind_some, more_ev, Option.bind_some, more_ev, Option.bind_some, find_one _ _ _ _ (by omega), Option.bind_some, find_one _ _ _ _ (by omega), Option.bind_some]
 have e := meet_has x y
 have cx : ∀ a b c, chas (⟨x.f0, x.f1, x.f2, x.f3, x.f4, x.f5, 1⟩ : S67) a b c = chas x a b c := fun _ _ _ => rfl
 have cy : ∀ a b c, chas (⟨y.f0, y.f1, y.f2, y.f3, y.f4, y.f5, 1⟩ : S67) a b c = chas y a b c := fun _ _ _ => rfl
 rw [cx, cy]
 dsimp only
 rw [e]
 generalize chas x (mx x.f0 y.f0) (mx x.f2 y.f2) (mx x.f4 y.f4) = p
 generalize chas y (mx x.f0 y.f0) (mx x.f2 y.f2) (mx x.f4 y.f4) = q
 cases p <;> cases q <;> rfl
theorem FnCellsMeet : laws_FnCellsMeet.Pure := by
 intro xs ⟨_, hf⟩
 refine ⟨200000, ?_⟩
 unfold laws_FnCellsMeet.f
 by_cases hl : (xs.length : Int) > 1048576
 ·rw [if_pos hl]
 rw [if_neg hl]
 obtain ⟨ys, eo, ho⟩ := open_ev (fun y hy => fits_u8 (hf y hy))
 obtain ⟨l, t, el, t0, t1, hl'⟩ := drRules_ev ho (s := 0) (k := 200000) (by omega) (by omega) (by omega)
 obtain ⟨c, b, ec, hc⟩ := cells_ev l (by omega) (k := 200000) (by omega)
 obtain ⟨m, u, em, u0, u1, hm'⟩ := drRules_ev ho (s := t) (k := 200000) (by omega) (by omega) (by omega)
 obtain ⟨d, b', ed, hd⟩ := cells_ev m (by omega) (k := 200000) (by omega)
 have e : ∃ x y : S67, spec_DrawCellsMeet.f 200000 xs = some (x.f0, x.f1, x.f2, x.f3, x.f4, x.f5, x.f6, y.f0, y.f1, y.f2, y.f3, y.f4, y.f5, y.f6) := by
  unfold spec_DrawCellsMeet.f
  simp only [eo, el, ec, em, ed, Option.bind_some]
  have j : ∀ z : Bool, (z = false → 1 ≤ c.length ∧ 1 ≤ d.length) → ∃ x y : S67, spec_DrawCellsMeet.j0 200000 c d z ys u = some (x.f0, x.f1, x.f2, x.f3, x.f4, x.f5, x.f6, y.f0, y.f1, y.f2, y.f3, y.f4, y.f5, y.f6) := by
   intro z hz
   rw [show 200000 = 199999 + 1 from rfl]
   simp only [spec_DrawCellsMeet.j0]
   cases z with
   | true =>
    obtain ⟨v, ev, _⟩ := h6z ho (s := u) (n := 5) (by omega) (by omega) (by omega) (show 1 ≤ 199999 by omega)
    rw [if_pos rfl, ev, Option.bind_some]
    exact ⟨⟨0, 0, 0, 0, 0, 0, 0⟩, ⟨0, 5, 0, 5, 0, v, 0⟩, rfl⟩
   | false =>
    obtain ⟨h1, h2⟩ := hz rfl
    obtain ⟨v, ev, v0, v1⟩ := h6z ho (s := u) (n := (c.length : Int)) (by omega) (by omega) (by omega) (show 1 ≤ 199999 by omega)
    obtain ⟨w, ew, w0, w1⟩ := h6z ho (s := u + 1) (n := (d.length : Int)) (by omega) (by omega) (by omega) (show 1 ≤ 199999 by omega)
    rw [if_neg (by simp), ev, Option.bind_some]
    dsimp only
    rw [if_pos v0, if_pos v1, ew, Option.bind_some]
    dsimp only
    rw [if_pos w0, if_pos w1]
    exact ⟨b6z c v, b6z d w, rfl⟩
  by_cases h : (c.length : Int) = 0
  ·rw [if_pos h]
   exact j true (fun h => by cases h)
  ·rw [if_neg h]
   refine j _ (fun h' => ?_)
   have : ¬ (d.length : Int) = 0 := by simpa using h'
   omega
 obtain ⟨x, y, e⟩ := e
 rw [e, Option.bind_some]
 dsimp only
 rw [meet_impl, Option.bind_some, meet_spec, Option.bind_some, if_neg (by simp), meet_impl, Option.bind_some, meet_comm y x, show (cmeet x y != cmeet x y) = false by simp]
 exact FnCellsMeet_tail x y (by omega)
end Go.Proofs.Ytbhgkpfbggkgdaa.Pure

namespace Go.Proofs.Ytbhgkpfbggkgdaa.fnCellsMeet
open Go.ChangeShapes Go.WideShapes Go.ChangeAt Go.RowKit Go.Proofs.YtbhgkpfbggkgdaaW.PrintWords Go.Proofs.Ytbhgkpfbggkgdaa.Open Go.Proofs.Ytbhgkpfbggkgdaa.Q
open Go.ChangeMaps (open_string shut_string)
set_option linter.unusedVariables false
theorem own : ownKnob Try.prog.godebug = none := by kernel_rfl
theorem laidOut : laidOutB Try.prog = true := by kernel_rfl
set_option maxRecDepth 100000 in
theorem lifted (os : Os) (started : os.Started) (H : Type) (enc : TypeId × Value → H) :
  ReturnsInHanded {} Try.checked os 9 .any (Rows.fnCellsMeetSpec.pre6 enc Try.prog Try.f9 Rows.fnCellsMeetRow.domain false) (Rows.fnCellsMeetSpec.post enc Try.prog Try.f9 false true false false) := by
 refine returnsInHanded_of_change_sized (C := Try.checked) own started (by kernel_rfl) Try.func9
  (ChangeSpec.witness6 (enc := enc) (C := Try.checked) false ⟨#[], #[.slice none 0 0], []⟩ 8 (by kernel_rfl) (by kernel_rfl) (by kernel_rfl) (by kernel_rfl)) ?_
 intro W base args ds gs before hval0 hW hcnd hsz0 _
 have hval : ∀ (j : Nat) t v, Try.f9.params[j]? = some t → args[j]? = some v → Value.okWide Try.prog W .any base t v := hval0
 have hW' := hW
 obtain ⟨p, q, hA0, hV, rfl, hfz, hnd⟩ := hW
 have hA : DataW.TrodAll enc Try.prog W 0 (fun _ => true) true Try.f9.params.toList args.toList ds p := hA0
 rw [Try.params9] at hA hval
 obtain ⟨v0, vs0, d0, ds0, p0, q0, hargs, rfl, rfl, h0, r0⟩ := trodAll_cons hA
 obtain ⟨rfl, rfl, rfl⟩ := trodAll_nil r0
 obtain rfl : args = #[v0] := by cases args; simp_all
 obtain ⟨rfl, rfl⟩ := trodVars_none hV
 have lt0 : ∀ x ∈ p0, x.block < W.heap.size := by obtain ⟨m, hm⟩ := h0; exact DataW.trod_lt m _ _ _ hm
 have k0 := h0
 obtain ⟨x0, K0, w0⟩ := open_arg (op40 W) h0
 obtain ⟨aa0, len0, cap0, rfl⟩ := okWide_slice Try.underlying40 (hval 0 40 v0 rfl rfl)
 obtain ⟨A0, c0, e0, hc0, hr0⟩ := K0
 obtain ⟨rfl, rfl, rfl⟩ := slice_of_cells e0
 obtain ⟨k, hp⟩ := Pure.FnCellsMeet x0 w0
 refine (laws_FnCellsMeet.calls k _ _ x0 true W hr0 hc0 hp).mono ?_
 rintro e W' ⟨rfl, bel0⟩
 have bel : Below W.heap.size W W' := bel0
 exact ⟨_, rfl, _, _, _, [], _, [], hW', trodAll_mk1 (shut_bool Try.underlying4 _), (trodAll_cons_mk (Below.trod laidOut (by kernel_rfl) (of_decide_eq_true (by kernel_rfl)) k0 bel lt0) trodAll_mk0), rfl, bel.frame _, fun h => by cases h⟩
theorem over : Rows.fnCellsMeetRow.holds Try.pinned (OpenSpec.ofChange Rows.fnCellsMeetSpec) :=
 OpenClaim.holds_of_wide 9 Try.f9 rfl rfl rfl rfl rfl rfl rfl ⟨rfl, rfl, rfl, rfl, rfl⟩ rfl rfl rfl rfl rfl (by kernel_rfl) Try.func9 (by kernel_rfl)
  (of_decide_eq_true (by kernel_rfl)) (by unfold Func.isWrapper; first | (rw [if_pos (by decide +kernel)]; kernel_rfl) | (rw [if_neg (by decide +kernel)]; exact ⟨rfl, rfl⟩))
  (fun os started H enc _ => lifted os started H enc)
theorem proved : Rows.FnCellsMeetSaid := over
#print axioms proved
end Go.Proofs.Ytbhgkpfbggkgdaa.fnCellsMeet
namespace Go.Proofs.Ytbhgkpfbggkgdaa
/-- The row, under a short name, for the claim. -/
theorem fnCellsMeet_holds : Rows.FnCellsMeetSaid := fnCellsMeet.proved
end Go.Proofs.Ytbhgkpfbggkgdaa
