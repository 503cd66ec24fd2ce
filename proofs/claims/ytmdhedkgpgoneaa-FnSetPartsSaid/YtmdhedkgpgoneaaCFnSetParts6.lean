/- The law FnSetParts (part 6 of 7): for every input the call answers true and its arguments read afterwards as before. No condition beyond the row's own. -/
import Derived.Deep.Slices
import Derived.Deep.Fields
import Derived.ChangeSame
import Derived.ProofKit
import Derived.WideShapes
import Derived.RowKit
import Derived.Test.YtmdhedkgpgoneaaCFnSetParts5
namespace Go.Proofs.Ytmdhedkgpgoneaa.Q
open Go.RowKit Go.Proofs.YtmdhedkgpgoneaaW.PrintWords Go.Proofs.YtmdhedkgpgoneaaW.PrintLast Go.Proofs.YtmdhedkgpgoneaaW.PrintMore
attribute [local go_sem] e0z d8z e7z e6z d2z d1z d9z d7z
set_option linter.unusedVariables false
set_option linter.unusedSimpArgs false
def spec_l12Set.f (k : Nat) (s0_0 : List Int) (s0_1 : Int) : Option ((List (S44)) × Int) := (spec_l12Blocks.f k s0_0 s0_1).bind fun bt101 => ((spec_SetOf.f k bt101.1).bind fun bt105 => (if bt105.2 = true then (some (bt105.1, bt101.2)) else (some ((([] : List (S44))), bt101.2))))
set_option maxHeartbeats 8000000 in
set_option maxRecDepth 100000 in
theorem spec_l12Set.calls (k : Nat) (g : Nat) (s0_0 : List Int) (s0_1 : Int) (r1 : List (S44)) (r2 : Int) (w0 w : World) (hI : IsS76 w0 w g s0_0 s0_1) (hB : Below w0.heap.size w0 w) (h : spec_l12Set.f k s0_0 s0_1 = some (r1, r2)) :
  Calls Try.prog 66 #[.pointer (some ⟨g, 0, none⟩)] w fun e w' => ∃ v0_ : Value, e = .returned (v0_) ∧ Kd.R k44 44 w' w.heap.size (fun _ => True) v0_ r1 ∧ IsS76 w0 w' g s0_0 r2 ∧ Below w0.heap.size w0 w' ∧ b6z w w' g none := by
 have HI0 := a1z.mk hI
 have HK := a1z.mk (b6z.refl w g none)
 have HL := a1z.mk hB.size
 clear hI
 have HW0 := a1z.mk hB.size
 have HB := a1z.mk hB
 clear hB
 have H : ((spec_l12Blocks.f k s0_0 s0_1).bind fun bt101 => ((spec_SetOf.f k bt101.1).bind fun bt105 => (if bt105.2 = true then (some (bt105.1, bt101.2)) else (some ((([] : List (S44))), bt101.2))))) = some (r1, r2) := h
 clear h
 replace H := Option.bind_eq_some_iff.mp H
 obtain ⟨⟨t101, t104⟩, A20, H⟩ := H
 replace H : ((spec_SetOf.f k t101).bind fun bt105 => (if bt105.2 = true then (some (bt105.1, t104)) else (some ((([] : List (S44))), t104)))) = some (r1, r2) := H
 have A2 := a1z.mk A20
 clear A20
 replace H := Option.bind_eq_some_iff.mp H
 obtain ⟨⟨t105, t106⟩, A30, H⟩ := H
 replace H : (if t106 = true then (some (t105, t104)) else (some ((([] : List (S44))), t104))) = some (r1, r2) := H
 have A3 := a1z.mk A30
 clear A30
 by_cases c4 : t106 = true
 ·subst c4
  have H1 : (some (t105, t104)) = some (r1, r2) := by rw [if_pos rfl] at H; exact H
  clear H
  have H := H1
  clear H1
  simp only [Option.some.injEq, Prod.mk.injEq] at H
  obtain ⟨rfl, rfl⟩ := H
  go_enter Try.func66, Try.ntmps66
  go_wp2_with (first | ((with_reducible refine b8z (f := 65) rfl ?_); refine c8z (some 7) rfl rfl Try.func65 (by kernel_rfl) rfl #[.pointer (some ⟨g, 0, none⟩)] rfl (by (try simp only [List.map_toArray, List.map_cons, List.map_nil]); first | done | rfl | (simp only [List.length_drop, List.length_take]; rfl)) ?_; (with_reducible refine (spec_l12Blocks.calls k g s0_0 s0_1 t101 t104 w0 _ ?side1 ?side2 A2.1).mono ?_); (case side1 => repeat (first | (with_reducible first | exact HI0.1 | apply IsS76.alloc | apply IsS76.drewN | apply IsS76.drew | apply IsS76.set_1) | exact HI0.1)); (case side2 => repeat (first | (with_reducible first | exact HB.1 | apply a3z | apply a0z | apply a2z | refine a6z ?_ (IsS76.ge HI0.1)) | exact HB.1)); rintro e w5 ⟨v102, rfl, ho0, hi, hb, hk⟩; refine ⟨_, rfl, ?_⟩; have n0_ := a1z.mk (Kd.d4z ho0 (f1z (w := w) (g := g) (row := none) (by repeat (first | (with_reducible first | exact HK.1 | apply b6z.set_ | apply c4z | apply c5z | apply keep_alloc) | exact HK.1)))); have n1_ := a1z.mk (b6z.trans (by repeat (first | (with_reducible first | exact HK.1 | apply b6z.set_ | apply c4z | apply c5z | apply keep_alloc) | exact HK.1)) hk (.inl rfl)); have n2_ := a1z.mk (hb); have n3_ := a1z.mk (hi); clear HK; clear HB; clear HI0; have HO103 := n0_; have HK := n1_; have HB := n2_; have HI0 := n3_; clear n0_ n1_ n2_ n3_; (try clear hb); (try clear hb2); (try clear hk); (try clear hi); (try clear ho0); obtain ⟨Ao6, co6, eo6⟩ := Kd.e1z HO103.1; subst eo6) | ((with_reducible refine b8z (f := 18) rfl ?_); refine c8z (some 8) rfl rfl Try.func18 (by kernel_rfl) rfl #[.slice Ao6 t101.length co6] rfl (by (try simp only [List.map_toArray, List.map_cons, List.map_nil]); first | done | rfl | (simp only [List.length_drop, List.length_take]; rfl)) ?_; (with_reducible refine (spec_SetOf.calls k _ _ t101 t105 true _ ?side1 ?side2 A3.1).mono ?_); (case side1 => repeat (first | exact (Kd.c0z HO103.1).2.2 | (with_reducible refine Kd.C_alloc ?_ _) | (with_reducible refine Kd.C_drewN ?_ _) | (with_reducible refine Kd.C_drew ?_))); (case side2 => exact (Kd.c0z HO103.1).2.1); rintro e w7 ⟨v107, rfl, ho0, hb⟩; refine ⟨_, rfl, ?_⟩; have n0_ := a1z.mk (Kd.c9z (by (with_reducible repeat (first | apply Kd.R_alloc | apply Kd.a4z | apply Kd.a5z)); exact HO103.1) (Kd.e3z ho0) hb); have n1_ := a1z.mk (Kd.d4z (Kd.e2z ho0 (Kd.R_lt (by (with_reducible repeat (first | apply Kd.R_alloc | apply Kd.a4z | apply Kd.a5z)); exact HO103.1))) (f1z (w := w) (g := g) (row := none) (by repeat (first | (with_reducible first | exact HK.1 | apply b6z.set_ | apply c4z | apply c5z | apply keep_alloc) | exact HK.1)))); have n2_ := a1z.mk (IsS76.below (by repeat (first | (with_reducible first | exact HI0.1 | apply IsS76.alloc | apply IsS76.drewN | apply IsS76.drew | apply IsS76.set_1) | exact HI0.1)) hb); have n3_ := a1z.mk (b6z.trans (by repeat (first | (with_reducible first | exact HK.1 | apply b6z.set_ | apply c4z | apply c5z | apply keep_alloc) | exact HK.1)) (b6z.of_below hb g none) (.inl rfl)); have n4_ := a1z.mk (b3z (by repeat (first | (with_reducible first | exact HB.1 | apply a3z | apply a0z | apply a2z | refine a6z ?_ (IsS76.ge HI0.1)) | exact HB.1)) hb); clear HO103; clear HI0; clear HK; clear HB; have HO103 := n0_; have HO108 := n1_; have HI0 := n2_; have HK := n3_; have HB := n4_; clear n0_ n1_ n2_ n3_ n4_; (try clear hb); (try clear hb2); (try clear hk); (try clear hi); (try clear ho0)))
  go_ret
  exact ⟨_, by first | rfl | (simp [c2z, c1z] <;> rfl) | (simp [*, c2z, c1z] <;> rfl), by (with_reducible repeat (first | apply Kd.R_alloc | apply Kd.a4z | apply Kd.a5z)); exact Kd.b9z HO108.1 (fun _ hk => trivial), by repeat (first | (with_reducible first | exact HI0.1 | apply IsS76.alloc | apply IsS76.drewN | apply IsS76.drew | apply IsS76.set_1) | exact HI0.1), by repeat (first | (with_reducible first | exact HB.1 | apply a3z | apply a0z | apply a2z | refine a6z ?_ (IsS76.ge HI0.1)) | exact HB.1), by repeat (first | (with_reducible first | exact HK.1 | apply b6z.set_ | apply c4z | apply c5z | apply keep_alloc) | exact HK.1)⟩
 ·replace c4 := Bool.eq_false_iff.mpr c4
  subst c4
  have H1 : (some ((([] : List (S44))), t104)) = some (r1, r2) := by rw [if_neg (show ¬ (false = true) by decide)] at H; exact H
  clear H
  have H := H1
  clear H1
  obtain ⟨y109, hy109⟩ : ∃ y_ : List (S44), y_ = (([] : List (S44))) := ⟨_, rfl⟩
  replace H : (some (y109, t104)) = some (r1, r2) := by first | (rw [hy109]; with_reducible exact H) | (have H2_ := (Option.bind_some _ _).symm.trans H; rw [hy109]; with_reducible exact H2_) | (have H2_ := (Option.bind_some _ _).symm.trans H; with_reducible exact H2_) | with_reducible exact H | (rw [hy109]; exact H) | exact H
  have Ny109 := a1z.mk hy109
  clear hy109
  simp only [Option.some.injEq, Prod.mk.injEq] at H
  obtain ⟨rfl, rfl⟩ := H
  go_enter Try.func66, Try.ntmps66
  go_wp2_with (first | ((with_reducible refine b8z (f := 65) rfl ?_); refine c8z (some 7) rfl rfl Try.func65 (by kernel_rfl) rfl #[.pointer (some ⟨g, 0, none⟩)] rfl (by (try simp only [List.map_toArray, List.map_cons, List.map_nil]); first | done | rfl | (simp only [List.length_drop, List.length_take]; rfl)) ?_; (with_reducible refine (spec_l12Blocks.calls k g s0_0 s0_1 t101 t104 w0 _ ?side1 ?side2 A2.1).mono ?_); (case side1 => repeat (first | (with_reducible first | exact HI0.1 | apply IsS76.alloc | apply IsS76.drewN | apply IsS76.drew | apply IsS76.set_1) | exact HI0.1)); (case side2 => repeat (first | (with_reducible first | exact HB.1 | apply a3z | apply a0z | apply a2z | refine a6z ?_ (IsS76.ge HI0.1)) | exact HB.1)); rintro e w8 ⟨v102, rfl, ho0, hi, hb, hk⟩; refine ⟨_, rfl, ?_⟩; have n0_ := a1z.mk (Kd.d4z ho0 (f1z (w := w) (g := g) (row := none) (by repeat (first | (with_reducible first | exact HK.1 | apply b6z.set_ | apply c4z | apply c5z | apply keep_alloc) | exact HK.1)))); have n1_ := a1z.mk (b6z.trans (by repeat (first | (with_reducible first | exact HK.1 | apply b6z.set_ | apply c4z | apply c5z | apply keep_alloc) | exact HK.1)) hk (.inl rfl)); have n2_ := a1z.mk (hb); have n3_ := a1z.mk (hi); clear HK; clear HB; clear HI0; have HO103 := n0_; have HK := n1_; have HB := n2_; have HI0 := n3_; clear n0_ n1_ n2_ n3_; (try clear hb); (try clear hb2); (try clear hk); (try clear hi); (try clear ho0); obtain ⟨Ao9, co9, eo9⟩ := Kd.e1z HO103.1; subst eo9) | ((with_reducible refine b8z (f := 18) rfl ?_); refine c8z (some 8) rfl rfl Try.func18 (by kernel_rfl) rfl #[.slice Ao9 t101.length co9] rfl (by (try simp only [List.map_toArray, List.map_cons, List.map_nil]); first | done | rfl | (simp only [List.length_drop, List.length_take]; rfl)) ?_; (with_reducible refine (spec_SetOf.calls k _ _ t101 t105 false _ ?side1 ?side2 A3.1).mono ?_); (case side1 => repeat (first | exact (Kd.c0z HO103.1).2.2 | (with_reducible refine Kd.C_alloc ?_ _) | (with_reducible refine Kd.C_drewN ?_ _) | (with_reducible refine Kd.C_drew ?_))); (case side2 => exact (Kd.c0z HO103.1).2.1); rintro e w10 ⟨v107, rfl, ho0, hb⟩; refine ⟨_, rfl, ?_⟩; have n0_ := a1z.mk (Kd.c9z (by (with_reducible repeat (first | apply Kd.R_alloc | apply Kd.a4z | apply Kd.a5z)); exact HO103.1) (Kd.e3z ho0) hb); have n1_ := a1z.mk (Kd.d4z (Kd.e2z ho0 (Kd.R_lt (by (with_reducible repeat (first | apply Kd.R_alloc | apply Kd.a4z | apply Kd.a5z)); exact HO103.1))) (f1z (w := w) (g := g) (row := none) (by repeat (first | (with_reducible first | exact HK.1 | apply b6z.set_ | apply c4z | apply c5z | apply keep_alloc) | exact HK.1)))); have n2_ := a1z.mk (IsS76.below (by repeat (first | (with_reducible first | exact HI0.1 | apply IsS76.alloc | apply IsS76.drewN | apply IsS76.drew | apply IsS76.set_1) | exact HI0.1)) hb); have n3_ := a1z.mk (b6z.trans (by repeat (first | (with_reducible first | exact HK.1 | apply b6z.set_ | apply c4z | apply c5z | apply keep_alloc) | exact HK.1)) (b6z.of_below hb g none) (.inl rfl)); have n4_ := a1z.mk (b3z (by repeat (first | (with_reducible first | exact HB.1 | apply a3z | apply a0z | apply a2z | refine a6z ?_ (IsS76.ge HI0.1)) | exact HB.1)) hb); clear HO103; clear HI0; clear HK; clear HB; have HO103 := n0_; have HO108 := n1_; have HI0 := n2_; have HK := n3_; have HB := n4_; clear n0_ n1_ n2_ n3_ n4_; (try clear hb); (try clear hb2); (try clear hk); (try clear hi); (try clear ho0)) | ((with_reducible refine d3z (N := 13) rfl ?_); refine Kd.R_lit k44 _ 44 ?hg (N := 13) ?hd (xs := ([] : List (S44))) (inner := []) (ok := fun _ => True) (okp := fun _ => True) ?hr ?hp (fun _ hk => hk) trivial (Below.refl _ _) (Nat.le_refl _) (by simp) ?_; (case hd => rfl); (case hg => rfl); (case hr => first | (go_simp; done) | (go_simp; rfl)); (case hp => exact (Reps.none _ _)); intro v110 w11 ho12 hb hg_ hnew_; clear hg_ hnew_; (first | rw [← Ny109.1] at ho12 | (simp only [Int.reduceToNat] at ho12; rw [← Ny109.1] at ho12)); have n0_ := a1z.mk (Kd.c9z (by (with_reducible repeat (first | apply Kd.R_alloc | apply Kd.a4z | apply Kd.a5z)); exact HO103.1) (Kd.e3z ho12) hb); have n1_ := a1z.mk (Kd.c9z (by (with_reducible repeat (first | apply Kd.R_alloc | apply Kd.a4z | apply Kd.a5z)); exact HO108.1) (Kd.e3z ho12) hb); have n2_ := a1z.mk (Kd.d4z (Kd.e2z (Kd.e2z ho12 (Kd.R_lt (by (with_reducible repeat (first | apply Kd.R_alloc | apply Kd.a4z | apply Kd.a5z)); exact HO103.1))) (Kd.R_lt (by (with_reducible repeat (first | apply Kd.R_alloc | apply Kd.a4z | apply Kd.a5z)); exact HO108.1))) (f1z (w := w) (g := g) (row := none) (by repeat (first | (with_reducible first | exact HK.1 | apply b6z.set_ | apply c4z | apply c5z | apply keep_alloc) | exact HK.1)))); have n3_ := a1z.mk (IsS76.below (by repeat (first | (with_reducible first | exact HI0.1 | apply IsS76.alloc | apply IsS76.drewN | apply IsS76.drew | apply IsS76.set_1) | exact HI0.1)) hb); have n4_ := a1z.mk (b6z.trans (by repeat (first | (with_reducible first | exact HK.1 | apply b6z.set_ | apply c4z | apply c5z | apply keep_alloc) | exact HK.1)) (b6z.of_below hb g none) (.inl rfl)); have n5_ := a1z.mk (b3z (by repeat (first | (with_reducible first | exact HB.1 | apply a3z | apply a0z | apply a2z | refine a6z ?_ (IsS76.ge HI0.1)) | exact HB.1)) hb); clear HO103; clear HO108; clear HI0; clear HK; clear HB; have HO103 := n0_; have HO108 := n1_; have HO111 := n2_; have HI0 := n3_; have HK := n4_; have HB := n5_; clear n0_ n1_ n2_ n3_ n4_ n5_; clear hb ho12))
  go_ret
  exact ⟨_, by first | rfl | (simp [c2z, c1z] <;> rfl) | (simp [*, c2z, c1z] <;> rfl), by (with_reducible repeat (first | apply Kd.R_alloc | apply Kd.a4z | apply Kd.a5z)); exact Kd.b9z HO111.1 (fun _ hk => trivial), by repeat (first | (with_reducible first | exact HI0.1 | apply IsS76.alloc | apply IsS76.drewN | apply IsS76.drew | apply IsS76.set_1) | exact HI0.1), by repeat (first | (with_reducible first | exact HB.1 | apply a3z | apply a0z | apply a2z | refine a6z ?_ (IsS76.ge HI0.1)) | exact HB.1), by repeat (first | (with_reducible first | exact HK.1 | apply b6z.set_ | apply c4z | apply c5z | apply keep_alloc) | exact HK.1)⟩
end Go.Proofs.Ytmdhedkgpgoneaa.Q

namespace Go.Proofs.Ytmdhedkgpgoneaa.Q
open Go.RowKit Go.Proofs.YtmdhedkgpgoneaaW.PrintWords Go.Proofs.YtmdhedkgpgoneaaW.PrintLast Go.Proofs.YtmdhedkgpgoneaaW.PrintMore
attribute [local go_sem] e0z d8z e7z e6z d2z d1z d9z d7z
set_option linter.unusedVariables false
set_option linter.unusedSimpArgs false
def spec_l12AnyBlock.f (k : Nat) (s0_0 : List Int) (s0_1 : Int) : Option (Int × Int × Int) := (spec_l12Block.f k s0_0 s0_1).bind fun bt102 => ((spec_l1Rd_pick.f k s0_0 bt102.2.2 16).bind fun bt106 => (if bt106.1 = 0 then ((spec_l1Rd_one.f k s0_0 bt106.2 (([1, (-1), 256] : List Int))).bind fun bt111 => (some (wrap64 (bt102.1 + bt111.1), bt102.2.1, bt111.2))) else (if bt106.1 = 1 then ((spec_l1Rd_one.f k s0_0 bt106.2 (([(-1), 33, 0, 32] : List Int))).bind fun bt116 => (some (bt102.1, bt116.1, bt116.2))) else (some (bt102.1, bt102.2.1, bt106.2)))))
def spec_l12AnyBlock.T4 : Bool × List (List Nat × List Nat) := (true, [([], []), ([0], [0]), ([], []), ([], []), ([2, 3], [2, 3]), ([1, 4], [1, 4]), ([0, 1, 2, 3, 4, 5], []), ([6, 5, 4, 0, 1, 2, 3, 4, 5], [5, 6])])
def spec_l12AnyBlock.B4 : List Nat := [0, 1, 0, 0, 12, 31, 63, 127]
theorem spec_l12AnyBlock.tab4 : rtab .any (opsOf Try.f67 4) = spec_l12AnyBlock.T4 := by kernel_rfl
theorem spec_l12AnyBlock.bits4 : waitsOk spec_l12AnyBlock.T4.2 spec_l12AnyBlock.B4 = true := by kernel_rfl
set_option maxHeartbeats 8000000 in
set_option maxRecDepth 100000 in
theorem spec_l12AnyBlock.calls (k : Nat) (g : Nat) (s0_0 : List Int) (s0_1 : Int) (r1 : Int) (r2 : Int) (r3 : Int) (w0 w : World) (hI : IsS76 w0 w g s0_0 s0_1) (hB : Below w0.heap.size w0 w) (h : spec_l12AnyBlock.f k s0_0 s0_1 = some (r1, r2, r3)) :
  Calls Try.prog 67 #[.pointer (some ⟨g, 0, none⟩)] w fun e w' => e = .returned (.agg #[.int .i64 r1, .int .i64 r2]) ∧ IsS76 w0 w' g s0_0 r3 ∧ Below w0.heap.size w0 w' ∧ b6z w w' g none := by
 have hu44 := Try.underlying44
 have HI0 := a1z.mk hI
 have HK := a1z.mk (b6z.refl w g none)
 have HL := a1z.mk hB.size
 clear hI
 have HW0 := a1z.mk hB.size
 have HB := a1z.mk hB
 clear hB
 have H : ((spec_l12Block.f k s0_0 s0_1).bind fun bt102 => ((spec_l1Rd_pick.f k s0_0 bt102.2.2 16).bind fun bt106 => (if bt106.1 = 0 then ((spec_l1Rd_one.f k s0_0 bt106.2 (([1, (-1), 256] : List Int))).bind fun bt111 => (some (wrap64 (bt102.1 + bt111.1), bt102.2.1, bt111.2))) else (if bt106.1 = 1 then ((spec_l1Rd_one.f k s0_0 bt106.2 (([(-1), 33, 0, 32] : List Int))).bind fun bt116 => (some (bt102.1, bt116.1, bt116.2))) else (some (bt102.1, bt102.2.1, bt106.2)))))) = some (r1, r2, r3) := h
 clear h
 replace H := Option.bind_eq_some_iff.mp H
 obtain ⟨⟨t102, t103, t104⟩, A20, H⟩ := H
 replace H : ((spec_l1Rd_pick.f k s0_0 t104 16).bind fun bt106 => (if bt106.1 = 0 then ((spec_l1Rd_one.f k s0_0 bt106.2 (([1, (-1), 256] : List Int))).bind fun bt111 => (some (wrap64 (t102 + bt111.1), t103, bt111.2))) else (if bt106.1 = 1 then ((spec_l1Rd_one.f k s0_0 bt106.2 (([(-1), 33, 0, 32] : List Int))).bind fun bt116 => (some (t102, bt116.1, bt116.2))) else (some (t102, t103, bt106.2))))) = some (r1, r2, r3) := H
 have A2 := a1z.mk A20
 clear A20
 replace H := Option.bind_eq_some_iff.mp H
 obtain ⟨⟨t106, t107⟩, A30, H⟩ := H
 replace H : (if t106 = 0 then ((spec_l1Rd_one.f k s0_0 t107 (([1, (-1), 256] : List Int))).bind fun bt111 => (some (wrap64 (t102 + bt111.1), t103, bt111.2))) else (if t106 = 1 then ((spec_l1Rd_one.f k s0_0 t107 (([(-1), 33, 0, 32] : List Int))).bind fun bt116 => (some (t102, bt116.1, bt116.2))) else (some (t102, t103, t107)))) = some (r1, r2, r3) := H
 have A3 := a1z.mk A30
 clear A30
 by_cases c4 : t106 = 0
 ·rw [if_pos c4] at H
  have c4b0 : (t106 == 0) = true := beq_iff_eq.mpr c4
  have c4b1 : (t106 != 0) = false := bne_eq_false_iff_eq.mpr c4
  clear c4
  obtain ⟨y108, hy108⟩ : ∃ y_ : List Int, y_ = (([1, (-1), 256] : List Int)) := ⟨_, rfl⟩
  replace H : ((spec_l1Rd_one.f k s0_0 t107 y108).bind fun bt111 => (some (wrap64 (t102 + bt111.1), t103, bt111.2))) = some (r1, r2, r3) := by first | (rw [hy108]; with_reducible exact H) | (have H2_ := (Option.bind_some _ _).symm.trans H; rw [hy108]; with_reducible exact H2_) | (have H2_ := (Option.bind_some _ _).symm.trans H; with_reducible exact H2_) | with_reducible exact H | (rw [hy108]; exact H) | exact H
  have Ny108 := a1z.mk hy108
  clear hy108
  replace H := Option.bind_eq_some_iff.mp H
  obtain ⟨⟨t111, t112⟩, A50, H⟩ := H
  replace H : (some (wrap64 (t102 + t111), t103, t112)) = some (r1, r2, r3) := H
  have A5 := a1z.mk A50
  clear A50
  simp only [Option.some.injEq, Prod.mk.injEq] at H
  obtain ⟨rfl, rfl, rfl⟩ := H
  go_enter Try.func67, Try.ntmps67
  try go_wp2_with (first | ((with_reducible refine d3z (N := 2) rfl ?_); refine d6z ?hg (N := 2) ?hd (cs := #[.int .i64 0, .int .i64 0]) (t := 44) ?hr ?_; (case hd => rfl); (case hg => rfl); (case hr => first | (go_simp; done) | (go_simp; rfl)); intro gb101 hg w6 hbox hb; have n0_ := a1z.mk (IsS76.below (by repeat (first | (with_reducible first | exact HI0.1 | apply IsS76.alloc | apply IsS76.drewN | apply IsS76.drew | apply IsS76.set_1) | exact HI0.1)) hb); have n1_ := a1z.mk (b6z.trans (by repeat (first | (with_reducible first | exact HK.1 | apply b6z.set_ | apply c4z | apply c5z | apply keep_alloc) | exact HK.1)) (b6z.of_below hb g none) (.inl rfl)); have n2_ := a1z.mk (b3z (by repeat (first | (with_reducible first | exact HB.1 | apply a3z | apply a0z | apply a2z | refine a6z ?_ (IsS76.ge HI0.1)) | exact HB.1)) hb); have n3_ := a1z.mk (hbox); have n4_ := a1z.mk ((by rw [hg]; exact (f1z (w := w) (g := g) (row := none) (by repeat (first | (with_reducible first | exact HK.1 | apply b6z.set_ | apply c4z | apply c5z | apply keep_alloc) | exact HK.1))) : w.heap.size ≤ gb101)); have n5_ := a1z.mk ((Nat.le_trans HW0.1 (by rw [hg]; exact (f1z (w := w) (g := g) (row := none) (by repeat (first | (with_reducible first | exact HK.1 | apply b6z.set_ | apply c4z | apply c5z | apply keep_alloc) | exact HK.1))) : w.heap.size ≤ gb101) : w0.heap.size ≤ gb101)); have n6_ := a1z.mk ((by rw [hg]; exact Nat.ne_of_lt (IsS76.lt (show IsS76 w0 _ g s0_0 s0_1 from by repeat (first | (with_reducible first | exact HI0.1 | apply IsS76.alloc | apply IsS76.drewN | apply IsS76.drew | apply IsS76.set_1) | exact HI0.1))) : g ≠ gb101)); have n7_ := a1z.mk ((by rw [hg]; exact Nat.ne_of_gt (IsS76.lt (show IsS76 w0 _ g s0_0 s0_1 from by repeat (first | (with_reducible first | exact HI0.1 | apply IsS76.alloc | apply IsS76.drewN | apply IsS76.drew | apply IsS76.set_1) | exact HI0.1))) : gb101 ≠ g)); clear HI0; clear HK; clear HB; have HI0 := n0_; have HK := n1_; have HB := n2_; have BK101 := n3_; have GW101 := n4_; have GE101 := n5_; have NB0_101 := n6_; have NB101_0 := n7_; clear n0_ n1_ n2_ n3_ n4_ n5_ n6_ n7_; clear hb hbox hg) | ((with_reducible refine b8z (f := 78) rfl ?_); refine c8z (some 5) rfl rfl Try.func78 (by kernel_rfl) rfl #[.pointer (some ⟨g, 0, none⟩)] rfl (by (try simp only [List.map_toArray, List.map_cons, List.map_nil]); first | done | rfl | (simp only [List.length_drop, List.length_take]; rfl)) ?_; (with_reducible refine (spec_l12Block.calls k g s0_0 s0_1 t102 t103 t104 w0 _ ?side1 ?side2 A2.1).mono ?_); (case side1 => repeat (first | (with_reducible first | exact HI0.1 | apply IsS76.alloc | apply IsS76.drewN | apply IsS76.drew | apply IsS76.set_1 | refine IsS76.far ?_ NB0_101.1 _) | exact HI0.1)); (case side2 => repeat (first | (with_reducible first | exact HB.1 | apply a3z | apply a0z | apply a2z | refine a6z ?_ (IsS76.ge HI0.1) | refine a6z ?_ GE101.1) | exact HB.1)); rintro e w7 ⟨rfl, hi, hb, hk⟩; refine ⟨_, rfl, ?_⟩; have n0_ := a1z.mk (b6z.blk hk (g' := gb101) (o := .cells #[.int .i64 0, .int .i64 0] 44 (0, 0)) (by (with_reducible repeat (first | refine a8z ?_ _ | refine a9z ?_ | refine a7z ?_ _)); exact BK101.1) NB101_0.1 (by simp)); have n1_ := a1z.mk (b6z.trans (by repeat (first | (with_reducible first | exact HK.1 | apply b6z.set_ | apply c4z | apply c5z | apply keep_alloc | refine e8z ?_ GW101.1 _) | exact HK.1)) hk (.inl rfl)); have n2_ := a1z.mk (hb); have n3_ := a1z.mk (hi); clear BK101; clear HK; clear HB; clear HI0; have BK101 := n0_; have HK := n1_; have HB := n2_; have HI0 := n3_; clear n0_ n1_ n2_ n3_; (try clear hb); (try clear hb2); (try clear hk); (try clear hi)) | ((with_reducible refine d3z (N := 3) rfl ?_); refine d6z ?hg (N := 3) ?hd (cs := #[.int .i64 0, .int .i64 0]) (t := 44) ?hr ?_; (case hd => rfl); (case hg => rfl); (case hr => first | (go_simp; done) | (go_simp; rfl)); intro gb105 hg w8 hbox hb; have n0_ := a1z.mk (IsS76.below (by repeat (first | (with_reducible first | exact HI0.1 | apply IsS76.alloc | apply IsS76.drewN | apply IsS76.drew | apply IsS76.set_1 | refine IsS76.far ?_ NB0_101.1 _) | exact HI0.1)) hb); have n1_ := a1z.mk (d5z (g := gb101) (o := .cells #[.int .i64 0, .int .i64 0] 44 (0, 0)) (by (with_reducible repeat (first | refine a8z ?_ _ | refine a9z ?_ | refine a7z ?_ _)); exact BK101.1) hb); have n2_ := a1z.mk (b6z.trans (by repeat (first | (with_reducible first | exact HK.1 | apply b6z.set_ | apply c4z | apply c5z | apply keep_alloc | refine e8z ?_ GW101.1 _) | exact HK.1)) (b6z.of_below hb g none) (.inl rfl)); have n3_ := a1z.mk (b3z (by repeat (first | (with_reducible first | exact HB.1 | apply a3z | apply a0z | apply a2z | refine a6z ?_ (IsS76.ge HI0.1) | refine a6z ?_ GE101.1) | exact HB.1)) hb); have n4_ := a1z.mk (hbox); have n5_ := a1z.mk ((by rw [hg]; exact (f1z (w := w) (g := g) (row := none) (by repeat (first | (with_reducible first | exact HK.1 | apply b6z.set_ | apply c4z | apply c5z | apply keep_alloc | refine e8z ?_ GW101.1 _) | exact HK.1))) : w.heap.size ≤ gb105)); have n6_ := a1z.mk ((Nat.le_trans HW0.1 (by rw [hg]; exact (f1z (w := w) (g := g) (row := none) (by repeat (first | (with_reducible first | exact HK.1 | apply b6z.set_ | apply c4z | apply c5z | apply keep_alloc | refine e8z ?_ GW101.1 _) | exact HK.1))) : w.heap.size ≤ gb105) : w0.heap.size ≤ gb105)); have n7_ := a1z.mk ((by rw [hg]; exact Nat.ne_of_lt (g8z (g := gb101) (o := .cells #[.int .i64 0, .int .i64 0] 44 (0, 0)) (by (with_reducible repeat (first | refine a8z ?_ _ | refine a9z ?_ | refine a7z ?_ _)); exact BK101.1)) : gb101 ≠ gb105)); have n8_ := a1z.mk ((by rw [hg]; exact Nat.ne_of_gt (g8z (g := gb101) (o := .cells #[.int .i64 0, .int .i64 0] 44 (0, 0)) (by (with_reducible repeat (first | refine a8z ?_ _ | refine a9z ?_ | refine a7z ?_ _)); exact BK101.1)) : gb105 ≠ gb101)); have n9_ := a1z.mk ((by rw [hg]; exact Nat.ne_of_lt (IsS76.lt (show IsS76 w0 _ g s0_0 t104 from by repeat (first | (with_reducible first | exact HI0.1 | apply IsS76.alloc | apply IsS76.drewN | apply IsS76.drew | apply IsS76.set_1 | refine IsS76.far ?_ NB0_101.1 _) | exact HI0.1))) : g ≠ gb105)); have n10_ := a1z.mk ((by rw [hg]; exact Nat.ne_of_gt (IsS76.lt (show IsS76 w0 _ g s0_0 t104 from by repeat (first | (with_reducible first | exact HI0.1 | apply IsS76.alloc | apply IsS76.drewN | apply IsS76.drew | apply IsS76.set_1 | refine IsS76.far ?_ NB0_101.1 _) | exact HI0.1))) : gb105 ≠ g)); clear HI0; clear BK101; clear HK; clear HB; have HI0 := n0_; have BK101 := n1_; have HK := n2_; have HB := n3_; have BK105 := n4_; have GW105 := n5_; have GE105 := n6_; have NB101_105 := n7_; have NB105_101 := n8_; have NB0_105 := n9_; have NB105_0 := n10_; clear n0_ n1_ n2_ n3_ n4_ n5_ n6_ n7_ n8_ n9_ n10_; clear hb hbox hg; have hnb9 := NB105_101.1; have hnc9 := NB101_105.1; have hnb10 := NB105_0.1; have hnc10 := NB0_105.1; have hcz11_0 : w8.cell? ⟨gb105, 0, none⟩ = some (.int .i64 0) := (b1z BK105.1 0).trans rfl; have hcz11_1 : w8.cell? ⟨gb105, 1, none⟩ = some (.int .i64 0) := (b1z BK105.1 1).trans rfl; have hfz11_0 := b5z BK105.1 0; have hfz11_1 := b5z BK105.1 1) | ((with_reducible refine b8z (f := 64) rfl ?_); refine c8z (some 7) rfl rfl Try.func64 (by kernel_rfl) rfl #[.pointer (some ⟨g, 0, none⟩), .int .i64 16] rfl (by (try simp only [List.map_toArray, List.map_cons, List.map_nil]); first | done | rfl | (simp only [List.length_drop, List.length_take]; rfl)) ?_; (with_reducible refine (spec_l1Rd_pick.calls k g s0_0 t104 16 t106 t107 w0 _ ?side1 ?side2 A3.1).mono ?_); (case side1 => repeat (first | (with_reducible first | exact HI0.1 | apply IsS76.alloc | apply IsS76.drewN | apply IsS76.drew | apply IsS76.set_1 | refine IsS76.far ?_ NB0_101.1 _ | refine IsS76.far ?_ NB0_105.1 _) | exact HI0.1)); (case side2 => repeat (first | (with_reducible first | exact HB.1 | apply a3z | apply a0z | apply a2z | refine a6z ?_ (IsS76.ge HI0.1) | refine a6z ?_ GE101.1 | refine a6z ?_ GE105.1) | exact HB.1)); rintro e w12 ⟨rfl, hi, hb, hk⟩; refine ⟨_, rfl, ?_⟩; have n0_ := a1z.mk (b6z.blk hk (g' := gb101) (o := .cells #[.int .i64 0, .int .i64 0] 44 (0, 0)) (by (with_reducible repeat (first | refine a8z ?_ _ | refine a9z ?_ | refine a7z ?_ _)); refine f6z ?_ NB101_105.1 _; (with_reducible repeat (first | refine a8z ?_ _ | refine a9z ?_ | refine a7z ?_ _)); refine f6z ?_ NB101_105.1 _; (with_reducible repeat (first | refine a8z ?_ _ | refine a9z ?_ | refine a7z ?_ _)); exact BK101.1) NB101_0.1 (by simp)); have n1_ := a1z.mk (b6z.blk hk (g' := gb105) (o := .cells #[.int .i64 t102, .int .i64 t103] 44 (0, 0)) (by (with_reducible repeat (first | refine a8z ?_ _ | refine a9z ?_ | refine a7z ?_ _)); refine d0z (cs := #[.int .i64 t102, .int .i64 0]) ?_ 1 _ rfl; (with_reducible repeat (first | refine a8z ?_ _ | refine a9z ?_ | refine a7z ?_ _)); refine d0z (cs := #[.int .i64 0, .int .i64 0]) ?_ 0 _ rfl; (with_reducible repeat (first | refine a8z ?_ _ | refine a9z ?_ | refine a7z ?_ _)); exact BK105.1) NB105_0.1 (by simp)); have n2_ := a1z.mk (b6z.trans (by repeat (first | (with_reducible first | exact HK.1 | apply b6z.set_ | apply c4z | apply c5z | apply keep_alloc | refine e8z ?_ GW101.1 _ | refine e8z ?_ GW105.1 _) | exact HK.1)) hk (.inl rfl)); have n3_ := a1z.mk (hb); have n4_ := a1z.mk (hi); clear BK101; clear BK105; clear HK; clear HB; clear HI0; have BK101 := n0_; have BK105 := n1_; have HK := n2_; have HB := n3_; have HI0 := n4_; clear n0_ n1_ n2_ n3_ n4_; (try clear hb); (try clear hb2); (try clear hk); (try clear hi)))
  have n0_ := a1z.mk (a9z BK101.1)
  have n1_ := a1z.mk (a9z BK105.1)
  have n2_ := a1z.mk (IsS76.drew HI0.1)
  have n3_ := a1z.mk (c5z HK.1)
  have n4_ := a1z.mk (a2z HB.1)
  clear BK101
  clear BK105
  clear HI0
  clear HK
  clear HB
  have BK101 := n0_
  have BK105 := n1_
  have HI0 := n2_
  have HK := n3_
  have HB := n4_
  clear n0_ n1_ n2_ n3_ n4_
  refine g9z (n := 8) (S := fun w' => w'.cell? ⟨gb105, 0, none⟩ = some (.int .i64 t102) ∧ w'.cell? ⟨gb105, 1, none⟩ = some (.int .i64 t103)) (ds := [7]) #[false, false, false, false, false, false, false, false] (by kernel_rfl) rfl rfl ⟨(b1z BK105.1 0).trans rfl, (b1z BK105.1 1).trans rfl⟩ (fun hHeld => ?_); refine f8z spec_l12AnyBlock.tab4 spec_l12AnyBlock.bits4 (fun HT_ HW_ => ?_)
  generalize w12.drew = w13 at BK101 BK105 HI0 HK HB hHeld ⊢
  refine pure_ (i := 0) (N := some 10) (v := ?_) (a' := ?_) #[true, false, false, false, false, false, false, false] rfl rfl (b7z HT_.1 (by kernel_rfl)) (fun _ _ _ h => h) (Or.inl ⟨by rfl, ?_⟩) ?_ ?_
  rotate_left
  ·intro w'
   go_simp
   with_reducible rfl
  rotate_left
  ·simp only [Act.put, sA_, sZ_, sS_, i64_w, i32_w]
   rfl
  refine pure_ (i := 2) (N := some 12) (v := ?_) (a' := ?_) #[true, false, true, false, false, false, false, false] rfl rfl (b7z HT_.1 (by kernel_rfl)) (fun _ _ _ h => h) (Or.inl ⟨by rfl, ?_⟩) ?_ ?_
  rotate_left
  ·intro w'
   go_simp
   with_reducible rfl
  rotate_left
  ·simp only [Act.put, sA_, sZ_, sS_, i64_w, i32_w]
   rfl
  refine take_ (i := 1) (N := some 11) (v := ?_) (a' := ?_) #[true, true, true, false, false, false, false, false] rfl rfl (f3z HT_.1 HW_.1 (by kernel_rfl)) (fun _ _ _ h => h) (Or.inl ⟨by rfl, ?_⟩) hHeld ?_ ?_
  rotate_left
  ·rintro w' ⟨s0, s1⟩
   go_simp
   with_reducible rfl
  rotate_left
  ·simp only [Act.put, sA_, sZ_, sS_, i64_w, i32_w]
   rfl
  refine one_ (i := 3) (N := some 13) #[true, true, true, true, false, false, false, false] rfl rfl (f9z HT_.1 (by kernel_rfl)) (by decide) (fun K hK => ?_)
  refine Kd.h2z (Kd.int .i64) _ 3 ?hg (N := 13) ?hd (xs := ([1, (-1), 256] : List Int)) (inner := [.int .i64 1, .int .i64 (-1), .int .i64 256]) (ok := fun _ => True) (okp := fun _ => True) ?hr ?hp (fun _ hk => hk) trivial (Below.refl _ _) (Nat.le_refl _) (by simp) ?_; (case hd => rfl); (case hg => rfl); (case hr => first | (go_simp; done) | (go_simp; rfl)); (case hp => exact (Reps.one (show Kd.M (Kd.int .i64) _ _ _ 1 [.int .i64 1] from rfl) (Reps.one (show Kd.M (Kd.int .i64) _ _ _ (-1) [.int .i64 (-1)] from rfl) (Reps.one (show Kd.M (Kd.int .i64) _ _ _ 256 [.int .i64 256] from rfl) (Reps.none _ _)))))
  intro v109 w14 ho15 hb hg_ hnew_
  clear hg_ hnew_
  (first | rw [← Ny108.1] at ho15 | (simp only [Int.reduceToNat] at ho15; rw [← Ny108.1] at ho15))
  have n0_ := a1z.mk (Kd.d4z ho15 (f1z (w := w) (g := g) (row := none) (by repeat (first | (with_reducible first | exact HK.1 | apply b6z.set_ | apply c4z | apply c5z | apply keep_alloc | refine e8z ?_ GW101.1 _ | refine e8z ?_ GW105.1 _) | exact HK.1))))
  have n1_ := a1z.mk (IsS76.below (by repeat (first | (with_reducible first | exact HI0.1 | apply IsS76.alloc | apply IsS76.drewN | apply IsS76.drew | apply IsS76.set_1 | refine IsS76.far ?_ NB0_101.1 _ | refine IsS76.far ?_ NB0_105.1 _) | exact HI0.1)) hb)
  have n2_ := a1z.mk (d5z (g := gb101) (o := .cells #[.int .i64 0, .int .i64 0] 44 (0, 0)) (by (with_reducible repeat (first | refine a8z ?_ _ | refine a9z ?_ | refine a7z ?_ _)); exact BK101.1) hb)
  have n3_ := a1z.mk (d5z (g := gb105) (o := .cells #[.int .i64 t102, .int .i64 t103] 44 (0, 0)) (by (with_reducible repeat (first | refine a8z ?_ _ | refine a9z ?_ | refine a7z ?_ _)); exact BK105.1) hb)
  have n4_ := a1z.mk (b6z.trans (by repeat (first | (with_reducible first | exact HK.1 | apply b6z.set_ | apply c4z | apply c5z | apply keep_alloc | refine e8z ?_ GW101.1 _ | refine e8z ?_ GW105.1 _) | exact HK.1)) (b6z.of_below hb g none) (.inl rfl))
  have n5_ := a1z.mk (b3z (by repeat (first | (with_reducible first | exact HB.1 | apply a3z | apply a0z | apply a2z | refine a6z ?_ (IsS76.ge HI0.1) | refine a6z ?_ GE101.1 | refine a6z ?_ GE105.1) | exact HB.1)) hb)
  clear HI0
  clear BK101
  clear BK105
  clear HK
  clear HB
  have HO110 := n0_
  have HI0 := n1_
  have BK101 := n2_
  have BK105 := n3_
  have HK := n4_
  have HB := n5_
  clear n0_ n1_ n2_ n3_ n4_ n5_
  clear hb ho15
  obtain ⟨Ao16, co16, eo16⟩ := Kd.e1z HO110.1
  (first | subst eo16 | (injection eo16 with f1_ f2_ f3_; have f4_ := f1_.symm; have f5_ := f3_.symm; clear f1_ f2_ f3_; subst f4_; subst f5_))
  refine hK.out _ _ ⟨(b1z BK105.1 0).trans rfl, (b1z BK105.1 1).trans rfl⟩ (fun hHeld => ?_)
  clear hK K
  refine norm_ (a' := ?_) ?_ ?_
  rotate_left
  ·show Act.put _ (some 13) _ = _
   simp only [Act.put, sA_, sZ_, sS_, i64_w, i32_w]
   rfl
  refine one_ (i := 4) (N := some 14) #[true, true, true, true, true, false, false, false] rfl rfl (f9z HT_.1 (by kernel_rfl)) (by decide) (fun K hK => ?_)
  refine goes_ Try.func79 (by kernel_rfl) rfl #[.pointer (some ⟨g, 0, none⟩), .slice Ao16 y108.length co16] (by rfl) rfl rfl (by (try simp only [List.map_toArray, List.map_cons, List.map_nil]); first | done | rfl | (simp only [List.length_drop, List.length_take]; rfl)) ?_
  with_reducible refine (spec_l1Rd_one.calls k g s0_0 t107 _ _ y108 t111 t112 w0 _ ?side1 ?side2 ?side3 ?side4 ?side5 A5.1).mono ?_
  (case side1 => repeat (first | (with_reducible first | exact HI0.1 | apply IsS76.alloc | apply IsS76.drewN | apply IsS76.drew | apply IsS76.set_1 | refine IsS76.far ?_ NB0_101.1 _ | refine IsS76.far ?_ NB0_105.1 _) | exact HI0.1))
  (case side2 => repeat (first | (with_reducible first | exact HB.1 | apply a3z | apply a0z | apply a2z | refine a6z ?_ (IsS76.ge HI0.1) | refine a6z ?_ GE101.1 | refine a6z ?_ GE105.1) | exact HB.1))
  (case side3 => repeat (first | exact (Kd.c0z HO110.1).2.2 | (with_reducible refine Kd.C_alloc ?_ _) | (with_reducible refine Kd.C_drewN ?_ _) | (with_reducible refine Kd.C_drew ?_)))
  (case side4 => exact (Kd.c0z HO110.1).2.1)
  (case side5 => exact far_slice (IsS76.own_ne HI0.1 HO110.1 (by decide)))
  rintro e w17 ⟨rfl, hi, hb, hk⟩
  refine ⟨_, rfl, ?_⟩
  have n0_ := a1z.mk (b6z.blk hk (g' := gb101) (o := .cells #[.int .i64 0, .int .i64 0] 44 (0, 0)) (by (with_reducible repeat (first | refine a8z ?_ _ | refine a9z ?_ | refine a7z ?_ _)); exact BK101.1) NB101_0.1 (by simp))
  have n1_ := a1z.mk (b6z.blk hk (g' := gb105) (o := .cells #[.int .i64 t102, .int .i64 t103] 44 (0, 0)) (by (with_reducible repeat (first | refine a8z ?_ _ | refine a9z ?_ | refine a7z ?_ _)); exact BK105.1) NB105_0.1 (by simp))
  have n2_ := a1z.mk (Kd.b9z (Kd.R_keep (IsS76.apart (show IsS76 w0 _ g s0_0 t107 from by repeat (first | (with_reducible first | exact HI0.1 | apply IsS76.alloc | apply IsS76.drewN | apply IsS76.drew | apply IsS76.set_1 | refine IsS76.far ?_ NB0_101.1 _ | refine IsS76.far ?_ NB0_105.1 _) | exact HI0.1)) (by (with_reducible repeat (first | apply Kd.R_alloc | apply Kd.a4z | apply Kd.a5z)); exact HO110.1) (by decide)) hk (fun _ h => h.2)) (fun _ h => h.1))
  have n3_ := a1z.mk (b6z.trans (by repeat (first | (with_reducible first | exact HK.1 | apply b6z.set_ | apply c4z | apply c5z | apply keep_alloc | refine e8z ?_ GW101.1 _ | refine e8z ?_ GW105.1 _) | exact HK.1)) hk (.inl rfl))
  have n4_ := a1z.mk (hb)
  have n5_ := a1z.mk (hi)
  clear BK101
  clear BK105
  clear HO110
  clear HK
  clear HB
  clear HI0
  have BK101 := n0_
  have BK105 := n1_
  have HO110 := n2_
  have HK := n3_
  have HB := n4_
  have HI0 := n5_
  clear n0_ n1_ n2_ n3_ n4_ n5_
  (try clear hb)
  (try clear hb2)
  (try clear hk)
  (try clear hi)
  refine hK.out _ _ ⟨(b1z BK105.1 0).trans rfl, (b1z BK105.1 1).trans rfl⟩ (fun hHeld => ?_)
  clear hK K
  refine norm_ (a' := ?_) ?_ ?_
  rotate_left
  ·show Act.put _ (some 14) _ = _
   simp only [Act.put, sA_, sZ_, sS_, i64_w, i32_w]
   rfl
  refine pure_ (i := 5) (N := some 15) (v := ?_) (a' := ?_) #[true, true, true, true, true, true, false, false] rfl rfl (b7z HT_.1 (by kernel_rfl)) (fun _ _ _ h => h) (Or.inl ⟨by rfl, ?_⟩) ?_ ?_
  rotate_left
  ·intro w'
   go_simp
   with_reducible rfl
  rotate_left
  ·simp only [Act.put, sA_, sZ_, sS_, i64_w, i32_w]
   rfl
  refine pure_ (i := 6) (N := some 16) (v := ?_) (a' := ?_) #[true, true, true, true, true, true, true, false] rfl rfl (b7z HT_.1 (by kernel_rfl)) (fun _ _ _ h => h) (Or.inl ⟨by rfl, ?_⟩) ?_ ?_
  rotate_left
  ·intro w'
   go_simp
   with_reducible rfl
  rotate_left
  ·simp only [Act.put, sA_, sZ_, sS_, i64_w, i32_w]
   rfl
  refine last_ (i := 7) (N := none) #[true, true, true, true, true, true, true, true] rfl rfl (f9z HT_.1 (by kernel_rfl)) (by decide) (fun K hK => ?_)
  have hs18 : w17.cell? ⟨gb105, 0, none⟩ = some (.int .i64 t102) := (b1z BK105.1 0).trans rfl
  have hfs18 := b5z BK105.1 0
  have hns18_0 := NB101_105.1
  have hms18_0 := NB105_101.1
  refine skip_ (w1 := ?_) (by rfl) rfl ?_ ?_
  rotate_left
  ·go_simp
   rfl
  refine hK.out _ _ ?_
  clear hK K
  refine done_ (g5z HT_.1 (by kernel_rfl)) ?_
  have hcz19_0 : w17.cell? ⟨gb105, 0, none⟩ = some (.int .i64 t102) := (b1z BK105.1 0).trans rfl
  have hcz19_1 : w17.cell? ⟨gb105, 1, none⟩ = some (.int .i64 t103) := (b1z BK105.1 1).trans rfl
  have hfz19_0 := b5z BK105.1 0
  have hfz19_1 := b5z BK105.1 1
  have hnb20 := NB101_0.1
  have hnc20 := NB0_101.1
  have hcz21_0 : w17.cell? ⟨gb101, 0, none⟩ = some (.int .i64 0) := (b1z BK101.1 0).trans rfl
  have hcz21_1 : w17.cell? ⟨gb101, 1, none⟩ = some (.int .i64 0) := (b1z BK101.1 1).trans rfl
  have hfz21_0 := b5z BK101.1 0
  have hfz21_1 := b5z BK101.1 1
  try go_wp2
  refine bodyPost_ret (results_cell_row rfl _ _ gb101 44 #[.int .i64 (wrap64 (t102 + t111)), .int .i64 t103] (0, 0) _ rfl (by (with_reducible repeat (first | refine a8z ?_ _ | refine a9z ?_ | refine a7z ?_ _)); refine d0z (cs := #[.int .i64 (wrap64 (t102 + t111)), .int .i64 0]) ?_ 1 _ rfl; (with_reducible repeat (first | refine a8z ?_ _ | refine a9z ?_ | refine a7z ?_ _)); refine d0z (cs := #[.int .i64 0, .int .i64 0]) ?_ 0 _ rfl; (with_reducible repeat (first | refine a8z ?_ _ | refine a9z ?_ | refine a7z ?_ _)); refine f6z ?_ NB101_105.1 _; (with_reducible repeat (first | refine a8z ?_ _ | refine a9z ?_ | refine a7z ?_ _)); exact BK101.1) Try.underlying44 rfl (by kernel_rfl)) rfl ?_
  exact ⟨by first | rfl | (simp [c2z, c1z] <;> rfl) | (simp [*, c2z, c1z] <;> rfl), by repeat (first | (with_reducible first | exact HI0.1 | apply IsS76.alloc | apply IsS76.drewN | apply IsS76.drew | apply IsS76.set_1 | refine IsS76.far ?_ NB0_101.1 _ | refine IsS76.far ?_ NB0_105.1 _) | exact HI0.1), by repeat (first | (with_reducible first | exact HB.1 | apply a3z | apply a0z | apply a2z | refine a6z ?_ (IsS76.ge HI0.1) | refine a6z ?_ GE101.1 | refine a6z ?_ GE105.1) | exact HB.1), by repeat (first | (with_reducible first | exact HK.1 | apply b6z.set_ | apply c4z | apply c5z | apply keep_alloc | refine e8z ?_ GW101.1 _ | refine e8z ?_ GW105.1 _) | exact HK.1)⟩
 ·rw [if_neg c4] at H
  have c4b0 : (t106 == 0) = false := beq_eq_false_iff_ne.mpr c4
  have c4b1 : (t106 != 0) = true := bne_iff_ne.mpr c4
  by_cases c22 : t106 = 1
  ·rw [if_pos c22] at H
   have c22b0 : (t106 == 1) = true := beq_iff_eq.mpr c22
   have c22b1 : (t106 != 1) = false := bne_eq_false_iff_eq.mpr c22
   clear c22
   obtain ⟨y113, hy113⟩ : ∃ y_ : List Int, y_ = (([(-1), 33, 0, 32] : List Int)) := ⟨_, rfl⟩
   replace H : ((spec_l1Rd_one.f k s0_0 t107 y113).bind fun bt116 => (some (t102, bt116.1, bt116.2))) = some (r1, r2, r3) := by first | (rw [hy113]; with_reducible exact H) | (have H2_ := (Option.bind_some _ _).symm.trans H; rw [hy113]; with_reducible exact H2_) | (have H2_ := (Option.bind_some _ _).symm.trans H; with_reducible exact H2_) | with_reducible exact H | (rw [hy113]; exact H) | exact H
   have Ny113 := a1z.mk hy113
   clear hy113
   replace H := Option.bind_eq_some_iff.mp H
   obtain ⟨⟨t116, t117⟩, A230, H⟩ := H
   replace H : (some (t102, t116, t117)) = some (r1, r2, r3) := H
   have A23 := a1z.mk A230
   clear A230
   simp only [Option.some.injEq, Prod.mk.injEq] at H
   obtain ⟨rfl, rfl, rfl⟩ := H
   go_enter Try.func67, Try.ntmps67
   go_wp2_with (first | ((with_reducible refine d3z (N := 2) rfl ?_); refine d6z ?hg (N := 2) ?hd (cs := #[.int .i64 0, .int .i64 0]) (t := 44) ?hr ?_; (case hd => rfl); (case hg => rfl); (case hr => first | (go_simp; done) | (go_simp; rfl)); intro gb101 hg w24 hbox hb; have n0_ := a1z.mk (IsS76.below (by repeat (first | (with_reducible first | exact HI0.1 | apply IsS76.alloc | apply IsS76.drewN | apply IsS76.drew | apply IsS76.set_1) | exact HI0.1)) hb); have n1_ := a1z.mk (b6z.trans (by repeat (first | (with_reducible first | exact HK.1 | apply b6z.set_ | apply c4z | apply c5z | apply keep_alloc) | exact HK.1)) (b6z.of_below hb g none) (.inl rfl)); have n2_ := a1z.mk (b3z (by repeat (first | (with_reducible first | exact HB.1 | apply a3z | apply a0z | apply a2z | refine a6z ?_ (IsS76.ge HI0.1)) | exact HB.1)) hb); have n3_ := a1z.mk (hbox); have n4_ := a1z.mk ((by rw [hg]; exact (f1z (w := w) (g := g) (row := none) (by repeat (first | (with_reducible first | exact HK.1 | apply b6z.set_ | apply c4z | apply c5z | apply keep_alloc) | exact HK.1))) : w.heap.size ≤ gb101)); have n5_ := a1z.mk ((Nat.le_trans HW0.1 (by rw [hg]; exact (f1z (w := w) (g := g) (row := none) (by repeat (first | (with_reducible first | exact HK.1 | apply b6z.set_ | apply c4z | apply c5z | apply keep_alloc) | exact HK.1))) : w.heap.size ≤ gb101) : w0.heap.size ≤ gb101)); have n6_ := a1z.mk ((by rw [hg]; exact Nat.ne_of_lt (IsS76.lt (show IsS76 w0 _ g s0_0 s0_1 from by repeat (first | (with_reducible first | exact HI0.1 | apply IsS76.alloc | apply IsS76.drewN | apply IsS76.drew | apply IsS76.set_1) | exact HI0.1))) : g ≠ gb101)); have n7_ := a1z.mk ((by rw [hg]; exact Nat.ne_of_gt (IsS76.lt (show IsS76 w0 _ g s0_0 s0_1 from by repeat (first | (with_reducible first | exact HI0.1 | apply IsS76.alloc | apply IsS76.drewN | apply IsS76.drew | apply IsS76.set_1) | exact HI0.1))) : gb101 ≠ g)); clear HI0; clear HK; clear HB; have HI0 := n0_; have HK := n1_; have HB := n2_; have BK101 := n3_; have GW101 := n4_; have GE101 := n5_; have NB0_101 := n6_; have NB101_0 := n7_; clear n0_ n1_ n2_ n3_ n4_ n5_ n6_ n7_; clear hb hbox hg) | ((with_reducible refine b8z (f := 78) rfl ?_); refine c8z (some 5) rfl rfl Try.func78 (by kernel_rfl) rfl #[.pointer (some ⟨g, 0, none⟩)] rfl (by (try simp only [List.map_toArray, List.map_cons, List.map_nil]); first | done | rfl | (simp only [List.length_drop, List.length_take]; rfl)) ?_; (with_reducible refine (spec_l12Block.calls k g s0_0 s0_1 t102 t103 t104 w0 _ ?side1 ?side2 A2.1).mono ?_); (case side1 => repeat (first | (with_reducible first | exact HI0.1 | apply IsS76.alloc | apply IsS76.drewN | apply IsS76.drew | apply IsS76.set_1 | refine IsS76.far ?_ NB0_101.1 _) | exact HI0.1)); (case side2 => repeat (first | (with_reducible first | exact HB.1 | apply a3z | apply a0z | apply a2z | refine a6z ?_ (IsS76.ge HI0.1) | refine a6z ?_ GE101.1) | exact HB.1)); rintro e w25 ⟨rfl, hi, hb, hk⟩; refine ⟨_, rfl, ?_⟩; have n0_ := a1z.mk (b6z.blk hk (g' := gb101) (o := .cells #[.int .i64 0, .int .i64 0] 44 (0, 0)) (by (with_reducible repeat (first | refine a8z ?_ _ | refine a9z ?_ | refine a7z ?_ _)); exact BK101.1) NB101_0.1 (by simp)); have n1_ := a1z.mk (b6z.trans (by repeat (first | (with_reducible first | exact HK.1 | apply b6z.set_ | apply c4z | apply c5z | apply keep_alloc | refine e8z ?_ GW101.1 _) | exact HK.1)) hk (.inl rfl)); have n2_ := a1z.mk (hb); have n3_ := a1z.mk (hi); clear BK101; clear HK; clear HB; clear HI0; have BK101 := n0_; have HK := n1_; have HB := n2_; have HI0 := n3_; clear n0_ n1_ n2_ n3_; (try clear hb); (try clear hb2); (try clear hk); (try clear hi)) | ((with_reducible refine d3z (N := 3) rfl ?_); refine d6z ?hg (N := 3) ?hd (cs := #[.int .i64 0, .int .i64 0]) (t := 44) ?hr ?_; (case hd => rfl); (case hg => rfl); (case hr => first | (go_simp; done) | (go_simp; rfl)); intro gb105 hg w26 hbox hb; have n0_ := a1z.mk (IsS76.below (by repeat (first | (with_reducible first | exact HI0.1 | apply IsS76.alloc | apply IsS76.drewN | apply IsS76.drew | apply IsS76.set_1 | refine IsS76.far ?_ NB0_101.1 _) | exact HI0.1)) hb); have n1_ := a1z.mk (d5z (g := gb101) (o := .cells #[.int .i64 0, .int .i64 0] 44 (0, 0)) (by (with_reducible repeat (first | refine a8z ?_ _ | refine a9z ?_ | refine a7z ?_ _)); exact BK101.1) hb); have n2_ := a1z.mk (b6z.trans (by repeat (first | (with_reducible first | exact HK.1 | apply b6z.set_ | apply c4z | apply c5z | apply keep_alloc | refine e8z ?_ GW101.1 _) | exact HK.1)) (b6z.of_below hb g none) (.inl rfl)); have n3_ := a1z.mk (b3z (by repeat (first | (with_reducible first | exact HB.1 | apply a3z | apply a0z | apply a2z | refine a6z ?_ (IsS76.ge HI0.1) | refine a6z ?_ GE101.1) | exact HB.1)) hb); have n4_ := a1z.mk (hbox); have n5_ := a1z.mk ((by rw [hg]; exact (f1z (w := w) (g := g) (row := none) (by repeat (first | (with_reducible first | exact HK.1 | apply b6z.set_ | apply c4z | apply c5z | apply keep_alloc | refine e8z ?_ GW101.1 _) | exact HK.1))) : w.heap.size ≤ gb105)); have n6_ := a1z.mk ((Nat.le_trans HW0.1 (by rw [hg]; exact (f1z (w := w) (g := g) (row := none) (by repeat (first | (with_reducible first | exact HK.1 | apply b6z.set_ | apply c4z | apply c5z | apply keep_alloc | refine e8z ?_ GW101.1 _) | exact HK.1))) : w.heap.size ≤ gb105) : w0.heap.size ≤ gb105)); have n7_ := a1z.mk ((by rw [hg]; exact Nat.ne_of_lt (g8z (g := gb101) (o := .cells #[.int .i64 0, .int .i64 0] 44 (0, 0)) (by (with_reducible repeat (first | refine a8z ?_ _ | refine a9z ?_ | refine a7z ?_ _)); exact BK101.1)) : gb101 ≠ gb105)); have n8_ := a1z.mk ((by rw [hg]; exact Nat.ne_of_gt (g8z (g := gb101) (o := .cells #[.int .i64 0, .int .i64 0] 44 (0, 0)) (by (with_reducible repeat (first | refine a8z ?_ _ | refine a9z ?_ | refine a7z ?_ _)); exact BK101.1)) : gb105 ≠ gb101)); have n9_ := a1z.mk ((by rw [hg]; exact Nat.ne_of_lt (IsS76.lt (show IsS76 w0 _ g s0_0 t104 from by repeat (first | (with_reducible first | exact HI0.1 | apply IsS76.alloc | apply IsS76.drewN | apply IsS76.drew | apply IsS76.set_1 | refine IsS76.far ?_ NB0_101.1 _) | exact HI0.1))) : g ≠ gb105)); have n10_ := a1z.mk ((by rw [hg]; exact Nat.ne_of_gt (IsS76.lt (show IsS76 w0 _ g s0_0 t104 from by repeat (first | (with_reducible first | exact HI0.1 | apply IsS76.alloc | apply IsS76.drewN | apply IsS76.drew | apply IsS76.set_1 | refine IsS76.far ?_ NB0_101.1 _) | exact HI0.1))) : gb105 ≠ g)); clear HI0; clear BK101; clear HK; clear HB; have HI0 := n0_; have BK101 := n1_; have HK := n2_; have HB := n3_; have BK105 := n4_; have GW105 := n5_; have GE105 := n6_; have NB101_105 := n7_; have NB105_101 := n8_; have NB0_105 := n9_; have NB105_0 := n10_; clear n0_ n1_ n2_ n3_ n4_ n5_ n6_ n7_ n8_ n9_ n10_; clear hb hbox hg; have hnb27 := NB105_101.1; have hnc27 := NB101_105.1; have hnb28 := NB105_0.1; have hnc28 := NB0_105.1; have hcz29_0 : w26.cell? ⟨gb105, 0, none⟩ = some (.int .i64 0) := (b1z BK105.1 0).trans rfl; have hcz29_1 : w26.cell? ⟨gb105, 1, none⟩ = some (.int .i64 0) := (b1z BK105.1 1).trans rfl; have hfz29_0 := b5z BK105.1 0; have hfz29_1 := b5z BK105.1 1) | ((with_reducible refine b8z (f := 64) rfl ?_); refine c8z (some 7) rfl rfl Try.func64 (by kernel_rfl) rfl #[.pointer (some ⟨g, 0, none⟩), .int .i64 16] rfl (by (try simp only [List.map_toArray, List.map_cons, List.map_nil]); first | done | rfl | (simp only [List.length_drop, List.length_take]; rfl)) ?_; (with_reducible refine (spec_l1Rd_pick.calls k g s0_0 t104 16 t106 t107 w0 _ ?side1 ?side2 A3.1).mono ?_); (case side1 => repeat (first | (with_reducible first | exact HI0.1 | apply IsS76.alloc | apply IsS76.drewN | apply IsS76.drew | apply IsS76.set_1 | refine IsS76.far ?_ NB0_101.1 _ | refine IsS76.far ?_ NB0_105.1 _) | exact HI0.1)); (case side2 => repeat (first | (with_reducible first | exact HB.1 | apply a3z | apply a0z | apply a2z | refine a6z ?_ (IsS76.ge HI0.1) | refine a6z ?_ GE101.1 | refine a6z ?_ GE105.1) | exact HB.1)); rintro e w30 ⟨rfl, hi, hb, hk⟩; refine ⟨_, rfl, ?_⟩; have n0_ := a1z.mk (b6z.blk hk (g' := gb101) (o := .cells #[.int .i64 0, .int .i64 0] 44 (0, 0)) (by (with_reducible repeat (first | refine a8z ?_ _ | refine a9z ?_ | refine a7z ?_ _)); refine f6z ?_ NB101_105.1 _; (with_reducible repeat (first | refine a8z ?_ _ | refine a9z ?_ | refine a7z ?_ _)); refine f6z ?_ NB101_105.1 _; (with_reducible repeat (first | refine a8z ?_ _ | refine a9z ?_ | refine a7z ?_ _)); exact BK101.1) NB101_0.1 (by simp)); have n1_ := a1z.mk (b6z.blk hk (g' := gb105) (o := .cells #[.int .i64 t102, .int .i64 t103] 44 (0, 0)) (by (with_reducible repeat (first | refine a8z ?_ _ | refine a9z ?_ | refine a7z ?_ _)); refine d0z (cs := #[.int .i64 t102, .int .i64 0]) ?_ 1 _ rfl; (with_reducible repeat (first | refine a8z ?_ _ | refine a9z ?_ | refine a7z ?_ _)); refine d0z (cs := #[.int .i64 0, .int .i64 0]) ?_ 0 _ rfl; (with_reducible repeat (first | refine a8z ?_ _ | refine a9z ?_ | refine a7z ?_ _)); exact BK105.1) NB105_0.1 (by simp)); have n2_ := a1z.mk (b6z.trans (by repeat (first | (with_reducible first | exact HK.1 | apply b6z.set_ | apply c4z | apply c5z | apply keep_alloc | refine e8z ?_ GW101.1 _ | refine e8z ?_ GW105.1 _) | exact HK.1)) hk (.inl rfl)); have n3_ := a1z.mk (hb); have n4_ := a1z.mk (hi); clear BK101; clear BK105; clear HK; clear HB; clear HI0; have BK101 := n0_; have BK105 := n1_; have HK := n2_; have HB := n3_; have HI0 := n4_; clear n0_ n1_ n2_ n3_ n4_; (try clear hb); (try clear hb2); (try clear hk); (try clear hi)) | ((with_reducible refine d3z (N := 20) rfl ?_); refine Kd.R_lit (Kd.int .i64) _ 3 ?hg (N := 20) ?hd (xs := ([(-1), 33, 0, 32] : List Int)) (inner := [.int .i64 (-1), .int .i64 33, .int .i64 0, .int .i64 32]) (ok := fun _ => True) (okp := fun _ => True) ?hr ?hp (fun _ hk => hk) trivial (Below.refl _ _) (Nat.le_refl _) (by simp) ?_; (case hd => rfl); (case hg => rfl); (case hr => first | (go_simp; done) | (go_simp; rfl)); (case hp => exact (Reps.one (show Kd.M (Kd.int .i64) _ _ _ (-1) [.int .i64 (-1)] from rfl) (Reps.one (show Kd.M (Kd.int .i64) _ _ _ 33 [.int .i64 33] from rfl) (Reps.one (show Kd.M (Kd.int .i64) _ _ _ 0 [.int .i64 0] from rfl) (Reps.one (show Kd.M (Kd.int .i64) _ _ _ 32 [.int .i64 32] from rfl) (Reps.none _ _)))))); intro v114 w31 ho32 hb hg_ hnew_; clear hg_ hnew_; (first | rw [← Ny113.1] at ho32 | (simp only [Int.reduceToNat] at ho32; rw [← Ny113.1] at ho32)); have n0_ := a1z.mk (Kd.d4z ho32 (f1z (w := w) (g := g) (row := none) (by repeat (first | (with_reducible first | exact HK.1 | apply b6z.set_ | apply c4z | apply c5z | apply keep_alloc | refine e8z ?_ GW101.1 _ | refine e8z ?_ GW105.1 _) | exact HK.1)))); have n1_ := a1z.mk (IsS76.below (by repeat (first | (with_reducible first | exact HI0.1 | apply IsS76.alloc | apply IsS76.drewN | apply IsS76.drew | apply IsS76.set_1 | refine IsS76.far ?_ NB0_101.1 _ | refine IsS76.far ?_ NB0_105.1 _) | exact HI0.1)) hb); have n2_ := a1z.mk (d5z (g := gb101) (o := .cells #[.int .i64 0, .int .i64 0] 44 (0, 0)) (by (with_reducible repeat (first | refine a8z ?_ _ | refine a9z ?_ | refine a7z ?_ _)); exact BK101.1) hb); have n3_ := a1z.mk (d5z (g := gb105) (o := .cells #[.int .i64 t102, .int .i64 t103] 44 (0, 0)) (by (with_reducible repeat (first | refine a8z ?_ _ | refine a9z ?_ | refine a7z ?_ _)); exact BK105.1) hb); have n4_ := a1z.mk (b6z.trans (by repeat (first | (with_reducible first | exact HK.1 | apply b6z.set_ | apply c4z | apply c5z | apply keep_alloc | refine e8z ?_ GW101.1 _ | refine e8z ?_ GW105.1 _) | exact HK.1)) (b6z.of_below hb g none) (.inl rfl)); have n5_ := a1z.mk (b3z (by repeat (first | (with_reducible first | exact HB.1 | apply a3z | apply a0z | apply a2z | refine a6z ?_ (IsS76.ge HI0.1) | refine a6z ?_ GE101.1 | refine a6z ?_ GE105.1) | exact HB.1)) hb); clear HI0; clear BK101; clear BK105; clear HK; clear HB; have HO115 := n0_; have HI0 := n1_; have BK101 := n2_; have BK105 := n3_; have HK := n4_; have HB := n5_; clear n0_ n1_ n2_ n3_ n4_ n5_; clear hb ho32; obtain ⟨Ao33, co33, eo33⟩ := Kd.e1z HO115.1; subst eo33) | ((with_reducible refine b8z (f := 79) rfl ?_); refine c8z (some 21) rfl rfl Try.func79 (by kernel_rfl) rfl #[.pointer (some ⟨g, 0, none⟩), .slice Ao33 y113.length co33] rfl (by (try simp only [List.map_toArray, List.map_cons, List.map_nil]); first | done | rfl | (simp only [List.length_drop, List.length_take]; rfl)) ?_; (with_reducible refine (spec_l1Rd_one.calls k g s0_0 t107 _ _ y113 t116 t117 w0 _ ?side1 ?side2 ?side3 ?side4 ?side5 A23.1).mono ?_); (case side1 => repeat (first | (with_reducible first | exact HI0.1 | apply IsS76.alloc | apply IsS76.drewN | apply IsS76.drew | apply IsS76.set_1 | refine IsS76.far ?_ NB0_101.1 _ | refine IsS76.far ?_ NB0_105.1 _) | exact HI0.1)); (case side2 => repeat (first | (with_reducible first | exact HB.1 | apply a3z | apply a0z | apply a2z | refine a6z ?_ (IsS76.ge HI0.1) | refine a6z ?_ GE101.1 | refine a6z ?_ GE105.1) | exact HB.1)); (case side3 => repeat (first | exact (Kd.c0z HO115.1).2.2 | (with_reducible refine Kd.C_alloc ?_ _) | (with_reducible refine Kd.C_drewN ?_ _) | (with_reducible refine Kd.C_drew ?_))); (case side4 => exact (Kd.c0z HO115.1).2.1); (case side5 => exact far_slice (IsS76.own_ne HI0.1 HO115.1 (by decide))); rintro e w34 ⟨rfl, hi, hb, hk⟩; refine ⟨_, rfl, ?_⟩; have n0_ := a1z.mk (b6z.blk hk (g' := gb101) (o := .cells #[.int .i64 0, .int .i64 0] 44 (0, 0)) (by (with_reducible repeat (first | refine a8z ?_ _ | refine a9z ?_ | refine a7z ?_ _)); exact BK101.1) NB101_0.1 (by simp)); have n1_ := a1z.mk (b6z.blk hk (g' := gb105) (o := .cells #[.int .i64 t102, .int .i64 t103] 44 (0, 0)) (by (with_reducible repeat (first | refine a8z ?_ _ | refine a9z ?_ | refine a7z ?_ _)); exact BK105.1) NB105_0.1 (by simp)); have n2_ := a1z.mk (Kd.b9z (Kd.R_keep (IsS76.apart (show IsS76 w0 _ g s0_0 t107 from by repeat (first | (with_reducible first | exact HI0.1 | apply IsS76.alloc | apply IsS76.drewN | apply IsS76.drew | apply IsS76.set_1 | refine IsS76.far ?_ NB0_101.1 _ | refine IsS76.far ?_ NB0_105.1 _) | exact HI0.1)) (by (with_reducible repeat (first | apply Kd.R_alloc | apply Kd.a4z | apply Kd.a5z)); exact HO115.1) (by decide)) hk (fun _ h => h.2)) (fun _ h => h.1)); have n3_ := a1z.mk (b6z.trans (by repeat (first | (with_reducible first | exact HK.1 | apply b6z.set_ | apply c4z | apply c5z | apply keep_alloc | refine e8z ?_ GW101.1 _ | refine e8z ?_ GW105.1 _) | exact HK.1)) hk (.inl rfl)); have n4_ := a1z.mk (hb); have n5_ := a1z.mk (hi); clear BK101; clear BK105; clear HO115; clear HK; clear HB; clear HI0; have BK101 := n0_; have BK105 := n1_; have HO115 := n2_; have HK := n3_; have HB := n4_; have HI0 := n5_; clear n0_ n1_ n2_ n3_ n4_ n5_; (try clear hb); (try clear hb2); (try clear hk); (try clear hi); have hcz35_0 : w34.cell? ⟨gb105, 0, none⟩ = some (.int .i64 t102) := (b1z BK105.1 0).trans rfl; have hcz35_1 : w34.cell? ⟨gb105, 1, none⟩ = some (.int .i64 t103) := (b1z BK105.1 1).trans rfl; have hfz35_0 := b5z BK105.1 0; have hfz35_1 := b5z BK105.1 1; have hnb36 := NB101_0.1; have hnc36 := NB0_101.1; have hcz37_0 : w34.cell? ⟨gb101, 0, none⟩ = some (.int .i64 0) := (b1z BK101.1 0).trans rfl; have hcz37_1 : w34.cell? ⟨gb101, 1, none⟩ = some (.int .i64 0) := (b1z BK101.1 1).trans rfl; have hfz37_0 := b5z BK101.1 0; have hfz37_1 := b5z BK101.1 1))
   refine bodyPost_ret (results_cell_row rfl _ _ gb101 44 #[.int .i64 t102, .int .i64 t116] (0, 0) _ rfl (by (with_reducible repeat (first | refine a8z ?_ _ | refine a9z ?_ | refine a7z ?_ _)); refine d0z (cs := #[.int .i64 t102, .int .i64 0]) ?_ 1 _ rfl; (with_reducible repeat (first | refine a8z ?_ _ | refine a9z ?_ | refine a7z ?_ _)); refine d0z (cs := #[.int .i64 0, .int .i64 0]) ?_ 0 _ rfl; (with_reducible repeat (first | refine a8z ?_ _ | refine a9z ?_ | refine a7z ?_ _)); refine f6z ?_ NB101_105.1 _; (with_reducible repeat (first | refine a8z ?_ _ | refine a9z ?_ | refine a7z ?_ _)); exact BK101.1) Try.underlying44 rfl (by kernel_rfl)) rfl ?_
   exact ⟨by first | rfl | (simp [c2z, c1z] <;> rfl) | (simp [*, c2z, c1z] <;> rfl), by repeat (first | (with_reducible first | exact HI0.1 | apply IsS76.alloc | apply IsS76.drewN | apply IsS76.drew | apply IsS76.set_1 | refine IsS76.far ?_ NB0_101.1 _ | refine IsS76.far ?_ NB0_105.1 _) | exact HI0.1), by repeat (first | (with_reducible first | exact HB.1 | apply a3z | apply a0z | apply a2z | refine a6z ?_ (IsS76.ge HI0.1) | refine a6z ?_ GE101.1 | refine a6z ?_ GE105.1) | exact HB.1), by repeat (first | (with_reducible first | exact HK.1 | apply b6z.set_ | apply c4z | apply c5z | apply keep_alloc | refine e8z ?_ GW101.1 _ | refine e8z ?_ GW105.1 _) | exact HK.1)⟩
  ·rw [if_neg c22] at H
   have c22b0 : (t106 == 1) = false := beq_eq_false_iff_ne.mpr c22
   have c22b1 : (t106 != 1) = true := bne_iff_ne.mpr c22
   simp only [Option.some.injEq, Prod.mk.injEq] at H
   obtain ⟨rfl, rfl, rfl⟩ := H
   go_enter Try.func67, Try.ntmps67
   go_wp2_with (first | ((with_reducible refine d3z (N := 2) rfl ?_); refine d6z ?hg (N := 2) ?hd (cs := #[.int .i64 0, .int .i64 0]) (t := 44) ?hr ?_; (case hd => rfl); (case hg => rfl); (case hr => first | (go_simp; done) | (go_simp; rfl)); intro gb101 hg w38 hbox hb; have n0_ := a1z.mk (IsS76.below (by repeat (first | (with_reducible first | exact HI0.1 | apply IsS76.alloc | apply IsS76.drewN | apply IsS76.drew | apply IsS76.set_1) | exact HI0.1)) hb); have n1_ := a1z.mk (b6z.trans (by repeat (first | (with_reducible first | exact HK.1 | apply b6z.set_ | apply c4z | apply c5z | apply keep_alloc) | exact HK.1)) (b6z.of_below hb g none) (.inl rfl)); have n2_ := a1z.mk (b3z (by repeat (first | (with_reducible first | exact HB.1 | apply a3z | apply a0z | apply a2z | refine a6z ?_ (IsS76.ge HI0.1)) | exact HB.1)) hb); have n3_ := a1z.mk (hbox); have n4_ := a1z.mk ((by rw [hg]; exact (f1z (w := w) (g := g) (row := none) (by repeat (first | (with_reducible first | exact HK.1 | apply b6z.set_ | apply c4z | apply c5z | apply keep_alloc) | exact HK.1))) : w.heap.size ≤ gb101)); have n5_ := a1z.mk ((Nat.le_trans HW0.1 (by rw [hg]; exact (f1z (w := w) (g := g) (row := none) (by repeat (first | (with_reducible first | exact HK.1 | apply b6z.set_ | apply c4z | apply c5z | apply keep_alloc) | exact HK.1))) : w.heap.size ≤ gb101) : w0.heap.size ≤ gb101)); have n6_ := a1z.mk ((by rw [hg]; exact Nat.ne_of_lt (IsS76.lt (show IsS76 w0 _ g s0_0 s0_1 from by repeat (first | (with_reducible first | exact HI0.1 | apply IsS76.alloc | apply IsS76.drewN | apply IsS76.drew | apply IsS76.set_1) | exact HI0.1))) : g ≠ gb101)); have n7_ := a1z.mk ((by rw [hg]; exact Nat.ne_of_gt (IsS76.lt (show IsS76 w0 _ g s0_0 s0_1 from by repeat (first | (with_reducible first | exact HI0.1 | apply IsS76.alloc | apply IsS76.drewN | apply IsS76.drew | apply IsS76.set_1) | exact HI0.1))) : gb101 ≠ g)); clear HI0; clear HK; clear HB; have HI0 := n0_; have HK := n1_; have HB := n2_; have BK101 := n3_; have GW101 := n4_; have GE101 := n5_; have NB0_101 := n6_; have NB101_0 := n7_; clear n0_ n1_ n2_ n3_ n4_ n5_ n6_ n7_; clear hb hbox hg) | ((with_reducible refine b8z (f := 78) rfl ?_); refine c8z (some 5) rfl rfl Try.func78 (by kernel_rfl) rfl #[.pointer (some ⟨g, 0, none⟩)] rfl (by (try simp only [List.map_toArray, List.map_cons, List.map_nil]); first | done | rfl | (simp only [List.length_drop, List.length_take]; rfl)) ?_; (with_reducible refine (spec_l12Block.calls k g s0_0 s0_1 t102 t103 t104 w0 _ ?side1 ?side2 A2.1).mono ?_); (case side1 => repeat (first | (with_reducible first | exact HI0.1 | apply IsS76.alloc | apply IsS76.drewN | apply IsS76.drew | apply IsS76.set_1 | refine IsS76.far ?_ NB0_101.1 _) | exact HI0.1)); (case side2 => repeat (first | (with_reducible first | exact HB.1 | apply a3z | apply a0z | apply a2z | refine a6z ?_ (IsS76.ge HI0.1) | refine a6z ?_ GE101.1) | exact HB.1)); rintro e w39 ⟨rfl, hi, hb, hk⟩; refine ⟨_, rfl, ?_⟩; have n0_ := a1z.mk (b6z.blk hk (g' := gb101) (o := .cells #[.int .i64 0, .int .i64 0] 44 (0, 0)) (by (with_reducible repeat (first | refine a8z ?_ _ | refine a9z ?_ | refine a7z ?_ _)); exact BK101.1) NB101_0.1 (by simp)); have n1_ := a1z.mk (b6z.trans (by repeat (first | (with_reducible first | exact HK.1 | apply b6z.set_ | apply c4z | apply c5z | apply keep_alloc | refine e8z ?_ GW101.1 _) | exact HK.1)) hk (.inl rfl)); have n2_ := a1z.mk (hb); have n3_ := a1z.mk (hi); clear BK101; clear HK; clear HB; clear HI0; have BK101 := n0_; have HK := n1_; have HB := n2_; have HI0 := n3_; clear n0_ n1_ n2_ n3_; (try clear hb); (try clear hb2); (try clear hk); (try clear hi)) | ((with_reducible refine d3z (N := 3) rfl ?_); refine d6z ?hg (N := 3) ?hd (cs := #[.int .i64 0, .int .i64 0]) (t := 44) ?hr ?_; (case hd => rfl); (case hg => rfl); (case hr => first | (go_simp; done) | (go_simp; rfl)); intro gb105 hg w40 hbox hb; have n0_ := a1z.mk (IsS76.below (by repeat (first | (with_reducible first | exact HI0.1 | apply IsS76.alloc | apply IsS76.drewN | apply IsS76.drew | apply IsS76.set_1 | refine IsS76.far ?_ NB0_101.1 _) | exact HI0.1)) hb); have n1_ := a1z.mk (d5z (g := gb101) (o := .cells #[.int .i64 0, .int .i64 0] 44 (0, 0)) (by (with_reducible repeat (first | refine a8z ?_ _ | refine a9z ?_ | refine a7z ?_ _)); exact BK101.1) hb); have n2_ := a1z.mk (b6z.trans (by repeat (first | (with_reducible first | exact HK.1 | apply b6z.set_ | apply c4z | apply c5z | apply keep_alloc | refine e8z ?_ GW101.1 _) | exact HK.1)) (b6z.of_below hb g none) (.inl rfl)); have n3_ := a1z.mk (b3z (by repeat (first | (with_reducible first | exact HB.1 | apply a3z | apply a0z | apply a2z | refine a6z ?_ (IsS76.ge HI0.1) | refine a6z ?_ GE101.1) | exact HB.1)) hb); have n4_ := a1z.mk (hbox); have n5_ := a1z.mk ((by rw [hg]; exact (f1z (w := w) (g := g) (row := none) (by repeat (first | (with_reducible first | exact HK.1 | apply b6z.set_ | apply c4z | apply c5z | apply keep_alloc | refine e8z ?_ GW101.1 _) | exact HK.1))) : w.heap.size ≤ gb105)); have n6_ := a1z.mk ((Nat.le_trans HW0.1 (by rw [hg]; exact (f1z (w := w) (g := g) (row := none) (by repeat (first | (with_reducible first | exact HK.1 | apply b6z.set_ | apply c4z | apply c5z | apply keep_alloc | refine e8z ?_ GW101.1 _) | exact HK.1))) : w.heap.size ≤ gb105) : w0.heap.size ≤ gb105)); have n7_ := a1z.mk ((by rw [hg]; exact Nat.ne_of_lt (g8z (g := gb101) (o := .cells #[.int .i64 0, .int .i64 0] 44 (0, 0)) (by (with_reducible repeat (first | refine a8z ?_ _ | refine a9z ?_ | refine a7z ?_ _)); exact BK101.1)) : gb101 ≠ gb105)); have n8_ := a1z.mk ((by rw [hg]; exact Nat.ne_of_gt (g8z (g := gb101) (o := .cells #[.int .i64 0, .int .i64 0] 44 (0, 0)) (by (with_reducible repeat (first | refine a8z ?_ _ | refine a9z ?_ | refine a7z ?_ _)); exact BK101.1)) : gb105 ≠ gb101)); have n9_ := a1z.mk ((by rw [hg]; exact Nat.ne_of_lt (IsS76.lt (show IsS76 w0 _ g s0_0 t104 from by repeat (first | (with_reducible first | exact HI0.1 | apply IsS76.alloc | apply IsS76.drewN | apply IsS76.drew | apply IsS76.set_1 | refine IsS76.far ?_ NB0_101.1 _) | exact HI0.1))) : g ≠ gb105)); have n10_ := a1z.mk ((by rw [hg]; exact Nat.ne_of_gt (IsS76.lt (show IsS76 w0 _ g s0_0 t104 from by repeat (first | (with_reducible first | exact HI0.1 | apply IsS76.alloc | apply IsS76.drewN | apply IsS76.drew | apply IsS76.set_1 | refine IsS76.far ?_ NB0_101.1 _) | exact HI0.1))) : gb105 ≠ g)); clear HI0; clear BK101; clear HK; clear HB; have HI0 := n0_; have BK101 := n1_; have HK := n2_; have HB := n3_; have BK105 := n4_; have GW105 := n5_; have GE105 := n6_; have NB101_105 := n7_; have NB105_101 := n8_; have NB0_105 := n9_; have NB105_0 := n10_; clear n0_ n1_ n2_ n3_ n4_ n5_ n6_ n7_ n8_ n9_ n10_; clear hb hbox hg; have hnb41 := NB105_101.1; have hnc41 := NB101_105.1; have hnb42 := NB105_0.1; have hnc42 := NB0_105.1; have hcz43_0 : w40.cell? ⟨gb105, 0, none⟩ = some (.int .i64 0) := (b1z BK105.1 0).trans rfl; have hcz43_1 : w40.cell? ⟨gb105, 1, none⟩ = some (.int .i64 0) := (b1z BK105.1 1).trans rfl; have hfz43_0 := b5z BK105.1 0; have hfz43_1 := b5z BK105.1 1) | ((with_reducible refine b8z (f := 64) rfl ?_); refine c8z (some 7) rfl rfl Try.func64 (by kernel_rfl) rfl #[.pointer (some ⟨g, 0, none⟩), .int .i64 16] rfl (by (try simp only [List.map_toArray, List.map_cons, List.map_nil]); first | done | rfl | (simp only [List.length_drop, List.length_take]; rfl)) ?_; (with_reducible refine (spec_l1Rd_pick.calls k g s0_0 t104 16 t106 t107 w0 _ ?side1 ?side2 A3.1).mono ?_); (case side1 => repeat (first | (with_reducible first | exact HI0.1 | apply IsS76.alloc | apply IsS76.drewN | apply IsS76.drew | apply IsS76.set_1 | refine IsS76.far ?_ NB0_101.1 _ | refine IsS76.far ?_ NB0_105.1 _) | exact HI0.1)); (case side2 => repeat (first | (with_reducible first | exact HB.1 | apply a3z | apply a0z | apply a2z | refine a6z ?_ (IsS76.ge HI0.1) | refine a6z ?_ GE101.1 | refine a6z ?_ GE105.1) | exact HB.1)); rintro e w44 ⟨rfl, hi, hb, hk⟩; refine ⟨_, rfl, ?_⟩; have n0_ := a1z.mk (b6z.blk hk (g' := gb101) (o := .cells #[.int .i64 0, .int .i64 0] 44 (0, 0)) (by (with_reducible repeat (first | refine a8z ?_ _ | refine a9z ?_ | refine a7z ?_ _)); refine f6z ?_ NB101_105.1 _; (with_reducible repeat (first | refine a8z ?_ _ | refine a9z ?_ | refine a7z ?_ _)); refine f6z ?_ NB101_105.1 _; (with_reducible repeat (first | refine a8z ?_ _ | refine a9z ?_ | refine a7z ?_ _)); exact BK101.1) NB101_0.1 (by simp)); have n1_ := a1z.mk (b6z.blk hk (g' := gb105) (o := .cells #[.int .i64 t102, .int .i64 t103] 44 (0, 0)) (by (with_reducible repeat (first | refine a8z ?_ _ | refine a9z ?_ | refine a7z ?_ _)); refine d0z (cs := #[.int .i64 t102, .int .i64 0]) ?_ 1 _ rfl; (with_reducible repeat (first | refine a8z ?_ _ | refine a9z ?_ | refine a7z ?_ _)); refine d0z (cs := #[.int .i64 0, .int .i64 0]) ?_ 0 _ rfl; (with_reducible repeat (first | refine a8z ?_ _ | refine a9z ?_ | refine a7z ?_ _)); exact BK105.1) NB105_0.1 (by simp)); have n2_ := a1z.mk (b6z.trans (by repeat (first | (with_reducible first | exact HK.1 | apply b6z.set_ | apply c4z | apply c5z | apply keep_alloc | refine e8z ?_ GW101.1 _ | refine e8z ?_ GW105.1 _) | exact HK.1)) hk (.inl rfl)); have n3_ := a1z.mk (hb); have n4_ := a1z.mk (hi); clear BK101; clear BK105; clear HK; clear HB; clear HI0; have BK101 := n0_; have BK105 := n1_; have HK := n2_; have HB := n3_; have HI0 := n4_; clear n0_ n1_ n2_ n3_ n4_; (try clear hb); (try clear hb2); (try clear hk); (try clear hi); have hcz45_0 : w44.cell? ⟨gb105, 0, none⟩ = some (.int .i64 t102) := (b1z BK105.1 0).trans rfl; have hcz45_1 : w44.cell? ⟨gb105, 1, none⟩ = some (.int .i64 t103) := (b1z BK105.1 1).trans rfl; have hfz45_0 := b5z BK105.1 0; have hfz45_1 := b5z BK105.1 1; have hnb46 := NB101_0.1; have hnc46 := NB0_101.1; have hcz47_0 : w44.cell? ⟨gb101, 0, none⟩ = some (.int .i64 0) := (b1z BK101.1 0).trans rfl; have hcz47_1 : w44.cell? ⟨gb101, 1, none⟩ = some (.int .i64 0) := (b1z BK101.1 1).trans rfl; have hfz47_0 := b5z BK101.1 0; have hfz47_1 := b5z BK101.1 1))
   refine bodyPost_ret (results_cell_row rfl _ _ gb101 44 #[.int .i64 t102, .int .i64 t103] (0, 0) _ rfl (by (with_reducible repeat (first | refine a8z ?_ _ | refine a9z ?_ | refine a7z ?_ _)); refine d0z (cs := #[.int .i64 t102, .int .i64 0]) ?_ 1 _ rfl; (with_reducible repeat (first | refine a8z ?_ _ | refine a9z ?_ | refine a7z ?_ _)); refine d0z (cs := #[.int .i64 0, .int .i64 0]) ?_ 0 _ rfl; (with_reducible repeat (first | refine a8z ?_ _ | refine a9z ?_ | refine a7z ?_ _)); exact BK101.1) Try.underlying44 rfl (by kernel_rfl)) rfl ?_
   exact ⟨by first | rfl | (simp [c2z, c1z] <;> rfl) | (simp [*, c2z, c1z] <;> rfl), by repeat (first | (with_reducible first | exact HI0.1 | apply IsS76.alloc | apply IsS76.drewN | apply IsS76.drew | apply IsS76.set_1 | refine IsS76.far ?_ NB0_101.1 _ | refine IsS76.far ?_ NB0_105.1 _) | exact HI0.1), by repeat (first | (with_reducible first | exact HB.1 | apply a3z | apply a0z | apply a2z | refine a6z ?_ (IsS76.ge HI0.1) | refine a6z ?_ GE101.1 | refine a6z ?_ GE105.1) | exact HB.1), by repeat (first | (with_reducible first | exact HK.1 | apply b6z.set_ | apply c4z | apply c5z | apply keep_alloc | refine e8z ?_ GW101.1 _ | refine e8z ?_ GW105.1 _) | exact HK.1)⟩
end Go.Proofs.Ytmdhedkgpgoneaa.Q

namespace Go.Proofs.Ytmdhedkgpgoneaa.Q
open Go.RowKit Go.Proofs.YtmdhedkgpgoneaaW.PrintWords Go.Proofs.YtmdhedkgpgoneaaW.PrintLast Go.Proofs.YtmdhedkgpgoneaaW.PrintMore
attribute [local go_sem] e0z d8z e7z e6z d2z d1z d9z d7z
set_option linter.unusedVariables false
set_option linter.unusedSimpArgs false
def spec_l12AnySet.f (k : Nat) (s0_0 : List Int) (s0_1 : Int) : Option ((List (S44)) × Int) := (spec_l1Rd_pick.f k s0_0 s0_1 8).bind fun bt101 => (if bt101.1 = 0 then ((spec_l12Blocks.f k s0_0 bt101.2).bind fun bt103 => (some (bt103.1, bt103.2))) else (if bt101.1 = 1 then ((spec_l12Set.f k s0_0 bt101.2).bind fun bt107 => ((spec_l12AnyBlock.f k s0_0 bt107.2).bind fun bt111 => (if bt107.1.length < 8796093022208 then (some ((bt107.1 ++ [(⟨bt111.1, bt111.2.1⟩ : S44)]), bt111.2.2)) else (none)))) else ((spec_l12Set.f k s0_0 bt101.2).bind fun bt117 => (some (bt117.1, bt117.2)))))
set_option maxHeartbeats 8000000 in
set_option maxRecDepth 100000 in
theorem spec_l12AnySet.calls (k : Nat) (g : Nat) (s0_0 : List Int) (s0_1 : Int) (r1 : List (S44)) (r2 : Int) (w0 w : World) (hI : IsS76 w0 w g s0_0 s0_1) (hB : Below w0.heap.size w0 w) (h : spec_l12AnySet.f k s0_0 s0_1 = some (r1, r2)) :
  Calls Try.prog 49 #[.pointer (some ⟨g, 0, none⟩)] w fun e w' => ∃ v0_ : Value, e = .returned (v0_) ∧ Kd.R k44 44 w' w.heap.size (fun _ => True) v0_ r1 ∧ IsS76 w0 w' g s0_0 r2 ∧ Below w0.heap.size w0 w' ∧ b6z w w' g none := by
 have HI0 := a1z.mk hI
 have HK := a1z.mk (b6z.refl w g none)
 have HL := a1z.mk hB.size
 clear hI
 have HW0 := a1z.mk hB.size
 have HB := a1z.mk hB
 clear hB
 have H : ((spec_l1Rd_pick.f k s0_0 s0_1 8).bind fun bt101 => (if bt101.1 = 0 then ((spec_l12Blocks.f k s0_0 bt101.2).bind fun bt103 => (some (bt103.1, bt103.2))) else (if bt101.1 = 1 then ((spec_l12Set.f k s0_0 bt101.2).bind fun bt107 => ((spec_l12AnyBlock.f k s0_0 bt107.2).bind fun bt111 => (if bt107.1.length < 8796093022208 then (some ((bt107.1 ++ [(⟨bt111.1, bt111.2.1⟩ : S44)]), bt111.2.2)) else (none)))) else ((spec_l12Set.f k s0_0 bt101.2).bind fun bt117 => (some (bt117.1, bt117.2)))))) = some (r1, r2) := h
 clear h
 replace H := Option.bind_eq_some_iff.mp H
 obtain ⟨⟨t101, t102⟩, A20, H⟩ := H
 replace H : (if t101 = 0 then ((spec_l12Blocks.f k s0_0 t102).bind fun bt103 => (some (bt103.1, bt103.2))) else (if t101 = 1 then ((spec_l12Set.f k s0_0 t102).bind fun bt107 => ((spec_l12AnyBlock.f k s0_0 bt107.2).bind fun bt111 => (if bt107.1.length < 8796093022208 then (some ((bt107.1 ++ [(⟨bt111.1, bt111.2.1⟩ : S44)]), bt111.2.2)) else (none)))) else ((spec_l12Set.f k s0_0 t102).bind fun bt117 => (some (bt117.1, bt117.2))))) = some (r1, r2) := H
 have A2 := a1z.mk A20
 clear A20
 by_cases c3 : t101 = 0
 ·rw [if_pos c3] at H
  have c3b0 : (t101 == 0) = true := beq_iff_eq.mpr c3
  have c3b1 : (t101 != 0) = false := bne_eq_false_iff_eq.mpr c3
  clear c3
  replace H := Option.bind_eq_some_iff.mp H
  obtain ⟨⟨t103, t106⟩, A40, H⟩ := H
  replace H : (some (t103, t106)) = some (r1, r2) := H
  have A4 := a1z.mk A40
  clear A40
  simp only [Option.some.injEq, Prod.mk.injEq] at H
  obtain ⟨rfl, rfl⟩ := H
  go_enter Try.func49, Try.ntmps49
  go_wp2_with (first | ((with_reducible refine b8z (f := 64) rfl ?_); refine c8z (some 4) rfl rfl Try.func64 (by kernel_rfl) rfl #[.pointer (some ⟨g, 0, none⟩), .int .i64 8] rfl (by (try simp only [List.map_toArray, List.map_cons, List.map_nil]); first | done | rfl | (simp only [List.length_drop, List.length_take]; rfl)) ?_; (with_reducible refine (spec_l1Rd_pick.calls k g s0_0 s0_1 8 t101 t102 w0 _ ?side1 ?side2 A2.1).mono ?_); (case side1 => repeat (first | (with_reducible first | exact HI0.1 | apply IsS76.alloc | apply IsS76.drewN | apply IsS76.drew | apply IsS76.set_1) | exact HI0.1)); (case side2 => repeat (first | (with_reducible first | exact HB.1 | apply a3z | apply a0z | apply a2z | refine a6z ?_ (IsS76.ge HI0.1)) | exact HB.1)); rintro e w5 ⟨rfl, hi, hb, hk⟩; refine ⟨_, rfl, ?_⟩; have n0_ := a1z.mk (b6z.trans (by repeat (first | (with_reducible first | exact HK.1 | apply b6z.set_ | apply c4z | apply c5z | apply keep_alloc) | exact HK.1)) hk (.inl rfl)); have n1_ := a1z.mk (hb); have n2_ := a1z.mk (hi); clear HK; clear HB; clear HI0; have HK := n0_; have HB := n1_; have HI0 := n2_; clear n0_ n1_ n2_; (try clear hb); (try clear hb2); (try clear hk); (try clear hi)) | ((with_reducible refine b8z (f := 65) rfl ?_); refine c8z (some 8) rfl rfl Try.func65 (by kernel_rfl) rfl #[.pointer (some ⟨g, 0, none⟩)] rfl (by (try simp only [List.map_toArray, List.map_cons, List.map_nil]); first | done | rfl | (simp only [List.length_drop, List.length_take]; rfl)) ?_; (with_reducible refine (spec_l12Blocks.calls k g s0_0 t102 t103 t106 w0 _ ?side1 ?side2 A4.1).mono ?_); (case side1 => repeat (first | (with_reducible first | exact HI0.1 | apply IsS76.alloc | apply IsS76.drewN | apply IsS76.drew | apply IsS76.set_1) | exact HI0.1)); (case side2 => repeat (first | (with_reducible first | exact HB.1 | apply a3z | apply a0z | apply a2z | refine a6z ?_ (IsS76.ge HI0.1)) | exact HB.1)); rintro e w6 ⟨v104, rfl, ho0, hi, hb, hk⟩; refine ⟨_, rfl, ?_⟩; have n0_ := a1z.mk (Kd.d4z ho0 (f1z (w := w) (g := g) (row := none) (by repeat (first | (with_reducible first | exact HK.1 | apply b6z.set_ | apply c4z | apply c5z | apply keep_alloc) | exact HK.1)))); have n1_ := a1z.mk (b6z.trans (by repeat (first | (with_reducible first | exact HK.1 | apply b6z.set_ | apply c4z | apply c5z | apply keep_alloc) | exact HK.1)) hk (.inl rfl)); have n2_ := a1z.mk (hb); have n3_ := a1z.mk (hi); clear HK; clear HB; clear HI0; have HO105 := n0_; have HK := n1_; have HB := n2_; have HI0 := n3_; clear n0_ n1_ n2_ n3_; (try clear hb); (try clear hb2); (try clear hk); (try clear hi); (try clear ho0)))
  go_ret
  exact ⟨_, by first | rfl | (simp [c2z, c1z] <;> rfl) | (simp [*, c2z, c1z] <;> rfl), by (with_reducible repeat (first | apply Kd.R_alloc | apply Kd.a4z | apply Kd.a5z)); exact HO105.1, by repeat (first | (with_reducible first | exact HI0.1 | apply IsS76.alloc | apply IsS76.drewN | apply IsS76.drew | apply IsS76.set_1) | exact HI0.1), by repeat (first | (with_reducible first | exact HB.1 | apply a3z | apply a0z | apply a2z | refine a6z ?_ (IsS76.ge HI0.1)) | exact HB.1), by repeat (first | (with_reducible first | exact HK.1 | apply b6z.set_ | apply c4z | apply c5z | apply keep_alloc) | exact HK.1)⟩
 ·rw [if_neg c3] at H
  have c3b0 : (t101 == 0) = false := beq_eq_false_iff_ne.mpr c3
  have c3b1 : (t101 != 0) = true := bne_iff_ne.mpr c3
  by_cases c7 : t101 = 1
  ·rw [if_pos c7] at H
   have c7b0 : (t101 == 1) = true := beq_iff_eq.mpr c7
   have c7b1 : (t101 != 1) = false := bne_eq_false_iff_eq.mpr c7
   clear c7
   replace H := Option.bind_eq_some_iff.mp H
   obtain ⟨⟨t107, t110⟩, A80, H⟩ := H
   replace H : ((spec_l12AnyBlock.f k s0_0 t110).bind fun bt111 => (if t107.length < 8796093022208 then (some ((t107 ++ [(⟨bt111.1, bt111.2.1⟩ : S44)]), bt111.2.2)) else (none))) = some (r1, r2) := H
   have A8 := a1z.mk A80
   clear A80
   replace H := Option.bind_eq_some_iff.mp H
   obtain ⟨⟨t111, t112, t113⟩, A90, H⟩ := H
   replace H : (if t107.length < 8796093022208 then (some ((t107 ++ [(⟨t111, t112⟩ : S44)]), t113)) else (none)) = some (r1, r2) := H
   have A9 := a1z.mk A90
   clear A90
   by_cases c10 : t107.length < 8796093022208
   ·rw [if_pos c10] at H
    have LMc10 := a1z.mk c10
    clear c10
    obtain ⟨y114, hy114⟩ : ∃ y_ : List (S44), y_ = (t107 ++ [(⟨t111, t112⟩ : S44)]) := ⟨_, rfl⟩
    replace H : (some (y114, t113)) = some (r1, r2) := by first | (rw [hy114]; with_reducible exact H) | (have H2_ := (Option.bind_some _ _).symm.trans H; rw [hy114]; with_reducible exact H2_) | (have H2_ := (Option.bind_some _ _).symm.trans H; with_reducible exact H2_) | with_reducible exact H | (rw [hy114]; exact H) | exact H
    have Ny114 := a1z.mk hy114
    clear hy114
    simp only [Option.some.injEq, Prod.mk.injEq] at H
    obtain ⟨rfl, rfl⟩ := H
    go_enter Try.func49, Try.ntmps49
    go_wp2_with (first | ((with_reducible refine b8z (f := 64) rfl ?_); refine c8z (some 4) rfl rfl Try.func64 (by kernel_rfl) rfl #[.pointer (some ⟨g, 0, none⟩), .int .i64 8] rfl (by (try simp only [List.map_toArray, List.map_cons, List.map_nil]); first | done | rfl | (simp only [List.length_drop, List.length_take]; rfl)) ?_; (with_reducible refine (spec_l1Rd_pick.calls k g s0_0 s0_1 8 t101 t102 w0 _ ?side1 ?side2 A2.1).mono ?_); (case side1 => repeat (first | (with_reducible first | exact HI0.1 | apply IsS76.alloc | apply IsS76.drewN | apply IsS76.drew | apply IsS76.set_1) | exact HI0.1)); (case side2 => repeat (first | (with_reducible first | exact HB.1 | apply a3z | apply a0z | apply a2z | refine a6z ?_ (IsS76.ge HI0.1)) | exact HB.1)); rintro e w11 ⟨rfl, hi, hb, hk⟩; refine ⟨_, rfl, ?_⟩; have n0_ := a1z.mk (b6z.trans (by repeat (first | (with_reducible first | exact HK.1 | apply b6z.set_ | apply c4z | apply c5z | apply keep_alloc) | exact HK.1)) hk (.inl rfl)); have n1_ := a1z.mk (hb); have n2_ := a1z.mk (hi); clear HK; clear HB; clear HI0; have HK := n0_; have HB := n1_; have HI0 := n2_; clear n0_ n1_ n2_; (try clear hb); (try clear hb2); (try clear hk); (try clear hi)) | ((with_reducible refine b8z (f := 66) rfl ?_); refine c8z (some 12) rfl rfl Try.func66 (by kernel_rfl) rfl #[.pointer (some ⟨g, 0, none⟩)] rfl (by (try simp only [List.map_toArray, List.map_cons, List.map_nil]); first | done | rfl | (simp only [List.length_drop, List.length_take]; rfl)) ?_; (with_reducible refine (spec_l12Set.calls k g s0_0 t102 t107 t110 w0 _ ?side1 ?side2 A8.1).mono ?_); (case side1 => repeat (first | (with_reducible first | exact HI0.1 | apply IsS76.alloc | apply IsS76.drewN | apply IsS76.drew | apply IsS76.set_1) | exact HI0.1)); (case side2 => repeat (first | (with_reducible first | exact HB.1 | apply a3z | apply a0z | apply a2z | refine a6z ?_ (IsS76.ge HI0.1)) | exact HB.1)); rintro e w12 ⟨v108, rfl, ho0, hi, hb, hk⟩; refine ⟨_, rfl, ?_⟩; have n0_ := a1z.mk (Kd.d4z ho0 (f1z (w := w) (g := g) (row := none) (by repeat (first | (with_reducible first | exact HK.1 | apply b6z.set_ | apply c4z | apply c5z | apply keep_alloc) | exact HK.1)))); have n1_ := a1z.mk (b6z.trans (by repeat (first | (with_reducible first | exact HK.1 | apply b6z.set_ | apply c4z | apply c5z | apply keep_alloc) | exact HK.1)) hk (.inl rfl)); have n2_ := a1z.mk (hb); have n3_ := a1z.mk (hi); clear HK; clear HB; clear HI0; have HO109 := n0_; have HK := n1_; have HB := n2_; have HI0 := n3_; clear n0_ n1_ n2_ n3_; (try clear hb); (try clear hb2); (try clear hk); (try clear hi); (try clear ho0)) | ((with_reducible refine b8z (f := 67) rfl ?_); refine c8z (some 14) rfl rfl Try.func67 (by kernel_rfl) rfl #[.pointer (some ⟨g, 0, none⟩)] rfl (by (try simp only [List.map_toArray, List.map_cons, List.map_nil]); first | done | rfl | (simp only [List.length_drop, List.length_take]; rfl)) ?_; (with_reducible refine (spec_l12AnyBlock.calls k g s0_0 t110 t111 t112 t113 w0 _ ?side1 ?side2 A9.1).mono ?_); (case side1 => repeat (first | (with_reducible first | exact HI0.1 | apply IsS76.alloc | apply IsS76.drewN | apply IsS76.drew | apply IsS76.set_1) | exact HI0.1)); (case side2 => repeat (first | (with_reducible first | exact HB.1 | apply a3z | apply a0z | apply a2z | refine a6z ?_ (IsS76.ge HI0.1)) | exact HB.1)); rintro e w13 ⟨rfl, hi, hb, hk⟩; refine ⟨_, rfl, ?_⟩; have n0_ := a1z.mk (Kd.b9z (Kd.R_keep (IsS76.apart (show IsS76 w0 _ g s0_0 t110 from by repeat (first | (with_reducible first | exact HI0.1 | apply IsS76.alloc | apply IsS76.drewN | apply IsS76.drew | apply IsS76.set_1) | exact HI0.1)) (by (with_reducible repeat (first | apply Kd.R_alloc | apply Kd.a4z | apply Kd.a5z)); exact HO109.1) (by decide)) hk (fun _ h => h.2)) (fun _ h => h.1)); have n1_ := a1z.mk (b6z.trans (by repeat (first | (with_reducible first | exact HK.1 | apply b6z.set_ | apply c4z | apply c5z | apply keep_alloc) | exact HK.1)) hk (.inl rfl)); have n2_ := a1z.mk (hb); have n3_ := a1z.mk (hi); clear HO109; clear HK; clear HB; clear HI0; have HO109 := n0_; have HK := n1_; have HB := n2_; have HI0 := n3_; clear n0_ n1_ n2_ n3_; (try clear hb); (try clear hb2); (try clear hk); (try clear hi)) | ((with_reducible refine e9z (b := .append) (xs := #[.tmp 12, .tmp 15]) rfl ?_); at_builtin; refine Kd.g4z k44 w.heap.size rfl (.tmp 12) (.tmp 15) 25 44 (.agg #[(.int .i64 0), (.int .i64 0)]) 16 rfl Try.underlying25 info44 rfl (by decide) (by omega) v108 t107 (⟨t111, t112⟩ : S44) [.int .i64 t111, .int .i64 t112] (fun _ => True) (fun _ => False) rfl rfl ?aP (fun _ hk => hk.elim) ?aF ?aO (Below.refl _ _) ?aS ?aL ?_; (case aP => exact k44_mkM _ _ _ (⟨t111, t112⟩ : S44)); (case aF => exact (fun _ _ => trivial)); (case aO => exact (by (with_reducible repeat (first | apply Kd.R_alloc | apply Kd.a4z | apply Kd.a5z)); exact HO109.1)); (case aS => exact (f1z (w := w) (g := g) (row := none) (by repeat (first | (with_reducible first | exact HK.1 | apply b6z.set_ | apply c4z | apply c5z | apply keep_alloc) | exact HK.1)))); (case aL => have := LMc10.1; omega); intro v115 w14 ho hb hg hat; rw [← Ny114.1] at ho; have n0_ := a1z.mk (IsS76.grown (by repeat (first | (with_reducible first | exact HI0.1 | apply IsS76.alloc | apply IsS76.drewN | apply IsS76.drew | apply IsS76.set_1) | exact HI0.1)) hg (IsS76.own_ne HI0.1 HO109.1 (by decide))); have n1_ := a1z.mk (below_weaken (by repeat (first | (with_reducible first | exact HB.1 | apply a3z | apply a0z | apply a2z | refine a6z ?_ (IsS76.ge HI0.1)) | exact HB.1)) HL.1 hb); have n2_ := a1z.mk (b6z.trans (by repeat (first | (with_reducible first | exact HK.1 | apply b6z.set_ | apply c4z | apply c5z | apply keep_alloc) | exact HK.1)) (b6z.of_grown hg g) (Kd.R_base2 HO109.1)); have n3_ := a1z.mk (ho); clear HI0; clear HB; clear HK; clear HO109; have HI0 := n0_; have HB := n1_; have HK := n2_; have HO116 := n3_; clear n0_ n1_ n2_ n3_; clear ho hb hg hat))
    go_ret
    exact ⟨_, by first | rfl | (simp [c2z, c1z] <;> rfl) | (simp [*, c2z, c1z] <;> rfl), by (with_reducible repeat (first | apply Kd.R_alloc | apply Kd.a4z | apply Kd.a5z)); exact HO116.1, by repeat (first | (with_reducible first | exact HI0.1 | apply IsS76.alloc | apply IsS76.drewN | apply IsS76.drew | apply IsS76.set_1) | exact HI0.1), by repeat (first | (with_reducible first | exact HB.1 | apply a3z | apply a0z | apply a2z | refine a6z ?_ (IsS76.ge HI0.1)) | exact HB.1), by repeat (first | (with_reducible first | exact HK.1 | apply b6z.set_ | apply c4z | apply c5z | apply keep_alloc) | exact HK.1)⟩
   ·rw [if_neg c10] at H
    exact absurd H (by simp)
  ·rw [if_neg c7] at H
   have c7b0 : (t101 == 1) = false := beq_eq_false_iff_ne.mpr c7
   have c7b1 : (t101 != 1) = true := bne_iff_ne.mpr c7
   replace H := Option.bind_eq_some_iff.mp H
   obtain ⟨⟨t117, t120⟩, A150, H⟩ := H
   replace H : (some (t117, t120)) = some (r1, r2) := H
   have A15 := a1z.mk A150
   clear A150
   simp only [Option.some.injEq, Prod.mk.injEq] at H
   obtain ⟨rfl, rfl⟩ := H
   go_enter Try.func49, Try.ntmps49
   go_wp2_with (first | ((with_reducible refine b8z (f := 64) rfl ?_); refine c8z (some 4) rfl rfl Try.func64 (by kernel_rfl) rfl #[.pointer (some ⟨g, 0, none⟩), .int .i64 8] rfl (by (try simp only [List.map_toArray, List.map_cons, List.map_nil]); first | done | rfl | (simp only [List.length_drop, List.length_take]; rfl)) ?_; (with_reducible refine (spec_l1Rd_pick.calls k g s0_0 s0_1 8 t101 t102 w0 _ ?side1 ?side2 A2.1).mono ?_); (case side1 => repeat (first | (with_reducible first | exact HI0.1 | apply IsS76.alloc | apply IsS76.drewN | apply IsS76.drew | apply IsS76.set_1) | exact HI0.1)); (case side2 => repeat (first | (with_reducible first | exact HB.1 | apply a3z | apply a0z | apply a2z | refine a6z ?_ (IsS76.ge HI0.1)) | exact HB.1)); rintro e w16 ⟨rfl, hi, hb, hk⟩; refine ⟨_, rfl, ?_⟩; have n0_ := a1z.mk (b6z.trans (by repeat (first | (with_reducible first | exact HK.1 | apply b6z.set_ | apply c4z | apply c5z | apply keep_alloc) | exact HK.1)) hk (.inl rfl)); have n1_ := a1z.mk (hb); have n2_ := a1z.mk (hi); clear HK; clear HB; clear HI0; have HK := n0_; have HB := n1_; have HI0 := n2_; clear n0_ n1_ n2_; (try clear hb); (try clear hb2); (try clear hk); (try clear hi)) | ((with_reducible refine b8z (f := 66) rfl ?_); refine c8z (some 18) rfl rfl Try.func66 (by kernel_rfl) rfl #[.pointer (some ⟨g, 0, none⟩)] rfl (by (try simp only [List.map_toArray, List.map_cons, List.map_nil]); first | done | rfl | (simp only [List.length_drop, List.length_take]; rfl)) ?_; (with_reducible refine (spec_l12Set.calls k g s0_0 t102 t117 t120 w0 _ ?side1 ?side2 A15.1).mono ?_); (case side1 => repeat (first | (with_reducible first | exact HI0.1 | apply IsS76.alloc | apply IsS76.drewN | apply IsS76.drew | apply IsS76.set_1) | exact HI0.1)); (case side2 => repeat (first | (with_reducible first | exact HB.1 | apply a3z | apply a0z | apply a2z | refine a6z ?_ (IsS76.ge HI0.1)) | exact HB.1)); rintro e w17 ⟨v118, rfl, ho0, hi, hb, hk⟩; refine ⟨_, rfl, ?_⟩; have n0_ := a1z.mk (Kd.d4z ho0 (f1z (w := w) (g := g) (row := none) (by repeat (first | (with_reducible first | exact HK.1 | apply b6z.set_ | apply c4z | apply c5z | apply keep_alloc) | exact HK.1)))); have n1_ := a1z.mk (b6z.trans (by repeat (first | (with_reducible first | exact HK.1 | apply b6z.set_ | apply c4z | apply c5z | apply keep_alloc) | exact HK.1)) hk (.inl rfl)); have n2_ := a1z.mk (hb); have n3_ := a1z.mk (hi); clear HK; clear HB; clear HI0; have HO119 := n0_; have HK := n1_; have HB := n2_; have HI0 := n3_; clear n0_ n1_ n2_ n3_; (try clear hb); (try clear hb2); (try clear hk); (try clear hi); (try clear ho0)))
   go_ret
   exact ⟨_, by first | rfl | (simp [c2z, c1z] <;> rfl) | (simp [*, c2z, c1z] <;> rfl), by (with_reducible repeat (first | apply Kd.R_alloc | apply Kd.a4z | apply Kd.a5z)); exact HO119.1, by repeat (first | (with_reducible first | exact HI0.1 | apply IsS76.alloc | apply IsS76.drewN | apply IsS76.drew | apply IsS76.set_1) | exact HI0.1), by repeat (first | (with_reducible first | exact HB.1 | apply a3z | apply a0z | apply a2z | refine a6z ?_ (IsS76.ge HI0.1)) | exact HB.1), by repeat (first | (with_reducible first | exact HK.1 | apply b6z.set_ | apply c4z | apply c5z | apply keep_alloc) | exact HK.1)⟩
end Go.Proofs.Ytmdhedkgpgoneaa.Q

namespace Go.Proofs.Ytmdhedkgpgoneaa.Q
open Go.RowKit Go.Proofs.YtmdhedkgpgoneaaW.PrintWords Go.Proofs.YtmdhedkgpgoneaaW.PrintLast Go.Proofs.YtmdhedkgpgoneaaW.PrintMore
attribute [local go_sem] e0z d8z e7z e6z d2z d1z d9z d7z
set_option linter.unusedVariables false
set_option linter.unusedSimpArgs false
def spec_l1Open.f (l0 : List Int) : Option (List Int × Int) := if (l0.length : Int) > 2000 then (if 2000 ≤ (l0.length : Int) then (some (l0.take 2000, 0)) else (none)) else (some (l0, 0))
set_option maxHeartbeats 8000000 in
set_option maxRecDepth 100000 in
theorem spec_l1Open.calls (A0 : Option Addr) (c0 : Nat) (l0 : List Int) (r1 : List Int) (r2 : Int) (w0 w : World) (hB : Below w0.heap.size w0 w) (hr0 : Kd.C (Kd.int .u8) w0 A0 l0.length l0) (hc0 : l0.length ≤ c0) (h : spec_l1Open.f l0 = some (r1, r2)) :
  Calls Try.prog 50 #[.slice A0 l0.length c0] w fun e w' => ∃ g_ : Nat, e = .returned (.pointer (some ⟨g_, 0, none⟩)) ∧ IsS76 w0 w' g_ r1 r2 ∧ Below w0.heap.size w0 w' ∧ Below w.heap.size w w' := by
 have hu76 := Try.underlying76
 have HR0 := a1z.mk hr0
 have HC0 := a1z.mk hc0
 clear hr0 hc0
 have HBW := a1z.mk (Below.refl w.heap.size w)
 have HW0 := a1z.mk hB.size
 have HB := a1z.mk hB
 clear hB
 have H : (if (l0.length : Int) > 2000 then (if 2000 ≤ (l0.length : Int) then (some (l0.take 2000, 0)) else (none)) else (some (l0, 0))) = some (r1, r2) := h
 clear h
 by_cases c2 : (l0.length : Int) > 2000
 ·rw [if_pos c2] at H
  have c2b0 : decide (2000 < (l0.length : Int)) = true := decide_eq_true c2
  have c2b1 : decide (2000 < l0.length) = true := decide_eq_true (by omega)
  clear c2
  by_cases c3 : 2000 ≤ (l0.length : Int)
  ·rw [if_pos c3] at H
   have c3b0 := eq_true c3
   have c3b1 : decide (2000 ≤ (l0.length : Int)) = true := decide_eq_true c3
   clear c3
   simp only [Option.some.injEq, Prod.mk.injEq] at H
   obtain ⟨rfl, rfl⟩ := H
   obtain ⟨i04, hi04, _, hsz4, _⟩ := info_parts info5
   obtain ⟨hcut4, hA4, hC4⟩ := print_take_of (P := Try.prog) (Value.int .u8) 0 35 5 .i64 Try.underlying35 hi04 hsz4 A0 c0 l0 2000 (by omega) (of_decide_eq_true (by first | (with_reducible assumption) | assumption)) HC0.1
   have HR101 := a1z.mk (Kd.C_of_reads (h1 := fun _ => rfl) (hA4 _ (Kd.reads_of_C HR0.1)))
   have HC101 := a1z.mk hC4
   clear hA4 hC4 hi04 hsz4
   go_enter Try.func50, Try.ntmps50
   go_wp2_with (first | ((with_reducible refine d3z (N := 10) rfl ?_); refine d6z ?hg (N := 10) ?hd (cs := #[.slice A0 (l0.take 2000).length c0, .int .i64 0]) (t := 76) ?hr ?_; (case hd => rfl); (case hg => rfl); (case hr => first | (go_simp; done) | (go_simp; rfl)); intro gb102 hg w5 hbox hb; have n0_ := a1z.mk (b3z HBW.1 hb); have n1_ := a1z.mk (b3z (by repeat (first | (with_reducible first | exact HB.1 | apply a3z | apply a0z | apply a2z) | exact HB.1)) hb); have n2_ := a1z.mk (hbox); have n3_ := a1z.mk ((by rw [hg]; exact (b2z (by repeat (first | (with_reducible first | exact HBW.1 | apply a3z | apply a0z | apply a2z) | exact HBW.1))) : w.heap.size ≤ gb102)); have n4_ := a1z.mk ((Nat.le_trans HW0.1 (by rw [hg]; exact (b2z (by repeat (first | (with_reducible first | exact HBW.1 | apply a3z | apply a0z | apply a2z) | exact HBW.1))) : w.heap.size ≤ gb102) : w0.heap.size ≤ gb102)); clear HBW; clear HB; have HBW := n0_; have HB := n1_; have BK102 := n2_; have GW102 := n3_; have GE102 := n4_; clear n0_ n1_ n2_ n3_ n4_; clear hb hbox hg))
   go_ret
   exact ⟨_, rfl, (show IsS76 w0 _ gb102 (l0.take 2000) 0 from ⟨_, _, by (with_reducible repeat (first | refine a8z ?_ _ | refine a9z ?_ | refine a7z ?_ _)); exact BK102.1, GE102.1, HR101.1⟩), by repeat (first | (with_reducible first | exact HB.1 | apply a3z | apply a0z | apply a2z | refine a6z ?_ GE102.1) | exact HB.1), by repeat (first | (with_reducible first | exact HBW.1 | apply a3z | apply a0z | apply a2z | refine a6z ?_ GW102.1) | exact HBW.1)⟩
  ·rw [if_neg c3] at H
   exact absurd H (by simp)
 ·rw [if_neg c2] at H
  have c2b0 : decide (2000 < (l0.length : Int)) = false := decide_eq_false c2
  have c2b1 : decide (2000 < l0.length) = false := decide_eq_false (by omega)
  clear c2
  simp only [Option.some.injEq, Prod.mk.injEq] at H
  obtain ⟨rfl, rfl⟩ := H
  go_enter Try.func50, Try.ntmps50
  go_wp2_with (first | ((with_reducible refine d3z (N := 10) rfl ?_); refine d6z ?hg (N := 10) ?hd (cs := #[.slice A0 l0.length c0, .int .i64 0]) (t := 76) ?hr ?_; (case hd => rfl); (case hg => rfl); (case hr => first | (go_simp; done) | (go_simp; rfl)); intro gb103 hg w6 hbox hb; have n0_ := a1z.mk (b3z HBW.1 hb); have n1_ := a1z.mk (b3z (by repeat (first | (with_reducible first | exact HB.1 | apply a3z | apply a0z | apply a2z) | exact HB.1)) hb); have n2_ := a1z.mk (hbox); have n3_ := a1z.mk ((by rw [hg]; exact (b2z (by repeat (first | (with_reducible first | exact HBW.1 | apply a3z | apply a0z | apply a2z) | exact HBW.1))) : w.heap.size ≤ gb103)); have n4_ := a1z.mk ((Nat.le_trans HW0.1 (by rw [hg]; exact (b2z (by repeat (first | (with_reducible first | exact HBW.1 | apply a3z | apply a0z | apply a2z) | exact HBW.1))) : w.heap.size ≤ gb103) : w0.heap.size ≤ gb103)); clear HBW; clear HB; have HBW := n0_; have HB := n1_; have BK103 := n2_; have GW103 := n3_; have GE103 := n4_; clear n0_ n1_ n2_ n3_ n4_; clear hb hbox hg))
  go_ret
  exact ⟨_, rfl, (show IsS76 w0 _ gb103 l0 0 from ⟨_, _, by (with_reducible repeat (first | refine a8z ?_ _ | refine a9z ?_ | refine a7z ?_ _)); exact BK103.1, GE103.1, HR0.1⟩), by repeat (first | (with_reducible first | exact HB.1 | apply a3z | apply a0z | apply a2z | refine a6z ?_ GE103.1) | exact HB.1), by repeat (first | (with_reducible first | exact HBW.1 | apply a3z | apply a0z | apply a2z | refine a6z ?_ GW103.1) | exact HBW.1)⟩
end Go.Proofs.Ytmdhedkgpgoneaa.Q

namespace Go.Proofs.Ytmdhedkgpgoneaa.Q
open Go.RowKit Go.Proofs.YtmdhedkgpgoneaaW.PrintWords Go.Proofs.YtmdhedkgpgoneaaW.PrintLast Go.Proofs.YtmdhedkgpgoneaaW.PrintMore
attribute [local go_sem] e0z d8z e7z e6z d2z d1z d9z d7z
set_option linter.unusedVariables false
set_option linter.unusedSimpArgs false
def spec_DrawSetBoth.f (k : Nat) (l0 : List Int) : Option ((List (S44)) × (List (S44))) := (spec_l1Open.f l0).bind fun bt101 => ((spec_l12AnySet.f k bt101.1 bt101.2).bind fun bt104 => ((spec_l12AnySet.f k bt101.1 bt104.2).bind fun bt108 => (some (bt104.1, bt108.1))))
set_option maxHeartbeats 8000000 in
set_option maxRecDepth 100000 in
theorem spec_DrawSetBoth.calls (k : Nat) (A0 : Option Addr) (c0 : Nat) (l0 : List Int) (r1 : List (S44)) (r2 : List (S44)) (w : World) (hr0 : Kd.C (Kd.int .u8) w A0 l0.length l0) (hc0 : l0.length ≤ c0) (h : spec_DrawSetBoth.f k l0 = some (r1, r2)) :
  Calls Try.prog 30 #[.slice A0 l0.length c0] w fun e w' => ∃ v0_ v1_ : Value, e = .returned (.tuple #[v0_, v1_]) ∧ Kd.R k44 44 w' w.heap.size (fun k_ => some k_ ≠ (v1_ : Value).ownBlock) v0_ r1 ∧ Kd.R k44 44 w' w.heap.size (fun k_ => some k_ ≠ (v0_ : Value).ownBlock) v1_ r2 ∧ Below w.heap.size w w' := by
 have HR0 := a1z.mk hr0
 have HC0 := a1z.mk hc0
 clear hr0 hc0
 have HB := a1z.mk (Below.refl w.heap.size w)
 have H : ((spec_l1Open.f l0).bind fun bt101 => ((spec_l12AnySet.f k bt101.1 bt101.2).bind fun bt104 => ((spec_l12AnySet.f k bt101.1 bt104.2).bind fun bt108 => (some (bt104.1, bt108.1))))) = some (r1, r2) := h
 clear h
 replace H := Option.bind_eq_some_iff.mp H
 obtain ⟨⟨t101, t102⟩, A20, H⟩ := H
 replace H : ((spec_l12AnySet.f k t101 t102).bind fun bt104 => ((spec_l12AnySet.f k t101 bt104.2).bind fun bt108 => (some (bt104.1, bt108.1)))) = some (r1, r2) := H
 have A2 := a1z.mk A20
 clear A20
 replace H := Option.bind_eq_some_iff.mp H
 obtain ⟨⟨t104, t107⟩, A30, H⟩ := H
 replace H : ((spec_l12AnySet.f k t101 t107).bind fun bt108 => (some (t104, bt108.1))) = some (r1, r2) := H
 have A3 := a1z.mk A30
 clear A30
 replace H := Option.bind_eq_some_iff.mp H
 obtain ⟨⟨t108, t111⟩, A40, H⟩ := H
 replace H : (some (t104, t108)) = some (r1, r2) := H
 have A4 := a1z.mk A40
 clear A40
 simp only [Option.some.injEq, Prod.mk.injEq] at H
 obtain ⟨rfl, rfl⟩ := H
 go_enter Try.func30, Try.ntmps30
 go_wp2_with (first | ((with_reducible refine b8z (f := 50) rfl ?_); refine c8z (some 6) rfl rfl Try.func50 (by kernel_rfl) rfl #[.slice A0 l0.length c0] rfl (by (try simp only [List.map_toArray, List.map_cons, List.map_nil]); first | done | rfl | (simp only [List.length_drop, List.length_take]; rfl)) ?_; (with_reducible refine (spec_l1Open.calls _ _ l0 t101 t102 w _ ?side1 ?side2 ?side3 A2.1).mono ?_); (case side1 => repeat (first | (with_reducible first | exact HB.1 | apply a3z | apply a0z | apply a2z) | exact HB.1)); (case side2 => exact HR0.1); (case side3 => exact HC0.1); rintro e w5 ⟨g103, rfl, hi, hb, hb2⟩; refine ⟨_, rfl, ?_⟩; have n0_ := a1z.mk (hb); have n1_ := a1z.mk (hi); clear HB; have HB := n0_; have HI103 := n1_; clear n0_ n1_; (try clear hb); (try clear hb2); (try clear hk); (try clear hi)) | ((with_reducible refine b8z (f := 49) rfl ?_); refine c8z (some 8) rfl rfl Try.func49 (by kernel_rfl) rfl #[.pointer (some ⟨g103, 0, none⟩)] rfl (by (try simp only [List.map_toArray, List.map_cons, List.map_nil]); first | done | rfl | (simp only [List.length_drop, List.length_take]; rfl)) ?_; (with_reducible refine (spec_l12AnySet.calls k g103 t101 t102 t104 t107 w _ ?side1 ?side2 A3.1).mono ?_); (case side1 => repeat (first | (with_reducible first | exact HI103.1 | apply IsS76.alloc | apply IsS76.drewN | apply IsS76.drew | apply IsS76.set_1) | exact HI103.1)); (case side2 => repeat (first | (with_reducible first | exact HB.1 | apply a3z | apply a0z | apply a2z | refine a6z ?_ (IsS76.ge HI103.1)) | exact HB.1)); rintro e w6 ⟨v105, rfl, ho0, hi, hb, hk⟩; refine ⟨_, rfl, ?_⟩; have n0_ := a1z.mk (Kd.d4z ho0 (b2z (by repeat (first | (with_reducible first | exact HB.1 | apply a3z | apply a0z | apply a2z | refine a6z ?_ (IsS76.ge HI103.1)) | exact HB.1)))); have n1_ := a1z.mk (hb); have n2_ := a1z.mk (hi); clear HB; clear HI103; have HO106 := n0_; have HB := n1_; have HI103 := n2_; clear n0_ n1_ n2_; (try clear hb); (try clear hb2); (try clear hk); (try clear hi); (try clear ho0)) | ((with_reducible refine b8z (f := 49) rfl ?_); refine c8z (some 10) rfl rfl Try.func49 (by kernel_rfl) rfl #[.pointer (some ⟨g103, 0, none⟩)] rfl (by (try simp only [List.map_toArray, List.map_cons, List.map_nil]); first | done | rfl | (simp only [List.length_drop, List.length_take]; rfl)) ?_; (with_reducible refine (spec_l12AnySet.calls k g103 t101 t107 t108 t111 w _ ?side1 ?side2 A4.1).mono ?_); (case side1 => repeat (first | (with_reducible first | exact HI103.1 | apply IsS76.alloc | apply IsS76.drewN | apply IsS76.drew | apply IsS76.set_1) | exact HI103.1)); (case side2 => repeat (first | (with_reducible first | exact HB.1 | apply a3z | apply a0z | apply a2z | refine a6z ?_ (IsS76.ge HI103.1)) | exact HB.1)); rintro e w7 ⟨v109, rfl, ho0, hi, hb, hk⟩; refine ⟨_, rfl, ?_⟩; have n0_ := a1z.mk (Kd.b9z (Kd.R_told (Kd.R_oldK (IsS76.apart (show IsS76 w _ g103 t101 t107 from by repeat (first | (with_reducible first | exact HI103.1 | apply IsS76.alloc | apply IsS76.drewN | apply IsS76.drew | apply IsS76.set_1) | exact HI103.1)) (by (with_reducible repeat (first | apply Kd.R_alloc | apply Kd.a4z | apply Kd.a5z)); exact HO106.1) (by decide)) hk) (Kd.e3z ho0)) (fun _ h_ => h_.1)); have n1_ := a1z.mk (Kd.d4z (Kd.e2z ho0 (Kd.R_lt (by (with_reducible repeat (first | apply Kd.R_alloc | apply Kd.a4z | apply Kd.a5z)); exact HO106.1))) (b2z (by repeat (first | (with_reducible first | exact HB.1 | apply a3z | apply a0z | apply a2z | refine a6z ?_ (IsS76.ge HI103.1)) | exact HB.1)))); have n2_ := a1z.mk (hb); have n3_ := a1z.mk (hi); clear HO106; clear HB; clear HI103; have HO106 := n0_; have HO110 := n1_; have HB := n2_; have HI103 := n3_; clear n0_ n1_ n2_ n3_; (try clear hb); (try clear hb2); (try clear hk); (try clear hi); (try clear ho0)))
 go_ret2
 exact ⟨_, _, by first | rfl | (simp [c2z, c1z] <;> rfl) | (simp [*, c2z, c1z] <;> rfl), by (with_reducible repeat (first | apply Kd.R_alloc | apply Kd.a4z | apply Kd.a5z)); exact Kd.b9z HO106.1 (fun _ hk => hk.2), by (with_reducible repeat (first | apply Kd.R_alloc | apply Kd.a4z | apply Kd.a5z)); exact Kd.b9z HO110.1 (fun _ hk => hk.2), by repeat (first | (with_reducible first | exact HB.1 | apply a3z | apply a0z | apply a2z | refine a6z ?_ (IsS76.ge HI103.1)) | exact HB.1)⟩
end Go.Proofs.Ytmdhedkgpgoneaa.Q

namespace Go.Proofs.Ytmdhedkgpgoneaa.Q
open Go.RowKit Go.Proofs.YtmdhedkgpgoneaaW.PrintWords Go.Proofs.YtmdhedkgpgoneaaW.PrintLast Go.Proofs.YtmdhedkgpgoneaaW.PrintMore
attribute [local go_sem] e0z d8z e7z e6z d2z d1z d9z d7z
set_option linter.unusedVariables false
set_option linter.unusedSimpArgs false
def spec_DrawSetLess.f (k : Nat) (l0 : List Int) : Option ((List (S44)) × (List (S44))) := (spec_DrawSetBoth.f k l0).bind fun bt101 => (some (bt101.1, bt101.2))
set_option maxHeartbeats 8000000 in
set_option maxRecDepth 100000 in
theorem spec_DrawSetLess.calls (k : Nat) (A0 : Option Addr) (c0 : Nat) (l0 : List Int) (r1 : List (S44)) (r2 : List (S44)) (w : World) (hr0 : Kd.C (Kd.int .u8) w A0 l0.length l0) (hc0 : l0.length ≤ c0) (h : spec_DrawSetLess.f k l0 = some (r1, r2)) :
  Calls Try.prog 31 #[.slice A0 l0.length c0] w fun e w' => ∃ v0_ v1_ : Value, e = .returned (.tuple #[v0_, v1_]) ∧ Kd.R k44 44 w' w.heap.size (fun k_ => some k_ ≠ (v1_ : Value).ownBlock) v0_ r1 ∧ Kd.R k44 44 w' w.heap.size (fun k_ => some k_ ≠ (v0_ : Value).ownBlock) v1_ r2 ∧ Below w.heap.size w w' := by
 have HR0 := a1z.mk hr0
 have HC0 := a1z.mk hc0
 clear hr0 hc0
 have HB := a1z.mk (Below.refl w.heap.size w)
 have H : ((spec_DrawSetBoth.f k l0).bind fun bt101 => (some (bt101.1, bt101.2))) = some (r1, r2) := h
 clear h
 replace H := Option.bind_eq_some_iff.mp H
 obtain ⟨⟨t101, t102⟩, A20, H⟩ := H
 replace H : (some (t101, t102)) = some (r1, r2) := H
 have A2 := a1z.mk A20
 clear A20
 simp only [Option.some.injEq, Prod.mk.injEq] at H
 obtain ⟨rfl, rfl⟩ := H
 go_enter Try.func31, Try.ntmps31
 go_wp2_with (first | ((with_reducible refine b8z (f := 30) rfl ?_); refine c8z (some 5) rfl rfl Try.func30 (by kernel_rfl) rfl #[.slice A0 l0.length c0] rfl (by (try simp only [List.map_toArray, List.map_cons, List.map_nil]); first | done | rfl | (simp only [List.length_drop, List.length_take]; rfl)) ?_; (with_reducible refine (spec_DrawSetBoth.calls k _ _ l0 t101 t102 _ ?side1 ?side2 A2.1).mono ?_); (case side1 => repeat (first | exact HR0.1 | (with_reducible refine Kd.C_alloc ?_ _) | (with_reducible refine Kd.C_drewN ?_ _) | (with_reducible refine Kd.C_drew ?_))); (case side2 => exact HC0.1); rintro e w3 ⟨v103, v105, rfl, ho0, ho1, hb⟩; refine ⟨_, rfl, ?_⟩; have n0_ := a1z.mk (Kd.d4z ho0 (b2z (by repeat (first | (with_reducible first | exact HB.1 | apply a3z | apply a0z | apply a2z) | exact HB.1)))); have n1_ := a1z.mk (Kd.d4z ho1 (b2z (by repeat (first | (with_reducible first | exact HB.1 | apply a3z | apply a0z | apply a2z) | exact HB.1)))); have n2_ := a1z.mk (b3z (by repeat (first | (with_reducible first | exact HB.1 | apply a3z | apply a0z | apply a2z) | exact HB.1)) hb); clear HB; have HO104 := n0_; have HO106 := n1_; have HB := n2_; clear n0_ n1_ n2_; (try clear hb); (try clear hb2); (try clear hk); (try clear hi); (try clear ho0); (try clear ho1)))
 go_ret2
 exact ⟨_, _, by first | rfl | (simp [c2z, c1z] <;> rfl) | (simp [*, c2z, c1z] <;> rfl), by (with_reducible repeat (first | apply Kd.R_alloc | apply Kd.a4z | apply Kd.a5z)); exact HO104.1, by (with_reducible repeat (first | apply Kd.R_alloc | apply Kd.a4z | apply Kd.a5z)); exact HO106.1, by repeat (first | (with_reducible first | exact HB.1 | apply a3z | apply a0z | apply a2z) | exact HB.1)⟩
end Go.Proofs.Ytmdhedkgpgoneaa.Q

namespace Go.Proofs.Ytmdhedkgpgoneaa.Q
open Go.RowKit Go.Proofs.YtmdhedkgpgoneaaW.PrintWords Go.Proofs.YtmdhedkgpgoneaaW.PrintLast Go.Proofs.YtmdhedkgpgoneaaW.PrintMore
attribute [local go_sem] e0z d8z e7z e6z d2z d1z d9z d7z
set_option linter.unusedVariables false
set_option linter.unusedSimpArgs false
def laws_FnSetParts.j0 : Nat → List (S44) → List (S44) → List (S44) → Bool → List (S44) → Bool → Bool → Option (Bool)
 | 0, _, _, _, _, _, _, _ => none
 | k + 1, x3, x4, x5, x6, x7, x8, x45 => if x45 = true then (if (x6 == x8) = true then ((laws_ovBlocks.f k x5 x7).bind fun t116 => (some t116)) else (some false)) else ((impl_SetBoth.f k x3 x4).bind fun bt117 => (if bt117.2 = true then ((impl_SetBoth.f k x5 bt117.1).bind fun bt121 => ((impl_SetSize.f k x5).bind fun t125 => ((impl_SetSize.f k bt117.1).bind fun t126 => ((impl_SetSize.f k x3).bind fun t127 => (if (wrap64 (t125 + t126)) = t127 then (if bt121.2 = true then (some ((bt121.1.length : Int) == 0)) else (some false)) else (some false)))))) else (some true)))
def laws_FnSetParts.f (k : Nat) (l0 : List Int) : Option (Bool) := if (l0.length : Int) > 1048576 then (some true) else ((spec_DrawSetLess.f k l0).bind fun bt101 => ((impl_SetLess.f k bt101.1 bt101.2).bind fun bt107 => ((spec_SetLess.f k bt101.1 bt101.2).bind fun bt111 => (if (bt107.2 != bt111.2) = true then (laws_FnSetParts.j0 k bt101.1 bt101.2 bt107.1 bt107.2 bt111.1 bt111.2 true) else ((laws_ovBlocks.f k bt107.1 bt111.1).bind fun t115 => (if t115 = true then (laws_FnSetParts.j0 k bt101.1 bt101.2 bt107.1 bt107.2 bt111.1 bt111.2 (!bt107.2)) else (laws_FnSetParts.j0 k bt101.1 bt101.2 bt107.1 bt107.2 bt111.1 bt111.2 true)))))))
set_option maxHeartbeats 8000000 in
set_option maxRecDepth 100000 in
theorem laws_FnSetParts.calls (k : Nat) (A0 : Option Addr) (c0 : Nat) (l0 : List Int) (r : Bool) (w : World) (hr0 : Kd.C (Kd.int .u8) w A0 l0.length l0) (hc0 : l0.length ≤ c0) (h : laws_FnSetParts.f k l0 = some r) :
  Calls Try.prog 12 #[.slice A0 l0.length c0] w fun e w' => e = .returned (.bool r) ∧ Below w.heap.size w w' := by
 have HR0 := a1z.mk hr0
 have HC0 := a1z.mk hc0
 clear hr0 hc0
 have HB := a1z.mk (Below.refl w.heap.size w)
 have H : (if (l0.length : Int) > 1048576 then (some true) else ((spec_DrawSetLess.f k l0).bind fun bt101 => ((impl_SetLess.f k bt101.1 bt101.2).bind fun bt107 => ((spec_SetLess.f k bt101.1 bt101.2).bind fun bt111 => (if (bt107.2 != bt111.2) = true then (laws_FnSetParts.j0 k bt101.1 bt101.2 bt107.1 bt107.2 bt111.1 bt111.2 true) else ((laws_ovBlocks.f k bt107.1 bt111.1).bind fun t115 => (if t115 = true then (laws_FnSetParts.j0 k bt101.1 bt101.2 bt107.1 bt107.2 bt111.1 bt111.2 (!bt107.2)) else (laws_FnSetParts.j0 k bt101.1 bt101.2 bt107.1 bt107.2 bt111.1 bt111.2 true)))))))) = some r := h
 clear h
 by_cases c2 : (l0.length : Int) > 1048576
 ·rw [if_pos c2] at H
  have c2b0 : decide (1048576 < (l0.length : Int)) = true := decide_eq_true c2
  have c2b1 : decide (1048576 < l0.length) = true := decide_eq_true (by omega)
  clear c2
  obtain rfl := Option.some.inj H
  go_enter Try.func12, Try.ntmps12
  go_wp2
  go_ret
  exact ⟨by first | rfl | (simp [c2z, c1z] <;> rfl) | (simp [*, c2z, c1z] <;> rfl), by repeat (first | (with_reducible first | exact HB.1 | apply a3z | apply a0z | apply a2z) | exact HB.1)⟩
 ·rw [if_neg c2] at H
  have c2b0 : decide (1048576 < (l0.length : Int)) = false := decide_eq_false c2
  have c2b1 : decide (1048576 < l0.length) = false := decide_eq_false (by omega)
  clear c2
  replace H := Option.bind_eq_some_iff.mp H
  obtain ⟨⟨t101, t102⟩, A30, H⟩ := H
  replace H : ((impl_SetLess.f k t101 t102).bind fun bt107 => ((spec_SetLess.f k t101 t102).bind fun bt111 => (if (bt107.2 != bt111.2) = true then (laws_FnSetParts.j0 k t101 t102 bt107.1 bt107.2 bt111.1 bt111.2 true) else ((laws_ovBlocks.f k bt107.1 bt111.1).bind fun t115 => (if t115 = true then (laws_FnSetParts.j0 k t101 t102 bt107.1 bt107.2 bt111.1 bt111.2 (!bt107.2)) else (laws_FnSetParts.j0 k t101 t102 bt107.1 bt107.2 bt111.1 bt111.2 true)))))) = some r := H
  have A3 := a1z.mk A30
  clear A30
  replace H := Option.bind_eq_some_iff.mp H
  obtain ⟨⟨t107, t108⟩, A40, H⟩ := H
  replace H : ((spec_SetLess.f k t101 t102).bind fun bt111 => (if (t108 != bt111.2) = true then (laws_FnSetParts.j0 k t101 t102 t107 t108 bt111.1 bt111.2 true) else ((laws_ovBlocks.f k t107 bt111.1).bind fun t115 => (if t115 = true then (laws_FnSetParts.j0 k t101 t102 t107 t108 bt111.1 bt111.2 (!t108)) else (laws_FnSetParts.j0 k t101 t102 t107 t108 bt111.1 bt111.2 true))))) = some r := H
  have A4 := a1z.mk A40
  clear A40
  replace H := Option.bind_eq_some_iff.mp H
  obtain ⟨⟨t111, t112⟩, A50, H⟩ := H
  replace H : (if (t108 != t112) = true then (laws_FnSetParts.j0 k t101 t102 t107 t108 t111 t112 true) else ((laws_ovBlocks.f k t107 t111).bind fun t115 => (if t115 = true then (laws_FnSetParts.j0 k t101 t102 t107 t108 t111 t112 (!t108)) else (laws_FnSetParts.j0 k t101 t102 t107 t108 t111 t112 true)))) = some r := H
  have A5 := a1z.mk A50
  clear A50
  have HC6 := a1z.mk H
  clear H
  go_enter Try.func12, Try.ntmps12
  go_upto_region 6 with (first | ((with_reducible refine b8z (f := 31) rfl ?_); refine c8z (some 18) rfl rfl Try.func31 (by kernel_rfl) rfl #[.slice A0 l0.length c0] rfl (by (try simp only [List.map_toArray, List.map_cons, List.map_nil]); first | done | rfl | (simp only [List.length_drop, List.length_take]; rfl)) ?_; (with_reducible refine (spec_DrawSetLess.calls k _ _ l0 t101 t102 _ ?side1 ?side2 A3.1).mono ?_); (case side1 => repeat (first | exact HR0.1 | (with_reducible refine Kd.C_alloc ?_ _) | (with_reducible refine Kd.C_drewN ?_ _) | (with_reducible refine Kd.C_drew ?_))); (case side2 => exact HC0.1); rintro e w7 ⟨v103, v105, rfl, ho0, ho1, hb⟩; refine ⟨_, rfl, ?_⟩; have n0_ := a1z.mk (Kd.d4z ho0 (b2z (by repeat (first | (with_reducible first | exact HB.1 | apply a3z | apply a0z | apply a2z) | exact HB.1)))); have n1_ := a1z.mk (Kd.d4z ho1 (b2z (by repeat (first | (with_reducible first | exact HB.1 | apply a3z | apply a0z | apply a2z) | exact HB.1)))); have n2_ := a1z.mk (b3z (by repeat (first | (with_reducible first | exact HB.1 | apply a3z | apply a0z | apply a2z) | exact HB.1)) hb); clear HB; have HO104 := n0_; have HO106 := n1_; have HB := n2_; clear n0_ n1_ n2_; (try clear hb); (try clear hb2); (try clear hk); (try clear hi); (try clear ho0); (try clear ho1); obtain ⟨Ao8, co8, eo8⟩ := Kd.e1z HO104.1; subst eo8; obtain ⟨Ao9, co9, eo9⟩ := Kd.e1z HO106.1; subst eo9) | ((with_reducible refine b8z (f := 27) rfl ?_); refine c8z (some 24) rfl rfl Try.func27 (by kernel_rfl) rfl #[.slice Ao8 t101.length co8, .slice Ao9 t102.length co9] rfl (by (try simp only [List.map_toArray, List.map_cons, List.map_nil]); first | done | rfl | (simp only [List.length_drop, List.length_take]; rfl)) ?_; (with_reducible refine (impl_SetLess.calls k _ _ t101 _ _ t102 t107 t108 _ ?side1 ?side2 ?side3 ?side4 A4.1).mono ?_); (case side1 => repeat (first | exact (Kd.c0z HO104.1).2.2 | (with_reducible refine Kd.C_alloc ?_ _) | (with_reducible refine Kd.C_drewN ?_ _) | (with_reducible refine Kd.C_drew ?_))); (case side2 => exact (Kd.c0z HO104.1).2.1); (case side3 => repeat (first | exact (Kd.c0z HO106.1).2.2 | (with_reducible refine Kd.C_alloc ?_ _) | (with_reducible refine Kd.C_drewN ?_ _) | (with_reducible refine Kd.C_drew ?_))); (case side4 => exact (Kd.c0z HO106.1).2.1); rintro e w10 ⟨v109, rfl, ho0, hb⟩; refine ⟨_, rfl, ?_⟩; have n0_ := a1z.mk (Kd.c9z (by (with_reducible repeat (first | apply Kd.R_alloc | apply Kd.a4z | apply Kd.a5z)); exact HO104.1) (Kd.e3z ho0) hb); have n1_ := a1z.mk (Kd.c9z (by (with_reducible repeat (first | apply Kd.R_alloc | apply Kd.a4z | apply Kd.a5z)); exact HO106.1) (Kd.e3z ho0) hb); have n2_ := a1z.mk (Kd.d4z (Kd.e2z (Kd.e2z ho0 (Kd.R_lt (by (with_reducible repeat (first | apply Kd.R_alloc | apply Kd.a4z | apply Kd.a5z)); exact HO104.1))) (Kd.R_lt (by (with_reducible repeat (first | apply Kd.R_alloc | apply Kd.a4z | apply Kd.a5z)); exact HO106.1))) (b2z (by repeat (first | (with_reducible first | exact HB.1 | apply a3z | apply a0z | apply a2z) | exact HB.1)))); have n3_ := a1z.mk (b3z (by repeat (first | (with_reducible first | exact HB.1 | apply a3z | apply a0z | apply a2z) | exact HB.1)) hb); clear HO104; clear HO106; clear HB; have HO104 := n0_; have HO106 := n1_; have HO110 := n2_; have HB := n3_; clear n0_ n1_ n2_ n3_; (try clear hb); (try clear hb2); (try clear hk); (try clear hi); (try clear ho0)) | ((with_reducible refine b8z (f := 26) rfl ?_); refine c8z (some 30) rfl rfl Try.func26 (by kernel_rfl) rfl #[.slice Ao8 t101.length co8, .slice Ao9 t102.length co9] rfl (by (try simp only [List.map_toArray, List.map_cons, List.map_nil]); first | done | rfl | (simp only [List.length_drop, List.length_take]; rfl)) ?_; (with_reducible refine (spec_SetLess.calls k _ _ t101 _ _ t102 t111 t112 _ ?side1 ?side2 ?side3 ?side4 A5.1).mono ?_); (case side1 => repeat (first | exact (Kd.c0z HO104.1).2.2 | (with_reducible refine Kd.C_alloc ?_ _) | (with_reducible refine Kd.C_drewN ?_ _) | (with_reducible refine Kd.C_drew ?_))); (case side2 => exact (Kd.c0z HO104.1).2.1); (case side3 => repeat (first | exact (Kd.c0z HO106.1).2.2 | (with_reducible refine Kd.C_alloc ?_ _) | (with_reducible refine Kd.C_drewN ?_ _) | (with_reducible refine Kd.C_drew ?_))); (case side4 => exact (Kd.c0z HO106.1).2.1); rintro e w11 ⟨v113, rfl, ho0, hb⟩; refine ⟨_, rfl, ?_⟩; have n0_ := a1z.mk (Kd.c9z (by (with_reducible repeat (first | apply Kd.R_alloc | apply Kd.a4z | apply Kd.a5z)); exact HO104.1) (Kd.e3z ho0) hb); have n1_ := a1z.mk (Kd.c9z (by (with_reducible repeat (first | apply Kd.R_alloc | apply Kd.a4z | apply Kd.a5z)); exact HO106.1) (Kd.e3z ho0) hb); have n2_ := a1z.mk (Kd.c9z (by (with_reducible repeat (first | apply Kd.R_alloc | apply Kd.a4z | apply Kd.a5z)); exact HO110.1) (Kd.e3z ho0) hb); have n3_ := a1z.mk (Kd.d4z (Kd.e2z (Kd.e2z (Kd.e2z ho0 (Kd.R_lt (by (with_reducible repeat (first | apply Kd.R_alloc | apply Kd.a4z | apply Kd.a5z)); exact HO104.1))) (Kd.R_lt (by (with_reducible repeat (first | apply Kd.R_alloc | apply Kd.a4z | apply Kd.a5z)); exact HO106.1))) (Kd.R_lt (by (with_reducible repeat (first | apply Kd.R_alloc | apply Kd.a4z | apply Kd.a5z)); exact HO110.1))) (b2z (by repeat (first | (with_reducible first | exact HB.1 | apply a3z | apply a0z | apply a2z) | exact HB.1)))); have n4_ := a1z.mk (b3z (by repeat (first | (with_reducible first | exact HB.1 | apply a3z | apply a0z | apply a2z) | exact HB.1)) hb); clear HO104; clear HO106; clear HO110; clear HB; have HO104 := n0_; have HO106 := n1_; have HO110 := n2_; have HO114 := n3_; have HB := n4_; clear n0_ n1_ n2_ n3_ n4_; (try clear hb); (try clear hb2); (try clear hk); (try clear hi); (try clear ho0)))
  (try simp only [Act.put, sA_, sZ_, sS_])
  go_cut [45] (fun v45 wc => ∃ (kq : Nat) (x45_5 : Bool), v45 = .bool x45_5 ∧ a1z (laws_FnSetParts.j0 kq t101 t102 t107 t108 t111 t112 x45_5 = some r) ∧ a1z (kq ≤ k) ∧ a1z (Kd.R k44 44 wc w.heap.size (fun k_ => some k_ ≠ ((.slice Ao9 t102.length co9) : Value).ownBlock ∧ some k_ ≠ (v109 : Value).ownBlock ∧ some k_ ≠ (v113 : Value).ownBlock) (.slice Ao8 t101.length co8) t101) ∧ a1z (Kd.R k44 44 wc w.heap.size (fun k_ => some k_ ≠ ((.slice Ao8 t101.length co8) : Value).ownBlock ∧ some k_ ≠ (v109 : Value).ownBlock ∧ some k_ ≠ (v113 : Value).ownBlock) (.slice Ao9 t102.length co9) t102) ∧ a1z (Kd.R k44 44 wc w.heap.size (fun k_ => some k_ ≠ ((.slice Ao8 t101.length co8) : Value).ownBlock ∧ some k_ ≠ ((.slice Ao9 t102.length co9) : Value).ownBlock ∧ some k_ ≠ (v113 : Value).ownBlock) v109 t107) ∧ a1z (Kd.R k44 44 wc w.heap.size (fun k_ => some k_ ≠ ((.slice Ao8 t101.length co8) : Value).ownBlock ∧ some k_ ≠ ((.slice Ao9 t102.length co9) : Value).ownBlock ∧ some k_ ≠ (v109 : Value).ownBlock) v113 t111) ∧ a1z (Below w.heap.size w wc))
  case first =>
   have H := HC6.1
   clear HC6
   by_cases c12 : (t108 != t112) = true
   ·rw [if_pos c12] at H
    have c12b0 : (t108 != t112) = true := c12
    (try (have c12b1 : decide (t108 = t112) = false := by simpa using c12))
    (try (have c12b2 : (t108 == t112) = false := by simpa using c12))
    (try (have c12b3 : ¬ (t108 = t112) := by simpa using c12))
    clear c12
    (first | rw [c12b0] | (simp only [i64_w, i32_w]; rw [c12b0]) | skip)
    have H' := a1z.mk H
    clear H
    go_wp2
    go_meet
    case rel => exact ⟨_, (true), (by first | rfl | (simp; done) | (simp [*]; done)), H', ⟨by first | omega | exact Nat.le_refl _⟩, ⟨by (with_reducible repeat (first | apply Kd.R_alloc | apply Kd.a4z | apply Kd.a5z)); exact Kd.b9z HO104.1 (fun _ hk => ⟨hk.1.1, ⟨hk.1.2, hk.2⟩⟩)⟩, ⟨by (with_reducible repeat (first | apply Kd.R_alloc | apply Kd.a4z | apply Kd.a5z)); exact Kd.b9z HO106.1 (fun _ hk => ⟨hk.1.1, ⟨hk.1.2, hk.2⟩⟩)⟩, ⟨by (with_reducible repeat (first | apply Kd.R_alloc | apply Kd.a4z | apply Kd.a5z)); exact Kd.b9z HO110.1 (fun _ hk => ⟨hk.1.1.2, ⟨hk.1.2, hk.2⟩⟩)⟩, ⟨by (with_reducible repeat (first | apply Kd.R_alloc | apply Kd.a4z | apply Kd.a5z)); exact Kd.b9z HO114.1 (fun _ hk => ⟨hk.1.1.2, ⟨hk.1.2, hk.2⟩⟩)⟩, ⟨by repeat (first | (with_reducible first | exact HB.1 | apply a3z | apply a0z | apply a2z) | exact HB.1)⟩⟩
   ·rw [if_neg c12] at H
    have c12b0 : (t108 != t112) = false := by simpa using c12
    (try (have c12b1 : decide (t108 = t112) = true := by simpa using c12))
    (try (have c12b2 : (t108 == t112) = true := by simpa using c12))
    clear c12
    (first | rw [c12b0] | (simp only [i64_w, i32_w]; rw [c12b0]) | skip)
    replace H := Option.bind_eq_some_iff.mp H
    obtain ⟨t115, A130, H⟩ := H
    replace H : (if t115 = true then (laws_FnSetParts.j0 k t101 t102 t107 t108 t111 t112 (!t108)) else (laws_FnSetParts.j0 k t101 t102 t107 t108 t111 t112 true)) = some r := H
    have A13 := a1z.mk A130
    clear A130
    by_cases c14 : t115 = true
    ·subst c14
     have H1 : (laws_FnSetParts.j0 k t101 t102 t107 t108 t111 t112 (!t108)) = some r := by rw [if_pos rfl] at H; exact H
     clear H
     have H := H1
     clear H1
     have H' := a1z.mk H
     clear H
     obtain ⟨Ao15, co15, eo15⟩ := Kd.e1z HO110.1
     subst eo15
     obtain ⟨Ao16, co16, eo16⟩ := Kd.e1z HO114.1
     subst eo16
     go_wp2_with (first | (go_at_call 29; (with_reducible refine (laws_ovBlocks.calls k _ _ t107 _ _ t111 true _ ?side1 ?side2 ?side3 ?side4 A13.1).mono ?_); (case side1 => repeat (first | exact (Kd.c0z HO110.1).2.2 | (with_reducible refine Kd.C_alloc ?_ _) | (with_reducible refine Kd.C_drewN ?_ _) | (with_reducible refine Kd.C_drew ?_))); (case side2 => exact (Kd.c0z HO110.1).2.1); (case side3 => repeat (first | exact (Kd.c0z HO114.1).2.2 | (with_reducible refine Kd.C_alloc ?_ _) | (with_reducible refine Kd.C_drewN ?_ _) | (with_reducible refine Kd.C_drew ?_))); (case side4 => exact (Kd.c0z HO114.1).2.1); rintro e w' ⟨rfl, ⟨nd, rfl⟩⟩))
     go_meet
     case rel => exact ⟨_, (!t108), (by first | rfl | (simp; done) | (simp [*]; done)), H', ⟨by first | omega | exact Nat.le_refl _⟩, ⟨by (with_reducible repeat (first | apply Kd.R_alloc | apply Kd.a4z | apply Kd.a5z)); exact Kd.b9z HO104.1 (fun _ hk => ⟨hk.1.1, ⟨hk.1.2, hk.2⟩⟩)⟩, ⟨by (with_reducible repeat (first | apply Kd.R_alloc | apply Kd.a4z | apply Kd.a5z)); exact Kd.b9z HO106.1 (fun _ hk => ⟨hk.1.1, ⟨hk.1.2, hk.2⟩⟩)⟩, ⟨by (with_reducible repeat (first | apply Kd.R_alloc | apply Kd.a4z | apply Kd.a5z)); exact Kd.b9z HO110.1 (fun _ hk => ⟨hk.1.1.2, ⟨hk.1.2, hk.2⟩⟩)⟩, ⟨by (with_reducible repeat (first | apply Kd.R_alloc | apply Kd.a4z | apply Kd.a5z)); exact Kd.b9z HO114.1 (fun _ hk => ⟨hk.1.1.2, ⟨hk.1.2, hk.2⟩⟩)⟩, ⟨by repeat (first | (with_reducible first | exact HB.1 | apply a3z | apply a0z | apply a2z) | exact HB.1)⟩⟩
    ·replace c14 := Bool.eq_false_iff.mpr c14
     subst c14
     have H1 : (laws_FnSetParts.j0 k t101 t102 t107 t108 t111 t112 true) = some r := by rw [if_neg (show ¬ (false = true) by decide)] at H; exact H
     clear H
     have H := H1
     clear H1
     have H' := a1z.mk H
     clear H
     obtain ⟨Ao17, co17, eo17⟩ := Kd.e1z HO110.1
     subst eo17
     obtain ⟨Ao18, co18, eo18⟩ := Kd.e1z HO114.1
     subst eo18
     go_wp2_with (first | (go_at_call 29; (with_reducible refine (laws_ovBlocks.calls k _ _ t107 _ _ t111 false _ ?side1 ?side2 ?side3 ?side4 A13.1).mono ?_); (case side1 => repeat (first | exact (Kd.c0z HO110.1).2.2 | (with_reducible refine Kd.C_alloc ?_ _) | (with_reducible refine Kd.C_drewN ?_ _) | (with_reducible refine Kd.C_drew ?_))); (case side2 => exact (Kd.c0z HO110.1).2.1); (case side3 => repeat (first | exact (Kd.c0z HO114.1).2.2 | (with_reducible refine Kd.C_alloc ?_ _) | (with_reducible refine Kd.C_drewN ?_ _) | (with_reducible refine Kd.C_drew ?_))); (case side4 => exact (Kd.c0z HO114.1).2.1); rintro e w' ⟨rfl, ⟨nd, rfl⟩⟩))
     go_meet
     case rel => exact ⟨_, (true), (by first | rfl | (simp; done) | (simp [*]; done)), H', ⟨by first | omega | exact Nat.le_refl _⟩, ⟨by (with_reducible repeat (first | apply Kd.R_alloc | apply Kd.a4z | apply Kd.a5z)); exact Kd.b9z HO104.1 (fun _ hk => ⟨hk.1.1, ⟨hk.1.2, hk.2⟩⟩)⟩, ⟨by (with_reducible repeat (first | apply Kd.R_alloc | apply Kd.a4z | apply Kd.a5z)); exact Kd.b9z HO106.1 (fun _ hk => ⟨hk.1.1, ⟨hk.1.2, hk.2⟩⟩)⟩, ⟨by (with_reducible repeat (first | apply Kd.R_alloc | apply Kd.a4z | apply Kd.a5z)); exact Kd.b9z HO110.1 (fun _ hk => ⟨hk.1.1.2, ⟨hk.1.2, hk.2⟩⟩)⟩, ⟨by (with_reducible repeat (first | apply Kd.R_alloc | apply Kd.a4z | apply Kd.a5z)); exact Kd.b9z HO114.1 (fun _ hk => ⟨hk.1.1.2, ⟨hk.1.2, hk.2⟩⟩)⟩, ⟨by repeat (first | (with_reducible first | exact HB.1 | apply a3z | apply a0z | apply a2z) | exact HB.1)⟩⟩
  case rest =>
   clear HC6
   try clear c1
   try clear c2
   try clear c2b0
   try clear c2b1
   try clear p2
   try clear c3
   try clear c12
   try clear c12b0
   try clear c12b1
   try clear c12b2
   try clear c14
   obtain ⟨kq, x45_5, rfl, HA, HJ5, HO_3, HO_4, HO_5, HO_7, HB⟩ := hcut
   cases kq with
   | zero => exact absurd HA.1 (by simp [laws_FnSetParts.j0])
   | succ kj5 =>
    have H := HA.1
    clear HA
    simp only [laws_FnSetParts.j0] at H
    by_cases c19 : x45_5 = true
    ·subst c19
     have H1 : (if (t108 == t112) = true then ((laws_ovBlocks.f kj5 t107 t111).bind fun t116 => (some t116)) else (some false)) = some r := by rw [if_pos rfl] at H; exact H
     clear H
     have H := H1
     clear H1
     by_cases c20 : (t108 == t112) = true
     ·rw [if_pos c20] at H
      have c20b0 : (t108 == t112) = true := c20
      (try (have c20b1 : decide (t108 = t112) = true := by simpa using c20))
      (try (have c20b2 : (t108 == t112) = true := by simpa using c20))
      clear c20
      replace H := Option.bind_eq_some_iff.mp H
      obtain ⟨t116, A210, H⟩ := H
      replace H : (some t116) = some r := H
      have A21 := a1z.mk A210
      clear A210
      obtain rfl := Option.some.inj H
      obtain ⟨Ao22, co22, eo22⟩ := Kd.e1z HO_5.1
      subst eo22
      obtain ⟨Ao23, co23, eo23⟩ := Kd.e1z HO_7.1
      subst eo23
      go_wp2_with (first | (go_at_call 29; (with_reducible refine (laws_ovBlocks.calls kj5 _ _ t107 _ _ t111 t116 _ ?side1 ?side2 ?side3 ?side4 A21.1).mono ?_); (case side1 => repeat (first | exact (Kd.c0z HO_5.1).2.2 | (with_reducible refine Kd.C_alloc ?_ _) | (with_reducible refine Kd.C_drewN ?_ _) | (with_reducible refine Kd.C_drew ?_))); (case side2 => exact (Kd.c0z HO_5.1).2.1); (case side3 => repeat (first | exact (Kd.c0z HO_7.1).2.2 | (with_reducible refine Kd.C_alloc ?_ _) | (with_reducible refine Kd.C_drewN ?_ _) | (with_reducible refine Kd.C_drew ?_))); (case side4 => exact (Kd.c0z HO_7.1).2.1); rintro e w' ⟨rfl, ⟨nd, rfl⟩⟩))
      go_ret
      exact ⟨by first | rfl | (simp [c2z, c1z] <;> rfl) | (simp [*, c2z, c1z] <;> rfl), by repeat (first | (with_reducible first | exact HB.1 | apply a3z | apply a0z | apply a2z) | exact HB.1)⟩
     ·rw [if_neg c20] at H
      have c20b0 : (t108 == t112) = false := by simpa using c20
      (try (have c20b1 : decide (t108 = t112) = false := by simpa using c20))
      (try (have c20b2 : (t108 == t112) = false := by simpa using c20))
      (try (have c20b3 : ¬ (t108 = t112) := by simpa using c20))
      clear c20
      obtain rfl := Option.some.inj H
      go_wp2
      go_ret
      exact ⟨by first | rfl | (simp [c2z, c1z] <;> rfl) | (simp [*, c2z, c1z] <;> rfl), by repeat (first | (with_reducible first | exact HB.1 | apply a3z | apply a0z | apply a2z) | exact HB.1)⟩
    ·replace c19 := Bool.eq_false_iff.mpr c19
     subst c19
     have H1 : ((impl_SetBoth.f kj5 t101 t102).bind fun bt117 => (if bt117.2 = true then ((impl_SetBoth.f kj5 t107 bt117.1).bind fun bt121 => ((impl_SetSize.f kj5 t107).bind fun t125 => ((impl_SetSize.f kj5 bt117.1).bind fun t126 => ((impl_SetSize.f kj5 t101).bind fun t127 => (if (wrap64 (t125 + t126)) = t127 then (if bt121.2 = true then (some ((bt121.1.length : Int) == 0)) else (some false)) else (some false)))))) else (some true))) = some r := by rw [if_neg (show ¬ (false = true) by decide)] at H; exact H
     clear H
     have H := H1
     clear H1
     replace H := Option.bind_eq_some_iff.mp H
     obtain ⟨⟨t117, t118⟩, A240, H⟩ := H
     replace H : (if t118 = true then ((impl_SetBoth.f kj5 t107 t117).bind fun bt121 => ((impl_SetSize.f kj5 t107).bind fun t125 => ((impl_SetSize.f kj5 t117).bind fun t126 => ((impl_SetSize.f kj5 t101).bind fun t127 => (if (wrap64 (t125 + t126)) = t127 then (if bt121.2 = true then (some ((bt121.1.length : Int) == 0)) else (some false)) else (some false)))))) else (some true)) = some r := H
     have A24 := a1z.mk A240
     clear A240
     by_cases c25 : t118 = true
     ·subst c25
      have H1 : ((impl_SetBoth.f kj5 t107 t117).bind fun bt121 => ((impl_SetSize.f kj5 t107).bind fun t125 => ((impl_SetSize.f kj5 t117).bind fun t126 => ((impl_SetSize.f kj5 t101).bind fun t127 => (if (wrap64 (t125 + t126)) = t127 then (if bt121.2 = true then (some ((bt121.1.length : Int) == 0)) else (some false)) else (some false)))))) = some r := by rw [if_pos rfl] at H; exact H
      clear H
      have H := H1
      clear H1
      replace H := Option.bind_eq_some_iff.mp H
      obtain ⟨⟨t121, t122⟩, A260, H⟩ := H
      replace H : ((impl_SetSize.f kj5 t107).bind fun t125 => ((impl_SetSize.f kj5 t117).bind fun t126 => ((impl_SetSize.f kj5 t101).bind fun t127 => (if (wrap64 (t125 + t126)) = t127 then (if t122 = true then (some ((t121.length : Int) == 0)) else (some false)) else (some false))))) = some r := H
      have A26 := a1z.mk A260
      clear A260
      replace H := Option.bind_eq_some_iff.mp H
      obtain ⟨t125, A270, H⟩ := H
      replace H : ((impl_SetSize.f kj5 t117).bind fun t126 => ((impl_SetSize.f kj5 t101).bind fun t127 => (if (wrap64 (t125 + t126)) = t127 then (if t122 = true then (some ((t121.length : Int) == 0)) else (some false)) else (some false)))) = some r := H
      have A27 := a1z.mk A270
      clear A270
      replace H := Option.bind_eq_some_iff.mp H
      obtain ⟨t126, A280, H⟩ := H
      replace H : ((impl_SetSize.f kj5 t101).bind fun t127 => (if (wrap64 (t125 + t126)) = t127 then (if t122 = true then (some ((t121.length : Int) == 0)) else (some false)) else (some false))) = some r := H
      have A28 := a1z.mk A280
      clear A280
      replace H := Option.bind_eq_some_iff.mp H
      obtain ⟨t127, A290, H⟩ := H
      replace H : (if (wrap64 (t125 + t126)) = t127 then (if t122 = true then (some ((t121.length : Int) == 0)) else (some false)) else (some false)) = some r := H
      have A29 := a1z.mk A290
      clear A290
      by_cases c30 : (wrap64 (t125 + t126)) = t127
      ·rw [if_pos c30] at H
       have c30b0 : ((wrap64 (t125 + t126)) == t127) = true := beq_iff_eq.mpr c30
       have c30b1 : ((wrap64 (t125 + t126)) != t127) = false := bne_eq_false_iff_eq.mpr c30
       clear c30
       by_cases c31 : t122 = true
       ·subst c31
        have H1 : (some ((t121.length : Int) == 0)) = some r := by rw [if_pos rfl] at H; exact H
        clear H
        have H := H1
        clear H1
        obtain rfl := Option.some.inj H
        go_wp2_with (first | ((with_reducible refine b8z (f := 25) rfl ?_); refine c8z (some 57) rfl rfl Try.func25 (by kernel_rfl) rfl #[.slice Ao8 t101.length co8, .slice Ao9 t102.length co9] rfl (by (try simp only [List.map_toArray, List.map_cons, List.map_nil]); first | done | rfl | (simp only [List.length_drop, List.length_take]; rfl)) ?_; (with_reducible refine (impl_SetBoth.calls kj5 _ _ t101 _ _ t102 t117 true _ ?side1 ?side2 ?side3 ?side4 A24.1).mono ?_); (case side1 => repeat (first | exact (Kd.c0z HO_3.1).2.2 | (with_reducible refine Kd.C_alloc ?_ _) | (with_reducible refine Kd.C_drewN ?_ _) | (with_reducible refine Kd.C_drew ?_))); (case side2 => exact (Kd.c0z HO_3.1).2.1); (case side3 => repeat (first | exact (Kd.c0z HO_4.1).2.2 | (with_reducible refine Kd.C_alloc ?_ _) | (with_reducible refine Kd.C_drewN ?_ _) | (with_reducible refine Kd.C_drew ?_))); (case side4 => exact (Kd.c0z HO_4.1).2.1); rintro e w32 ⟨v119, rfl, ho0, hb⟩; refine ⟨_, rfl, ?_⟩; have n0_ := a1z.mk (Kd.c9z (by (with_reducible repeat (first | apply Kd.R_alloc | apply Kd.a4z | apply Kd.a5z)); exact HO_3.1) (Kd.e3z ho0) hb); have n1_ := a1z.mk (Kd.c9z (by (with_reducible repeat (first | apply Kd.R_alloc | apply Kd.a4z | apply Kd.a5z)); exact HO_4.1) (Kd.e3z ho0) hb); have n2_ := a1z.mk (Kd.c9z (by (with_reducible repeat (first | apply Kd.R_alloc | apply Kd.a4z | apply Kd.a5z)); exact HO_5.1) (Kd.e3z ho0) hb); have n3_ := a1z.mk (Kd.c9z (by (with_reducible repeat (first | apply Kd.R_alloc | apply Kd.a4z | apply Kd.a5z)); exact HO_7.1) (Kd.e3z ho0) hb); have n4_ := a1z.mk (Kd.d4z (Kd.e2z (Kd.e2z (Kd.e2z (Kd.e2z ho0 (Kd.R_lt (by (with_reducible repeat (first | apply Kd.R_alloc | apply Kd.a4z | apply Kd.a5z)); exact HO_3.1))) (Kd.R_lt (by (with_reducible repeat (first | apply Kd.R_alloc | apply Kd.a4z | apply Kd.a5z)); exact HO_4.1))) (Kd.R_lt (by (with_reducible repeat (first | apply Kd.R_alloc | apply Kd.a4z | apply Kd.a5z)); exact HO_5.1))) (Kd.R_lt (by (with_reducible repeat (first | apply Kd.R_alloc | apply Kd.a4z | apply Kd.a5z)); exact HO_7.1))) (b2z (by repeat (first | (with_reducible first | exact HB.1 | apply a3z | apply a0z | apply a2z) | exact HB.1)))); have n5_ := a1z.mk (b3z (by repeat (first | (with_reducible first | exact HB.1 | apply a3z | apply a0z | apply a2z) | exact HB.1)) hb); clear HO_3; clear HO_4; clear HO_5; clear HO_7; clear HB; have HO_3 := n0_; have HO_4 := n1_; have HO_5 := n2_; have HO_7 := n3_; have HO120 := n4_; have HB := n5_; clear n0_ n1_ n2_ n3_ n4_ n5_; (try clear hb); (try clear hb2); (try clear hk); (try clear hi); (try clear ho0); obtain ⟨Ao33, co33, eo33⟩ := Kd.e1z HO_5.1; subst eo33; obtain ⟨Ao34, co34, eo34⟩ := Kd.e1z HO120.1; subst eo34) | ((with_reducible refine b8z (f := 25) rfl ?_); refine c8z (some 65) rfl rfl Try.func25 (by kernel_rfl) rfl #[.slice Ao33 t107.length co33, .slice Ao34 t117.length co34] rfl (by (try simp only [List.map_toArray, List.map_cons, List.map_nil]); first | done | rfl | (simp only [List.length_drop, List.length_take]; rfl)) ?_; (with_reducible refine (impl_SetBoth.calls kj5 _ _ t107 _ _ t117 t121 true _ ?side1 ?side2 ?side3 ?side4 A26.1).mono ?_); (case side1 => repeat (first | exact (Kd.c0z HO_5.1).2.2 | (with_reducible refine Kd.C_alloc ?_ _) | (with_reducible refine Kd.C_drewN ?_ _) | (with_reducible refine Kd.C_drew ?_))); (case side2 => exact (Kd.c0z HO_5.1).2.1); (case side3 => repeat (first | exact (Kd.c0z HO120.1).2.2 | (with_reducible refine Kd.C_alloc ?_ _) | (with_reducible refine Kd.C_drewN ?_ _) | (with_reducible refine Kd.C_drew ?_))); (case side4 => exact (Kd.c0z HO120.1).2.1); rintro e w35 ⟨v123, rfl, ho0, hb⟩; refine ⟨_, rfl, ?_⟩; have n0_ := a1z.mk (Kd.c9z (by (with_reducible repeat (first | apply Kd.R_alloc | apply Kd.a4z | apply Kd.a5z)); exact HO_3.1) (Kd.e3z ho0) hb); have n1_ := a1z.mk (Kd.c9z (by (with_reducible repeat (first | apply Kd.R_alloc | apply Kd.a4z | apply Kd.a5z)); exact HO_4.1) (Kd.e3z ho0) hb); have n2_ := a1z.mk (Kd.c9z (by (with_reducible repeat (first | apply Kd.R_alloc | apply Kd.a4z | apply Kd.a5z)); exact HO_5.1) (Kd.e3z ho0) hb); have n3_ := a1z.mk (Kd.c9z (by (with_reducible repeat (first | apply Kd.R_alloc | apply Kd.a4z | apply Kd.a5z)); exact HO_7.1) (Kd.e3z ho0) hb); have n4_ := a1z.mk (Kd.c9z (by (with_reducible repeat (first | apply Kd.R_alloc | apply Kd.a4z | apply Kd.a5z)); exact HO120.1) (Kd.e3z ho0) hb); have n5_ := a1z.mk (Kd.d4z (Kd.e2z (Kd.e2z (Kd.e2z (Kd.e2z (Kd.e2z ho0 (Kd.R_lt (by (with_reducible repeat (first | apply Kd.R_alloc | apply Kd.a4z | apply Kd.a5z)); exact HO_3.1))) (Kd.R_lt (by (with_reducible repeat (first | apply Kd.R_alloc | apply Kd.a4z | apply Kd.a5z)); exact HO_4.1))) (Kd.R_lt (by (with_reducible repeat (first | apply Kd.R_alloc | apply Kd.a4z | apply Kd.a5z)); exact HO_5.1))) (Kd.R_lt (by (with_reducible repeat (first | apply Kd.R_alloc | apply Kd.a4z | apply Kd.a5z)); exact HO_7.1))) (Kd.R_lt (by (with_reducible repeat (first | apply Kd.R_alloc | apply Kd.a4z | apply Kd.a5z)); exact HO120.1))) (b2z (by repeat (first | (with_reducible first | exact HB.1 | apply a3z | apply a0z | apply a2z) | exact HB.1)))); have n6_ := a1z.mk (b3z (by repeat (first | (with_reducible first | exact HB.1 | apply a3z | apply a0z | apply a2z) | exact HB.1)) hb); clear HO_3; clear HO_4; clear HO_5; clear HO_7; clear HO120; clear HB; have HO_3 := n0_; have HO_4 := n1_; have HO_5 := n2_; have HO_7 := n3_; have HO120 := n4_; have HO124 := n5_; have HB := n6_; clear n0_ n1_ n2_ n3_ n4_ n5_ n6_; (try clear hb); (try clear hb2); (try clear hk); (try clear hi); (try clear ho0)) | ((with_reducible refine b8z (f := 23) rfl ?_); refine c8z (some 69) rfl rfl Try.func23 (by kernel_rfl) rfl #[.slice Ao33 t107.length co33] rfl (by (try simp only [List.map_toArray, List.map_cons, List.map_nil]); first | done | rfl | (simp only [List.length_drop, List.length_take]; rfl)) ?_; (with_reducible refine (impl_SetSize.calls kj5 _ _ t107 t125 _ ?side1 ?side2 A27.1).mono ?_); (case side1 => repeat (first | exact (Kd.c0z HO_5.1).2.2 | (with_reducible refine Kd.C_alloc ?_ _) | (with_reducible refine Kd.C_drewN ?_ _) | (with_reducible refine Kd.C_drew ?_))); (case side2 => exact (Kd.c0z HO_5.1).2.1); rintro e w36 ⟨rfl, hb⟩; refine ⟨_, rfl, ?_⟩; have n0_ := a1z.mk (Kd.c7z (by (with_reducible repeat (first | apply Kd.R_alloc | apply Kd.a4z | apply Kd.a5z)); exact HO_3.1) hb); have n1_ := a1z.mk (Kd.c7z (by (with_reducible repeat (first | apply Kd.R_alloc | apply Kd.a4z | apply Kd.a5z)); exact HO_4.1) hb); have n2_ := a1z.mk (Kd.c7z (by (with_reducible repeat (first | apply Kd.R_alloc | apply Kd.a4z | apply Kd.a5z)); exact HO_5.1) hb); have n3_ := a1z.mk (Kd.c7z (by (with_reducible repeat (first | apply Kd.R_alloc | apply Kd.a4z | apply Kd.a5z)); exact HO_7.1) hb); have n4_ := a1z.mk (Kd.c7z (by (with_reducible repeat (first | apply Kd.R_alloc | apply Kd.a4z | apply Kd.a5z)); exact HO120.1) hb); have n5_ := a1z.mk (Kd.c7z (by (with_reducible repeat (first | apply Kd.R_alloc | apply Kd.a4z | apply Kd.a5z)); exact HO124.1) hb); have n6_ := a1z.mk (b3z (by repeat (first | (with_reducible first | exact HB.1 | apply a3z | apply a0z | apply a2z) | exact HB.1)) hb); clear HO_3; clear HO_4; clear HO_5; clear HO_7; clear HO120; clear HO124; clear HB; have HO_3 := n0_; have HO_4 := n1_; have HO_5 := n2_; have HO_7 := n3_; have HO120 := n4_; have HO124 := n5_; have HB := n6_; clear n0_ n1_ n2_ n3_ n4_ n5_ n6_; (try clear hb); (try clear hb2); (try clear hk); (try clear hi)) | ((with_reducible refine b8z (f := 23) rfl ?_); refine c8z (some 71) rfl rfl Try.func23 (by kernel_rfl) rfl #[.slice Ao34 t117.length co34] rfl (by (try simp only [List.map_toArray, List.map_cons, List.map_nil]); first | done | rfl | (simp only [List.length_drop, List.length_take]; rfl)) ?_; (with_reducible refine (impl_SetSize.calls kj5 _ _ t117 t126 _ ?side1 ?side2 A28.1).mono ?_); (case side1 => repeat (first | exact (Kd.c0z HO120.1).2.2 | (with_reducible refine Kd.C_alloc ?_ _) | (with_reducible refine Kd.C_drewN ?_ _) | (with_reducible refine Kd.C_drew ?_))); (case side2 => exact (Kd.c0z HO120.1).2.1); rintro e w37 ⟨rfl, hb⟩; refine ⟨_, rfl, ?_⟩; have n0_ := a1z.mk (Kd.c7z (by (with_reducible repeat (first | apply Kd.R_alloc | apply Kd.a4z | apply Kd.a5z)); exact HO_3.1) hb); have n1_ := a1z.mk (Kd.c7z (by (with_reducible repeat (first | apply Kd.R_alloc | apply Kd.a4z | apply Kd.a5z)); exact HO_4.1) hb); have n2_ := a1z.mk (Kd.c7z (by (with_reducible repeat (first | apply Kd.R_alloc | apply Kd.a4z | apply Kd.a5z)); exact HO_5.1) hb); have n3_ := a1z.mk (Kd.c7z (by (with_reducible repeat (first | apply Kd.R_alloc | apply Kd.a4z | apply Kd.a5z)); exact HO_7.1) hb); have n4_ := a1z.mk (Kd.c7z (by (with_reducible repeat (first | apply Kd.R_alloc | apply Kd.a4z | apply Kd.a5z)); exact HO120.1) hb); have n5_ := a1z.mk (Kd.c7z (by (with_reducible repeat (first | apply Kd.R_alloc | apply Kd.a4z | apply Kd.a5z)); exact HO124.1) hb); have n6_ := a1z.mk (b3z (by repeat (first | (with_reducible first | exact HB.1 | apply a3z | apply a0z | apply a2z) | exact HB.1)) hb); clear HO_3; clear HO_4; clear HO_5; clear HO_7; clear HO120; clear HO124; clear HB; have HO_3 := n0_; have HO_4 := n1_; have HO_5 := n2_; have HO_7 := n3_; have HO120 := n4_; have HO124 := n5_; have HB := n6_; clear n0_ n1_ n2_ n3_ n4_ n5_ n6_; (try clear hb); (try clear hb2); (try clear hk); (try clear hi)) | ((with_reducible refine b8z (f := 23) rfl ?_); refine c8z (some 74) rfl rfl Try.func23 (by kernel_rfl) rfl #[.slice Ao8 t101.length co8] rfl (by (try simp only [List.map_toArray, List.map_cons, List.map_nil]); first | done | rfl | (simp only [List.length_drop, List.length_take]; rfl)) ?_; (with_reducible refine (impl_SetSize.calls kj5 _ _ t101 t127 _ ?side1 ?side2 A29.1).mono ?_); (case side1 => repeat (first | exact (Kd.c0z HO_3.1).2.2 | (with_reducible refine Kd.C_alloc ?_ _) | (with_reducible refine Kd.C_drewN ?_ _) | (with_reducible refine Kd.C_drew ?_))); (case side2 => exact (Kd.c0z HO_3.1).2.1); rintro e w38 ⟨rfl, hb⟩; refine ⟨_, rfl, ?_⟩; have n0_ := a1z.mk (Kd.c7z (by (with_reducible repeat (first | apply Kd.R_alloc | apply Kd.a4z | apply Kd.a5z)); exact HO_3.1) hb); have n1_ := a1z.mk (Kd.c7z (by (with_reducible repeat (first | apply Kd.R_alloc | apply Kd.a4z | apply Kd.a5z)); exact HO_4.1) hb); have n2_ := a1z.mk (Kd.c7z (by (with_reducible repeat (first | apply Kd.R_alloc | apply Kd.a4z | apply Kd.a5z)); exact HO_5.1) hb); have n3_ := a1z.mk (Kd.c7z (by (with_reducible repeat (first | apply Kd.R_alloc | apply Kd.a4z | apply Kd.a5z)); exact HO_7.1) hb); have n4_ := a1z.mk (Kd.c7z (by (with_reducible repeat (first | apply Kd.R_alloc | apply Kd.a4z | apply Kd.a5z)); exact HO120.1) hb); have n5_ := a1z.mk (Kd.c7z (by (with_reducible repeat (first | apply Kd.R_alloc | apply Kd.a4z | apply Kd.a5z)); exact HO124.1) hb); have n6_ := a1z.mk (b3z (by repeat (first | (with_reducible first | exact HB.1 | apply a3z | apply a0z | apply a2z) | exact HB.1)) hb); clear HO_3; clear HO_4; clear HO_5; clear HO_7; clear HO120; clear HO124; clear HB; have HO_3 := n0_; have HO_4 := n1_; have HO_5 := n2_; have HO_7 := n3_; have HO120 := n4_; have HO124 := n5_; have HB := n6_; clear n0_ n1_ n2_ n3_ n4_ n5_ n6_; (try clear hb); (try clear hb2); (try clear hk); (try clear hi); obtain ⟨Ao39, co39, eo39⟩ := Kd.e1z HO124.1; subst eo39))
        go_ret
        exact ⟨by first | rfl | (simp [c2z, c1z] <;> rfl) | (simp [*, c2z, c1z] <;> rfl), by repeat (first | (with_reducible first | exact HB.1 | apply a3z | apply a0z | apply a2z) | exact HB.1)⟩
       ·replace c31 := Bool.eq_false_iff.mpr c31
        subst c31
        have H1 : (some false) = some r := by rw [if_neg (show ¬ (false = true) by decide)] at H; exact H
        clear H
        have H := H1
        clear H1
        obtain rfl := Option.some.inj H
        go_wp2_with (first | ((with_reducible refine b8z (f := 25) rfl ?_); refine c8z (some 57) rfl rfl Try.func25 (by kernel_rfl) rfl #[.slice Ao8 t101.length co8, .slice Ao9 t102.length co9] rfl (by (try simp only [List.map_toArray, List.map_cons, List.map_nil]); first | done | rfl | (simp only [List.length_drop, List.length_take]; rfl)) ?_; (with_reducible refine (impl_SetBoth.calls kj5 _ _ t101 _ _ t102 t117 true _ ?side1 ?side2 ?side3 ?side4 A24.1).mono ?_); (case side1 => repeat (first | exact (Kd.c0z HO_3.1).2.2 | (with_reducible refine Kd.C_alloc ?_ _) | (with_reducible refine Kd.C_drewN ?_ _) | (with_reducible refine Kd.C_drew ?_))); (case side2 => exact (Kd.c0z HO_3.1).2.1); (case side3 => repeat (first | exact (Kd.c0z HO_4.1).2.2 | (with_reducible refine Kd.C_alloc ?_ _) | (with_reducible refine Kd.C_drewN ?_ _) | (with_reducible refine Kd.C_drew ?_))); (case side4 => exact (Kd.c0z HO_4.1).2.1); rintro e w40 ⟨v119, rfl, ho0, hb⟩; refine ⟨_, rfl, ?_⟩; have n0_ := a1z.mk (Kd.c9z (by (with_reducible repeat (first | apply Kd.R_alloc | apply Kd.a4z | apply Kd.a5z)); exact HO_3.1) (Kd.e3z ho0) hb); have n1_ := a1z.mk (Kd.c9z (by (with_reducible repeat (first | apply Kd.R_alloc | apply Kd.a4z | apply Kd.a5z)); exact HO_4.1) (Kd.e3z ho0) hb); have n2_ := a1z.mk (Kd.c9z (by (with_reducible repeat (first | apply Kd.R_alloc | apply Kd.a4z | apply Kd.a5z)); exact HO_5.1) (Kd.e3z ho0) hb); have n3_ := a1z.mk (Kd.c9z (by (with_reducible repeat (first | apply Kd.R_alloc | apply Kd.a4z | apply Kd.a5z)); exact HO_7.1) (Kd.e3z ho0) hb); have n4_ := a1z.mk (Kd.d4z (Kd.e2z (Kd.e2z (Kd.e2z (Kd.e2z ho0 (Kd.R_lt (by (with_reducible repeat (first | apply Kd.R_alloc | apply Kd.a4z | apply Kd.a5z)); exact HO_3.1))) (Kd.R_lt (by (with_reducible repeat (first | apply Kd.R_alloc | apply Kd.a4z | apply Kd.a5z)); exact HO_4.1))) (Kd.R_lt (by (with_reducible repeat (first | apply Kd.R_alloc | apply Kd.a4z | apply Kd.a5z)); exact HO_5.1))) (Kd.R_lt (by (with_reducible repeat (first | apply Kd.R_alloc | apply Kd.a4z | apply Kd.a5z)); exact HO_7.1))) (b2z (by repeat (first | (with_reducible first | exact HB.1 | apply a3z | apply a0z | apply a2z) | exact HB.1)))); have n5_ := a1z.mk (b3z (by repeat (first | (with_reducible first | exact HB.1 | apply a3z | apply a0z | apply a2z) | exact HB.1)) hb); clear HO_3; clear HO_4; clear HO_5; clear HO_7; clear HB; have HO_3 := n0_; have HO_4 := n1_; have HO_5 := n2_; have HO_7 := n3_; have HO120 := n4_; have HB := n5_; clear n0_ n1_ n2_ n3_ n4_ n5_; (try clear hb); (try clear hb2); (try clear hk); (try clear hi); (try clear ho0); obtain ⟨Ao41, co41, eo41⟩ := Kd.e1z HO_5.1; subst eo41; obtain ⟨Ao42, co42, eo42⟩ := Kd.e1z HO120.1; subst eo42) | ((with_reducible refine b8z (f := 25) rfl ?_); refine c8z (some 65) rfl rfl Try.func25 (by kernel_rfl) rfl #[.slice Ao41 t107.length co41, .slice Ao42 t117.length co42] rfl (by (try simp only [List.map_toArray, List.map_cons, List.map_nil]); first | done | rfl | (simp only [List.length_drop, List.length_take]; rfl)) ?_; (with_reducible refine (impl_SetBoth.calls kj5 _ _ t107 _ _ t117 t121 false _ ?side1 ?side2 ?side3 ?side4 A26.1).mono ?_); (case side1 => repeat (first | exact (Kd.c0z HO_5.1).2.2 | (with_reducible refine Kd.C_alloc ?_ _) | (with_reducible refine Kd.C_drewN ?_ _) | (with_reducible refine Kd.C_drew ?_))); (case side2 => exact (Kd.c0z HO_5.1).2.1); (case side3 => repeat (first | exact (Kd.c0z HO120.1).2.2 | (with_reducible refine Kd.C_alloc ?_ _) | (with_reducible refine Kd.C_drewN ?_ _) | (with_reducible refine Kd.C_drew ?_))); (case side4 => exact (Kd.c0z HO120.1).2.1); rintro e w43 ⟨v123, rfl, ho0, hb⟩; refine ⟨_, rfl, ?_⟩; have n0_ := a1z.mk (Kd.c9z (by (with_reducible repeat (first | apply Kd.R_alloc | apply Kd.a4z | apply Kd.a5z)); exact HO_3.1) (Kd.e3z ho0) hb); have n1_ := a1z.mk (Kd.c9z (by (with_reducible repeat (first | apply Kd.R_alloc | apply Kd.a4z | apply Kd.a5z)); exact HO_4.1) (Kd.e3z ho0) hb); have n2_ := a1z.mk (Kd.c9z (by (with_reducible repeat (first | apply Kd.R_alloc | apply Kd.a4z | apply Kd.a5z)); exact HO_5.1) (Kd.e3z ho0) hb); have n3_ := a1z.mk (Kd.c9z (by (with_reducible repeat (first | apply Kd.R_alloc | apply Kd.a4z | apply Kd.a5z)); exact HO_7.1) (Kd.e3z ho0) hb); have n4_ := a1z.mk (Kd.c9z (by (with_reducible repeat (first | apply Kd.R_alloc | apply Kd.a4z | apply Kd.a5z)); exact HO120.1) (Kd.e3z ho0) hb); have n5_ := a1z.mk (Kd.d4z (Kd.e2z (Kd.e2z (Kd.e2z (Kd.e2z (Kd.e2z ho0 (Kd.R_lt (by (with_reducible repeat (first | apply Kd.R_alloc | apply Kd.a4z | apply Kd.a5z)); exact HO_3.1))) (Kd.R_lt (by (with_reducible repeat (first | apply Kd.R_alloc | apply Kd.a4z | apply Kd.a5z)); exact HO_4.1))) (Kd.R_lt (by (with_reducible repeat (first | apply Kd.R_alloc | apply Kd.a4z | apply Kd.a5z)); exact HO_5.1))) (Kd.R_lt (by (with_reducible repeat (first | apply Kd.R_alloc | apply Kd.a4z | apply Kd.a5z)); exact HO_7.1))) (Kd.R_lt (by (with_reducible repeat (first | apply Kd.R_alloc | apply Kd.a4z | apply Kd.a5z)); exact HO120.1))) (b2z (by repeat (first | (with_reducible first | exact HB.1 | apply a3z | apply a0z | apply a2z) | exact HB.1)))); have n6_ := a1z.mk (b3z (by repeat (first | (with_reducible first | exact HB.1 | apply a3z | apply a0z | apply a2z) | exact HB.1)) hb); clear HO_3; clear HO_4; clear HO_5; clear HO_7; clear HO120; clear HB; have HO_3 := n0_; have HO_4 := n1_; have HO_5 := n2_; have HO_7 := n3_; have HO120 := n4_; have HO124 := n5_; have HB := n6_; clear n0_ n1_ n2_ n3_ n4_ n5_ n6_; (try clear hb); (try clear hb2); (try clear hk); (try clear hi); (try clear ho0)) | ((with_reducible refine b8z (f := 23) rfl ?_); refine c8z (some 69) rfl rfl Try.func23 (by kernel_rfl) rfl #[.slice Ao41 t107.length co41] rfl (by (try simp only [List.map_toArray, List.map_cons, List.map_nil]); first | done | rfl | (simp only [List.length_drop, List.length_take]; rfl)) ?_; (with_reducible refine (impl_SetSize.calls kj5 _ _ t107 t125 _ ?side1 ?side2 A27.1).mono ?_); (case side1 => repeat (first | exact (Kd.c0z HO_5.1).2.2 | (with_reducible refine Kd.C_alloc ?_ _) | (with_reducible refine Kd.C_drewN ?_ _) | (with_reducible refine Kd.C_drew ?_))); (case side2 => exact (Kd.c0z HO_5.1).2.1); rintro e w44 ⟨rfl, hb⟩; refine ⟨_, rfl, ?_⟩; have n0_ := a1z.mk (Kd.c7z (by (with_reducible repeat (first | apply Kd.R_alloc | apply Kd.a4z | apply Kd.a5z)); exact HO_3.1) hb); have n1_ := a1z.mk (Kd.c7z (by (with_reducible repeat (first | apply Kd.R_alloc | apply Kd.a4z | apply Kd.a5z)); exact HO_4.1) hb); have n2_ := a1z.mk (Kd.c7z (by (with_reducible repeat (first | apply Kd.R_alloc | apply Kd.a4z | apply Kd.a5z)); exact HO_5.1) hb); have n3_ := a1z.mk (Kd.c7z (by (with_reducible repeat (first | apply Kd.R_alloc | apply Kd.a4z | apply Kd.a5z)); exact HO_7.1) hb); have n4_ := a1z.mk (Kd.c7z (by (with_reducible repeat (first | apply Kd.R_alloc | apply Kd.a4z | apply Kd.a5z)); exact HO120.1) hb); have n5_ := a1z.mk (Kd.c7z (by (with_reducible repeat (first | apply Kd.R_alloc | apply Kd.a4z | apply Kd.a5z)); exact HO124.1) hb); have n6_ := a1z.mk (b3z (by repeat (first | (with_reducible first | exact HB.1 | apply a3z | apply a0z | apply a2z) | exact HB.1)) hb); clear HO_3; clear HO_4; clear HO_5; clear HO_7; clear HO120; clear HO124; clear HB; have HO_3 := n0_; have HO_4 := n1_; have HO_5 := n2_; have HO_7 := n3_; have HO120 := n4_; have HO124 := n5_; have HB := n6_; clear n0_ n1_ n2_ n3_ n4_ n5_ n6_; (try clear hb); (try clear hb2); (try clear hk); (try clear hi)) | ((with_reducible refine b8z (f := 23) rfl ?_); refine c8z (some 71) rfl rfl Try.func23 (by kernel_rfl) rfl #[.slice Ao42 t117.length co42] rfl (by (try simp only [List.map_toArray, List.map_cons, List.map_nil]); first | done | rfl | (simp only [List.length_drop, List.length_take]; rfl)) ?_; (with_reducible refine (impl_SetSize.calls kj5 _ _ t117 t126 _ ?side1 ?side2 A28.1).mono ?_); (case side1 => repeat (first | exact (Kd.c0z HO120.1).2.2 | (with_reducible refine Kd.C_alloc ?_ _) | (with_reducible refine Kd.C_drewN ?_ _) | (with_reducible refine Kd.C_drew ?_))); (case side2 => exact (Kd.c0z HO120.1).2.1); rintro e w45 ⟨rfl, hb⟩; refine ⟨_, rfl, ?_⟩; have n0_ := a1z.mk (Kd.c7z (by (with_reducible repeat (first | apply Kd.R_alloc | apply Kd.a4z | apply Kd.a5z)); exact HO_3.1) hb); have n1_ := a1z.mk (Kd.c7z (by (with_reducible repeat (first | apply Kd.R_alloc | apply Kd.a4z | apply Kd.a5z)); exact HO_4.1) hb); have n2_ := a1z.mk (Kd.c7z (by (with_reducible repeat (first | apply Kd.R_alloc | apply Kd.a4z | apply Kd.a5z)); exact HO_5.1) hb); have n3_ := a1z.mk (Kd.c7z (by (with_reducible repeat (first | apply Kd.R_alloc | apply Kd.a4z | apply Kd.a5z)); exact HO_7.1) hb); have n4_ := a1z.mk (Kd.c7z (by (with_reducible repeat (first | apply Kd.R_alloc | apply Kd.a4z | apply Kd.a5z)); exact HO120.1) hb); have n5_ := a1z.mk (Kd.c7z (by (with_reducible repeat (first | apply Kd.R_alloc | apply Kd.a4z | apply Kd.a5z)); exact HO124.1) hb); have n6_ := a1z.mk (b3z (by repeat (first | (with_reducible first | exact HB.1 | apply a3z | apply a0z | apply a2z) | exact HB.1)) hb); clear HO_3; clear HO_4; clear HO_5; clear HO_7; clear HO120; clear HO124; clear HB; have HO_3 := n0_; have HO_4 := n1_; have HO_5 := n2_; have HO_7 := n3_; have HO120 := n4_; have HO124 := n5_; have HB := n6_; clear n0_ n1_ n2_ n3_ n4_ n5_ n6_; (try clear hb); (try clear hb2); (try clear hk); (try clear hi)) | ((with_reducible refine b8z (f := 23) rfl ?_); refine c8z (some 74) rfl rfl Try.func23 (by kernel_rfl) rfl #[.slice Ao8 t101.length co8] rfl (by (try simp only [List.map_toArray, List.map_cons, List.map_nil]); first | done | rfl | (simp only [List.length_drop, List.length_take]; rfl)) ?_; (with_reducible refine (impl_SetSize.calls kj5 _ _ t101 t127 _ ?side1 ?side2 A29.1).mono ?_); (case side1 => repeat (first | exact (Kd.c0z HO_3.1).2.2 | (with_reducible refine Kd.C_alloc ?_ _) | (with_reducible refine Kd.C_drewN ?_ _) | (with_reducible refine Kd.C_drew ?_))); (case side2 => exact (Kd.c0z HO_3.1).2.1); rintro e w46 ⟨rfl, hb⟩; refine ⟨_, rfl, ?_⟩; have n0_ := a1z.mk (Kd.c7z (by (with_reducible repeat (first | apply Kd.R_alloc | apply Kd.a4z | apply Kd.a5z)); exact HO_3.1) hb); have n1_ := a1z.mk (Kd.c7z (by (with_reducible repeat (first | apply Kd.R_alloc | apply Kd.a4z | apply Kd.a5z)); exact HO_4.1) hb); have n2_ := a1z.mk (Kd.c7z (by (with_reducible repeat (first | apply Kd.R_alloc | apply Kd.a4z | apply Kd.a5z)); exact HO_5.1) hb); have n3_ := a1z.mk (Kd.c7z (by (with_reducible repeat (first | apply Kd.R_alloc | apply Kd.a4z | apply Kd.a5z)); exact HO_7.1) hb); have n4_ := a1z.mk (Kd.c7z (by (with_reducible repeat (first | apply Kd.R_alloc | apply Kd.a4z | apply Kd.a5z)); exact HO120.1) hb); have n5_ := a1z.mk (Kd.c7z (by (with_reducible repeat (first | apply Kd.R_alloc | apply Kd.a4z | apply Kd.a5z)); exact HO124.1) hb); have n6_ := a1z.mk (b3z (by repeat (first | (with_reducible first | exact HB.1 | apply a3z | apply a0z | apply a2z) | exact HB.1)) hb); clear HO_3; clear HO_4; clear HO_5; clear HO_7; clear HO120; clear HO124; clear HB; have HO_3 := n0_; have HO_4 := n1_; have HO_5 := n2_; have HO_7 := n3_; have HO120 := n4_; have HO124 := n5_; have HB := n6_; clear n0_ n1_ n2_ n3_ n4_ n5_ n6_; (try clear hb); (try clear hb2); (try clear hk); (try clear hi)))
        go_ret
        exact ⟨by first | rfl | (simp [c2z, c1z] <;> rfl) | (simp [*, c2z, c1z] <;> rfl), by repeat (first | (with_reducible first | exact HB.1 | apply a3z | apply a0z | apply a2z) | exact HB.1)⟩
      ·rw [if_neg c30] at H
       have c30b0 : ((wrap64 (t125 + t126)) == t127) = false := beq_eq_false_iff_ne.mpr c30
       have c30b1 : ((wrap64 (t125 + t126)) != t127) = true := bne_iff_ne.mpr c30
       obtain rfl := Option.some.inj H
       go_wp2_with (first | ((with_reducible refine b8z (f := 25) rfl ?_); refine c8z (some 57) rfl rfl Try.func25 (by kernel_rfl) rfl #[.slice Ao8 t101.length co8, .slice Ao9 t102.length co9] rfl (by (try simp only [List.map_toArray, List.map_cons, List.map_nil]); first | done | rfl | (simp only [List.length_drop, List.length_take]; rfl)) ?_; (with_reducible refine (impl_SetBoth.calls kj5 _ _ t101 _ _ t102 t117 true _ ?side1 ?side2 ?side3 ?side4 A24.1).mono ?_); (case side1 => repeat (first | exact (Kd.c0z HO_3.1).2.2 | (with_reducible refine Kd.C_alloc ?_ _) | (with_reducible refine Kd.C_drewN ?_ _) | (with_reducible refine Kd.C_drew ?_))); (case side2 => exact (Kd.c0z HO_3.1).2.1); (case side3 => repeat (first | exact (Kd.c0z HO_4.1).2.2 | (with_reducible refine Kd.C_alloc ?_ _) | (with_reducible refine Kd.C_drewN ?_ _) | (with_reducible refine Kd.C_drew ?_))); (case side4 => exact (Kd.c0z HO_4.1).2.1); rintro e w47 ⟨v119, rfl, ho0, hb⟩; refine ⟨_, rfl, ?_⟩; have n0_ := a1z.mk (Kd.c9z (by (with_reducible repeat (first | apply Kd.R_alloc | apply Kd.a4z | apply Kd.a5z)); exact HO_3.1) (Kd.e3z ho0) hb); have n1_ := a1z.mk (Kd.c9z (by (with_reducible repeat (first | apply Kd.R_alloc | apply Kd.a4z | apply Kd.a5z)); exact HO_4.1) (Kd.e3z ho0) hb); have n2_ := a1z.mk (Kd.c9z (by (with_reducible repeat (first | apply Kd.R_alloc | apply Kd.a4z | apply Kd.a5z)); exact HO_5.1) (Kd.e3z ho0) hb); have n3_ := a1z.mk (Kd.c9z (by (with_reducible repeat (first | apply Kd.R_alloc | apply Kd.a4z | apply Kd.a5z)); exact HO_7.1) (Kd.e3z ho0) hb); have n4_ := a1z.mk (Kd.d4z (Kd.e2z (Kd.e2z (Kd.e2z (Kd.e2z ho0 (Kd.R_lt (by (with_reducible repeat (first | apply Kd.R_alloc | apply Kd.a4z | apply Kd.a5z)); exact HO_3.1))) (Kd.R_lt (by (with_reducible repeat (first | apply Kd.R_alloc | apply Kd.a4z | apply Kd.a5z)); exact HO_4.1))) (Kd.R_lt (by (with_reducible repeat (first | apply Kd.R_alloc | apply Kd.a4z | apply Kd.a5z)); exact HO_5.1))) (Kd.R_lt (by (with_reducible repeat (first | apply Kd.R_alloc | apply Kd.a4z | apply Kd.a5z)); exact HO_7.1))) (b2z (by repeat (first | (with_reducible first | exact HB.1 | apply a3z | apply a0z | apply a2z) | exact HB.1)))); have n5_ := a1z.mk (b3z (by repeat (first | (with_reducible first | exact HB.1 | apply a3z | apply a0z | apply a2z) | exact HB.1)) hb); clear HO_3; clear HO_4; clear HO_5; clear HO_7; clear HB; have HO_3 := n0_; have HO_4 := n1_; have HO_5 := n2_; have HO_7 := n3_; have HO120 := n4_; have HB := n5_; clear n0_ n1_ n2_ n3_ n4_ n5_; (try clear hb); (try clear hb2); (try clear hk); (try clear hi); (try clear ho0); obtain ⟨Ao48, co48, eo48⟩ := Kd.e1z HO_5.1; subst eo48; obtain ⟨Ao49, co49, eo49⟩ := Kd.e1z HO120.1; subst eo49) | ((with_reducible refine b8z (f := 25) rfl ?_); refine c8z (some 65) rfl rfl Try.func25 (by kernel_rfl) rfl #[.slice Ao48 t107.length co48, .slice Ao49 t117.length co49] rfl (by (try simp only [List.map_toArray, List.map_cons, List.map_nil]); first | done | rfl | (simp only [List.length_drop, List.length_take]; rfl)) ?_; (with_reducible refine (impl_SetBoth.calls kj5 _ _ t107 _ _ t117 t121 t122 _ ?side1 ?side2 ?side3 ?side4 A26.1).mono ?_); (case side1 => repeat (first | exact (Kd.c0z HO_5.1).2.2 | (with_reducible refine Kd.C_alloc ?_ _) | (with_reducible refine Kd.C_drewN ?_ _) | (with_reducible refine Kd.C_drew ?_))); (case side2 => exact (Kd.c0z HO_5.1).2.1); (case side3 => repeat (first | exact (Kd.c0z HO120.1).2.2 | (with_reducible refine Kd.C_alloc ?_ _) | (with_reducible refine Kd.C_drewN ?_ _) | (with_reducible refine Kd.C_drew ?_))); (case side4 => exact (Kd.c0z HO120.1).2.1); rintro e w50 ⟨v123, rfl, ho0, hb⟩; refine ⟨_, rfl, ?_⟩; have n0_ := a1z.mk (Kd.c9z (by (with_reducible repeat (first | apply Kd.R_alloc | apply Kd.a4z | apply Kd.a5z)); exact HO_3.1) (Kd.e3z ho0) hb); have n1_ := a1z.mk (Kd.c9z (by (with_reducible repeat (first | apply Kd.R_alloc | apply Kd.a4z | apply Kd.a5z)); exact HO_4.1) (Kd.e3z ho0) hb); have n2_ := a1z.mk (Kd.c9z (by (with_reducible repeat (first | apply Kd.R_alloc | apply Kd.a4z | apply Kd.a5z)); exact HO_5.1) (Kd.e3z ho0) hb); have n3_ := a1z.mk (Kd.c9z (by (with_reducible repeat (first | apply Kd.R_alloc | apply Kd.a4z | apply Kd.a5z)); exact HO_7.1) (Kd.e3z ho0) hb); have n4_ := a1z.mk (Kd.c9z (by (with_reducible repeat (first | apply Kd.R_alloc | apply Kd.a4z | apply Kd.a5z)); exact HO120.1) (Kd.e3z ho0) hb); have n5_ := a1z.mk (Kd.d4z (Kd.e2z (Kd.e2z (Kd.e2z (Kd.e2z (Kd.e2z ho0 (Kd.R_lt (by (with_reducible repeat (first | apply Kd.R_alloc | apply Kd.a4z | apply Kd.a5z)); exact HO_3.1))) (Kd.R_lt (by (with_reducible repeat (first | apply Kd.R_alloc | apply Kd.a4z | apply Kd.a5z)); exact HO_4.1))) (Kd.R_lt (by (with_reducible repeat (first | apply Kd.R_alloc | apply Kd.a4z | apply Kd.a5z)); exact HO_5.1))) (Kd.R_lt (by (with_reducible repeat (first | apply Kd.R_alloc | apply Kd.a4z | apply Kd.a5z)); exact HO_7.1))) (Kd.R_lt (by (with_reducible repeat (first | apply Kd.R_alloc | apply Kd.a4z | apply Kd.a5z)); exact HO120.1))) (b2z (by repeat (first | (with_reducible first | exact HB.1 | apply a3z | apply a0z | apply a2z) | exact HB.1)))); have n6_ := a1z.mk (b3z (by repeat (first | (with_reducible first | exact HB.1 | apply a3z | apply a0z | apply a2z) | exact HB.1)) hb); clear HO_3; clear HO_4; clear HO_5; clear HO_7; clear HO120; clear HB; have HO_3 := n0_; have HO_4 := n1_; have HO_5 := n2_; have HO_7 := n3_; have HO120 := n4_; have HO124 := n5_; have HB := n6_; clear n0_ n1_ n2_ n3_ n4_ n5_ n6_; (try clear hb); (try clear hb2); (try clear hk); (try clear hi); (try clear ho0)) | ((with_reducible refine b8z (f := 23) rfl ?_); refine c8z (some 69) rfl rfl Try.func23 (by kernel_rfl) rfl #[.slice Ao48 t107.length co48] rfl (by (try simp only [List.map_toArray, List.map_cons, List.map_nil]); first | done | rfl | (simp only [List.length_drop, List.length_take]; rfl)) ?_; (with_reducible refine (impl_SetSize.calls kj5 _ _ t107 t125 _ ?side1 ?side2 A27.1).mono ?_); (case side1 => repeat (first | exact (Kd.c0z HO_5.1).2.2 | (with_reducible refine Kd.C_alloc ?_ _) | (with_reducible refine Kd.C_drewN ?_ _) | (with_reducible refine Kd.C_drew ?_))); (case side2 => exact (Kd.c0z HO_5.1).2.1); rintro e w51 ⟨rfl, hb⟩; refine ⟨_, rfl, ?_⟩; have n0_ := a1z.mk (Kd.c7z (by (with_reducible repeat (first | apply Kd.R_alloc | apply Kd.a4z | apply Kd.a5z)); exact HO_3.1) hb); have n1_ := a1z.mk (Kd.c7z (by (with_reducible repeat (first | apply Kd.R_alloc | apply Kd.a4z | apply Kd.a5z)); exact HO_4.1) hb); have n2_ := a1z.mk (Kd.c7z (by (with_reducible repeat (first | apply Kd.R_alloc | apply Kd.a4z | apply Kd.a5z)); exact HO_5.1) hb); have n3_ := a1z.mk (Kd.c7z (by (with_reducible repeat (first | apply Kd.R_alloc | apply Kd.a4z | apply Kd.a5z)); exact HO_7.1) hb); have n4_ := a1z.mk (Kd.c7z (by (with_reducible repeat (first | apply Kd.R_alloc | apply Kd.a4z | apply Kd.a5z)); exact HO120.1) hb); have n5_ := a1z.mk (Kd.c7z (by (with_reducible repeat (first | apply Kd.R_alloc | apply Kd.a4z | apply Kd.a5z)); exact HO124.1) hb); have n6_ := a1z.mk (b3z (by repeat (first | (with_reducible first | exact HB.1 | apply a3z | apply a0z | apply a2z) | exact HB.1)) hb); clear HO_3; clear HO_4; clear HO_5; clear HO_7; clear HO120; clear HO124; clear HB; have HO_3 := n0_; have HO_4 := n1_; have HO_5 := n2_; have HO_7 := n3_; have HO120 := n4_; have HO124 := n5_; have HB := n6_; clear n0_ n1_ n2_ n3_ n4_ n5_ n6_; (try clear hb); (try clear hb2); (try clear hk); (try clear hi)) | ((with_reducible refine b8z (f := 23) rfl ?_); refine c8z (some 71) rfl rfl Try.func23 (by kernel_rfl) rfl #[.slice Ao49 t117.length co49] rfl (by (try simp only [List.map_toArray, List.map_cons, List.map_nil]); first | done | rfl | (simp only [List.length_drop, List.length_take]; rfl)) ?_; (with_reducible refine (impl_SetSize.calls kj5 _ _ t117 t126 _ ?side1 ?side2 A28.1).mono ?_); (case side1 => repeat (first | exact (Kd.c0z HO120.1).2.2 | (with_reducible refine Kd.C_alloc ?_ _) | (with_reducible refine Kd.C_drewN ?_ _) | (with_reducible refine Kd.C_drew ?_))); (case side2 => exact (Kd.c0z HO120.1).2.1); rintro e w52 ⟨rfl, hb⟩; refine ⟨_, rfl, ?_⟩; have n0_ := a1z.mk (Kd.c7z (by (with_reducible repeat (first | apply Kd.R_alloc | apply Kd.a4z | apply Kd.a5z)); exact HO_3.1) hb); have n1_ := a1z.mk (Kd.c7z (by (with_reducible repeat (first | apply Kd.R_alloc | apply Kd.a4z | apply Kd.a5z)); exact HO_4.1) hb); have n2_ := a1z.mk (Kd.c7z (by (with_reducible repeat (first | apply Kd.R_alloc | apply Kd.a4z | apply Kd.a5z)); exact HO_5.1) hb); have n3_ := a1z.mk (Kd.c7z (by (with_reducible repeat (first | apply Kd.R_alloc | apply Kd.a4z | apply Kd.a5z)); exact HO_7.1) hb); have n4_ := a1z.mk (Kd.c7z (by (with_reducible repeat (first | apply Kd.R_alloc | apply Kd.a4z | apply Kd.a5z)); exact HO120.1) hb); have n5_ := a1z.mk (Kd.c7z (by (with_reducible repeat (first | apply Kd.R_alloc | apply Kd.a4z | apply Kd.a5z)); exact HO124.1) hb); have n6_ := a1z.mk (b3z (by repeat (first | (with_reducible first | exact HB.1 | apply a3z | apply a0z | apply a2z) | exact HB.1)) hb); clear HO_3; clear HO_4; clear HO_5; clear HO_7; clear HO120; clear HO124; clear HB; have HO_3 := n0_; have HO_4 := n1_; have HO_5 := n2_; have HO_7 := n3_; have HO120 := n4_; have HO124 := n5_; have HB := n6_; clear n0_ n1_ n2_ n3_ n4_ n5_ n6_; (try clear hb); (try clear hb2); (try clear hk); (try clear hi)) | ((with_reducible refine b8z (f := 23) rfl ?_); refine c8z (some 74) rfl rfl Try.func23 (by kernel_rfl) rfl #[.slice Ao8 t101.length co8] rfl (by (try simp only [List.map_toArray, List.map_cons, List.map_nil]); first | done | rfl | (simp only [List.length_drop, List.length_take]; rfl)) ?_; (with_reducible refine (impl_SetSize.calls kj5 _ _ t101 t127 _ ?side1 ?side2 A29.1).mono ?_); (case side1 => repeat (first | exact (Kd.c0z HO_3.1).2.2 | (with_reducible refine Kd.C_alloc ?_ _) | (with_reducible refine Kd.C_drewN ?_ _) | (with_reducible refine Kd.C_drew ?_))); (case side2 => exact (Kd.c0z HO_3.1).2.1); rintro e w53 ⟨rfl, hb⟩; refine ⟨_, rfl, ?_⟩; have n0_ := a1z.mk (Kd.c7z (by (with_reducible repeat (first | apply Kd.R_alloc | apply Kd.a4z | apply Kd.a5z)); exact HO_3.1) hb); have n1_ := a1z.mk (Kd.c7z (by (with_reducible repeat (first | apply Kd.R_alloc | apply Kd.a4z | apply Kd.a5z)); exact HO_4.1) hb); have n2_ := a1z.mk (Kd.c7z (by (with_reducible repeat (first | apply Kd.R_alloc | apply Kd.a4z | apply Kd.a5z)); exact HO_5.1) hb); have n3_ := a1z.mk (Kd.c7z (by (with_reducible repeat (first | apply Kd.R_alloc | apply Kd.a4z | apply Kd.a5z)); exact HO_7.1) hb); have n4_ := a1z.mk (Kd.c7z (by (with_reducible repeat (first | apply Kd.R_alloc | apply Kd.a4z | apply Kd.a5z)); exact HO120.1) hb); have n5_ := a1z.mk (Kd.c7z (by (with_reducible repeat (first | apply Kd.R_alloc | apply Kd.a4z | apply Kd.a5z)); exact HO124.1) hb); have n6_ := a1z.mk (b3z (by repeat (first | (with_reducible first | exact HB.1 | apply a3z | apply a0z | apply a2z) | exact HB.1)) hb); clear HO_3; clear HO_4; clear HO_5; clear HO_7; clear HO120; clear HO124; clear HB; have HO_3 := n0_; have HO_4 := n1_; have HO_5 := n2_; have HO_7 := n3_; have HO120 := n4_; have HO124 := n5_; have HB := n6_; clear n0_ n1_ n2_ n3_ n4_ n5_ n6_; (try clear hb); (try clear hb2); (try clear hk); (try clear hi)))
       go_ret
       exact ⟨by first | rfl | (simp [c2z, c1z] <;> rfl) | (simp [*, c2z, c1z] <;> rfl), by repeat (first | (with_reducible first | exact HB.1 | apply a3z | apply a0z | apply a2z) | exact HB.1)⟩
     ·replace c25 := Bool.eq_false_iff.mpr c25
      subst c25
      have H1 : (some true) = some r := by rw [if_neg (show ¬ (false = true) by decide)] at H; exact H
      clear H
      have H := H1
      clear H1
      obtain rfl := Option.some.inj H
      go_wp2_with (first | ((with_reducible refine b8z (f := 25) rfl ?_); refine c8z (some 57) rfl rfl Try.func25 (by kernel_rfl) rfl #[.slice Ao8 t101.length co8, .slice Ao9 t102.length co9] rfl (by (try simp only [List.map_toArray, List.map_cons, List.map_nil]); first | done | rfl | (simp only [List.length_drop, List.length_take]; rfl)) ?_; (with_reducible refine (impl_SetBoth.calls kj5 _ _ t101 _ _ t102 t117 false _ ?side1 ?side2 ?side3 ?side4 A24.1).mono ?_); (case side1 => repeat (first | exact (Kd.c0z HO_3.1).2.2 | (with_reducible refine Kd.C_alloc ?_ _) | (with_reducible refine Kd.C_drewN ?_ _) | (with_reducible refine Kd.C_drew ?_))); (case side2 => exact (Kd.c0z HO_3.1).2.1); (case side3 => repeat (first | exact (Kd.c0z HO_4.1).2.2 | (with_reducible refine Kd.C_alloc ?_ _) | (with_reducible refine Kd.C_drewN ?_ _) | (with_reducible refine Kd.C_drew ?_))); (case side4 => exact (Kd.c0z HO_4.1).2.1); rintro e w54 ⟨v119, rfl, ho0, hb⟩; refine ⟨_, rfl, ?_⟩; have n0_ := a1z.mk (Kd.c9z (by (with_reducible repeat (first | apply Kd.R_alloc | apply Kd.a4z | apply Kd.a5z)); exact HO_3.1) (Kd.e3z ho0) hb); have n1_ := a1z.mk (Kd.c9z (by (with_reducible repeat (first | apply Kd.R_alloc | apply Kd.a4z | apply Kd.a5z)); exact HO_4.1) (Kd.e3z ho0) hb); have n2_ := a1z.mk (Kd.c9z (by (with_reducible repeat (first | apply Kd.R_alloc | apply Kd.a4z | apply Kd.a5z)); exact HO_5.1) (Kd.e3z ho0) hb); have n3_ := a1z.mk (Kd.c9z (by (with_reducible repeat (first | apply Kd.R_alloc | apply Kd.a4z | apply Kd.a5z)); exact HO_7.1) (Kd.e3z ho0) hb); have n4_ := a1z.mk (Kd.d4z (Kd.e2z (Kd.e2z (Kd.e2z (Kd.e2z ho0 (Kd.R_lt (by (with_reducible repeat (first | apply Kd.R_alloc | apply Kd.a4z | apply Kd.a5z)); exact HO_3.1))) (Kd.R_lt (by (with_reducible repeat (first | apply Kd.R_alloc | apply Kd.a4z | apply Kd.a5z)); exact HO_4.1))) (Kd.R_lt (by (with_reducible repeat (first | apply Kd.R_alloc | apply Kd.a4z | apply Kd.a5z)); exact HO_5.1))) (Kd.R_lt (by (with_reducible repeat (first | apply Kd.R_alloc | apply Kd.a4z | apply Kd.a5z)); exact HO_7.1))) (b2z (by repeat (first | (with_reducible first | exact HB.1 | apply a3z | apply a0z | apply a2z) | exact HB.1)))); have n5_ := a1z.mk (b3z (by repeat (first | (with_reducible first | exact HB.1 | apply a3z | apply a0z | apply a2z) | exact HB.1)) hb); clear HO_3; clear HO_4; clear HO_5; clear HO_7; clear HB; have HO_3 := n0_; have HO_4 := n1_; have HO_5 := n2_; have HO_7 := n3_; have HO120 := n4_; have HB := n5_; clear n0_ n1_ n2_ n3_ n4_ n5_; (try clear hb); (try clear hb2); (try clear hk); (try clear hi); (try clear ho0)))
      go_ret
      exact ⟨by first | rfl | (simp [c2z, c1z] <;> rfl) | (simp [*, c2z, c1z] <;> rfl), by repeat (first | (with_reducible first | exact HB.1 | apply a3z | apply a0z | apply a2z) | exact HB.1)⟩
end Go.Proofs.Ytmdhedkgpgoneaa.Q

namespace Go.Proofs.Ytmdhedkgpgoneaa.Open
open Go.RowKit Go.ChangeShapes Go.WideShapes Go.Deep Go.Proofs.YtmdhedkgpgoneaaW.PrintWords
/-- A number fits its kind. -/
def Fits (k : IntKind) (n : Int) : Prop := (Lit.int k n).wf = true
/-- What the cells of a type say. -/
def Opens (P : Program) (w : World) (t : TypeId) {α : Type} (d : Kd α) (p : α → Prop) : Prop :=
 ∀ (H : Type) (enc : TypeId × Value → H) (base : Nat) (spare : Nat → Bool) (held : Bool) (fuel : Nat) (cs : List Value) (x : DataW H × List MemPlace),
  DataW.trod enc P w base spare held fuel t cs = some x → ∃ a, d.K w a cs ∧ p a
theorem opens_int {P : Program} {w : World} {t : TypeId} {k : IntKind} (ht : P.underlying t = some (.int k)) : Opens P w t (Kd.int k) (fun n => Fits k n) := by
 intro H enc base spare held fuel cs x h
 obtain ⟨n, rfl, _, hw⟩ := DataW.trod_int ht h
 exact ⟨n, rfl, hw⟩
theorem pick {α : Type} (n : Nat) (R : Nat → α → Prop) (h : ∀ i, i < n → ∃ a, R i a) : ∃ xs : List α, xs.length = n ∧ ∀ i a, xs[i]? = some a → R i a := by
 induction n with
 | zero => exact ⟨[], rfl, fun i a e => by simp at e⟩
 | succ n ih =>
  obtain ⟨xs, hl, hx⟩ := ih (fun i hi => h i (by omega))
  obtain ⟨a, ha⟩ := h n (by omega)
  refine ⟨xs ++ [a], by simp [hl], fun i b e => ?_⟩
  rcases Nat.lt_or_ge i xs.length with hi | hi
  ·rw [List.getElem?_append_left hi] at e
   exact hx i b e
  ·have hlt := (List.getElem?_eq_some_iff.1 e).1
   rw [List.length_append, List.length_singleton] at hlt
   obtain rfl : i = xs.length := by omega
   simp at e
   subst e
   rw [hl]
   exact ha
theorem opens_slice {P : Program} {w : World} {t e : TypeId} {α : Type} {d : Kd α} {p : α → Prop} (ht : P.underlying t = some (.slice e)) (hc : P.cellsOf e = d.sz) (he : Opens P w e d p) :
  Opens P w t (Kd.slice e d) (fun xs => xs.length ≤ 9223372036854775807 ∧ ∀ y ∈ xs, p y) := by
 intro H enc base spare held fuel cs x h
 rcases open_slice ht h with ⟨rfl, _⟩ | ⟨a, len, cap, m, n, D, Pl, rfl, _, hl, hm, hmm, _, hi⟩
 ·exact ⟨[], ⟨none, 0, rfl, by simp, by simp, by simp, fun hn => by simp at hn⟩, by simp, by simp⟩
 ·have hle : len ≤ m := by rw [hmm]; split <;> omega
  obtain ⟨xs, hxl, hx⟩ := pick len (fun i y => p y ∧ ∃ c, c.length = d.sz ∧ d.K w y c ∧ ∀ j u, c[j]? = some u → w.cell? (a.add (i * d.sz + j)) = some u) (fun i hil => by
   obtain ⟨cs', h1, h2⟩ := hi i (by omega)
   obtain ⟨y, hK, hp⟩ := he _ _ _ _ _ _ _ _ h2
   obtain ⟨_, hcl, hat⟩ := World.cells?_some h1
   rw [hc] at hcl hat
   refine ⟨y, hp, cs', hcl, hK, fun j u hu => ?_⟩
   have hj := (List.getElem?_eq_some_iff.1 hu).1
   rw [← Go.Deep.add_add, hat j (by omega), hu])
  have hmx : maxLen = 9223372036854775807 := rfl
  refine ⟨xs, ⟨some a, cap, by rw [hxl], by omega, ?_⟩, by omega, fun y hy => ?_⟩
  ·refine ⟨rfl, by omega, fun _ => ⟨a, rfl, fun j q hj => ?_⟩⟩
   obtain ⟨_, c, h1, h2, h3⟩ := hx j q hj
   exact ⟨c, h1, h2, h3⟩
  ·obtain ⟨i, hi2⟩ := List.getElem?_of_mem hy
   exact (hx i y hi2).1
theorem open_arg {H : Type} {enc : TypeId × Value → H} {P : Program} {w : World} {base : Nat} {spare : Nat → Bool} {held : Bool} {t : TypeId} {α : Type} {d : Kd α} {p : α → Prop} {v : Value} {dt : DataW H} {ps : List MemPlace} (he : Opens P w t d p)
  (h : DataW.Trod enc P w base spare held t v dt ps) : ∃ a, d.K w a v.cells.toList ∧ p a := by
 obtain ⟨fuel, hf⟩ := h
 exact he _ _ _ _ _ _ _ _ hf
theorem slice_of_cells {a A : Option Addr} {len cap n c : Nat} (h : (Value.slice a len cap).cells.toList = [.slice A n c]) : A = a ∧ len = n ∧ c = cap := by
 simp only [Value.cells, List.cons.injEq, Value.slice.injEq, and_true] at h
 exact ⟨h.1.symm, h.2.1, h.2.2.symm⟩
end Go.Proofs.Ytmdhedkgpgoneaa.Open

namespace Go.Proofs.Ytmdhedkgpgoneaa.Q
open Go.RowKit Go.Proofs.YtmdhedkgpgoneaaW.PrintWords Go.Proofs.Ytmdhedkgpgoneaa.Open
theorem op5 (w : World) : Opens Try.prog w 5 (Kd.int .u8) (fun x => Open.Fits .u8 x) := opens_int Try.underlying5
theorem op35 (w : World) : Opens Try.prog w 35 (Kd.slice 5 (Kd.int .u8)) (fun x => (x.length ≤ 9223372036854775807 ∧ ∀ y ∈ x, Open.Fits .u8 y)) := opens_slice Try.underlying35 (by kernel_rfl) (op5 w)
end Go.Proofs.Ytmdhedkgpgoneaa.Q

namespace Go.Proofs.Ytmdhedkgpgoneaa.Q
open Go.Proofs.Ytmdhedkgpgoneaa.Open
/-- The pure statement of laws_FnSetParts. -/
def laws_FnSetParts.Pure : Prop := ∀ (x0 : List Int), ((x0.length ≤ 9223372036854775807 ∧ ∀ y ∈ x0, Open.Fits .u8 y)) → ∃ k, laws_FnSetParts.f k x0 = some true
end Go.Proofs.Ytmdhedkgpgoneaa.Q

namespace Go.Proofs.Ytmdhedkgpgoneaa.Pure
open Go.RowKit
theorem w64 {x : Int} (h : -9223372036854775808 ≤ x) (h' : x ≤ 9223372036854775807) : wrap64 x = x := by
 unfold wrap64
 omega
/-- A loop that leaves at the first place that isn't good. -/
theorem scan_loop {β : Type} (l0 : Nat → Int → Option β) (n K : Nat) (good : Nat → Bool) (bad fin : β)
  (hgood : ∀ k i : Nat, i < n → K ≤ k → (∀ j, j < i → good j = true) → good i = true → l0 (k + 1) (i : Int) = l0 k ((i + 1 : Nat) : Int))
  (hbad : ∀ k i : Nat, i < n → K ≤ k → (∀ j, j < i → good j = true) → good i = false → l0 (k + 1) (i : Int) = some bad)
  (hend : ∀ k : Nat, K ≤ k → l0 (k + 1) (n : Int) = some fin) :
  ∀ k, n + K < k → l0 k 0 = some (if (List.range n).all good then fin else bad) := by
 have key : ∀ (e k i : Nat), n - i = e → e + K < k → i ≤ n → (∀ j, j < i → good j = true) → l0 k (i : Int) = some (if (List.range n).all good then fin else bad) := by
  intro e
  induction e with
  | zero =>
   intro k i he hk hi hg
   obtain ⟨k, rfl⟩ : ∃ m, k = m + 1 := ⟨k - 1, by omega⟩
   obtain rfl : i = n := by omega
   rw [hend k (by omega), if_pos]
   rw [List.all_eq_true]
   exact fun x hx => hg x (List.mem_range.1 hx)
  | succ e ih =>
   intro k i he hk hi hg
   obtain ⟨k, rfl⟩ : ∃ m, k = m + 1 := ⟨k - 1, by omega⟩
   cases hc : good i with
   | true =>
    rw [hgood k i (by omega) (by omega) hg hc]
    refine ih k (i + 1) (by omega) (by omega) (by omega) (fun j hj => ?_)
    by_cases h : j = i
    ·rw [h]; exact hc
    ·exact hg j (by omega)
   | false =>
    rw [hbad k i (by omega) (by omega) hg hc, if_neg]
    rw [List.all_eq_true]
    intro h
    have := h i (List.mem_range.2 (by omega))
    rw [hc] at this
    exact absurd this (by simp)
 intro k hk
 exact key n k 0 (by omega) (by omega) (by omega) (fun j hj => by omega)
end Go.Proofs.Ytmdhedkgpgoneaa.Pure

namespace Go.Proofs.Ytmdhedkgpgoneaa.Pure
open Go.RowKit Go.Proofs.Ytmdhedkgpgoneaa.Q Go.Proofs.YtmdhedkgpgoneaaW.PrintWords Go.Proofs.YtmdhedkgpgoneaaW.PrintLast Go.Proofs.YtmdhedkgpgoneaaW.PrintMore
/-- How many addresses a block of b bits has. -/
def sz (b : Int) : Int := 2 ^ (32 - b).toNat
theorem h4z (b : Int) : 0 < sz b := Int.pow_pos (by omega)
theorem sz_le {b : Int} (h : 0 ≤ b) : sz b ≤ 4294967296 := by
 have h1 : (32 - b).toNat ≤ 32 := by omega
 have h2 : (2 : Nat) ^ (32 - b).toNat ≤ 2 ^ 32 := Nat.pow_le_pow_right (by omega) h1
 have h3 : ((2 : Nat) ^ (32 - b).toNat : Nat) ≤ 4294967296 := by simpa using h2
 unfold sz
 have h4 : ((2 ^ (32 - b).toNat : Nat) : Int) = (2 : Int) ^ (32 - b).toNat := by norm_cast
 omega
theorem in_spec (a lo hi : Int) : spec_l1In.f a lo hi = some (decide (lo ≤ a ∧ a ≤ hi)) := by
 unfold spec_l1In.f
 by_cases h : a ≥ lo
 ·rw [if_pos h]; simp [show lo ≤ a from h]
 ·rw [if_neg h]; simp [show ¬ lo ≤ a from h]
theorem in_impl (a lo hi : Int) : impl_in.f a lo hi = some (decide (lo ≤ a ∧ a ≤ hi)) := by
 unfold impl_in.f
 by_cases h : a ≥ lo
 ·rw [if_pos h]; simp [show lo ≤ a from h]
 ·rw [if_neg h]; simp [show ¬ lo ≤ a from h]
theorem addr_spec (a : Int) : spec_l1Addr.f a = some (decide (0 ≤ a ∧ a ≤ 4294967295)) := by
 unfold spec_l1Addr.f
 rw [in_spec]
 rfl
theorem addr_impl (a : Int) : impl_isAddr.f a = some (decide (0 ≤ a ∧ a ≤ 4294967295)) := by
 unfold impl_isAddr.f
 rw [in_impl]
 rfl
theorem two_ev : ∀ (m k : Nat) (x : Int), m < k → 0 ≤ x → x * 2 ^ m ≤ 9223372036854775807 → m ≤ 62 → spec_l1Two.l0 k m x = some (x * 2 ^ m) := by
 intro m
 induction m with
 | zero =>
  intro k x hk h0 h1 _
  obtain ⟨k, rfl⟩ : ∃ j, k = j + 1 := ⟨k - 1, by omega⟩
  simp only [spec_l1Two.l0]
  rw [if_neg (by omega)]
  simp
 | succ m ih =>
  intro k x hk h0 h1 hm
  obtain ⟨k, rfl⟩ : ∃ j, k = j + 1 := ⟨k - 1, by omega⟩
  simp only [spec_l1Two.l0]
  rw [if_pos (by omega)]
  have e : x * 2 ^ (m + 1) = x * 2 * 2 ^ m := by rw [Int.pow_succ]; rw [Int.mul_comm (2 ^ m) 2, Int.mul_assoc]
  have p : (1 : Int) ≤ 2 ^ m := Int.pow_pos (by omega)
  have h2 : x * 2 ≤ x * 2 * 2 ^ m := by
   have := Int.mul_le_mul_of_nonneg_left p (show 0 ≤ x * 2 by omega)
   omega
  rw [w64 (by omega) (by omega), w64 (by omega) (by omega), show (((m + 1 : Nat) : Int) - 1) = (m : Int) by omega, ih k (x * 2) (by omega) (by omega) (by rw [← e]; exact h1) (by omega), e]
theorem size_spec {b : Int} {k : Nat} (h0 : 0 ≤ b) (h1 : b ≤ 32) (hk : 40 ≤ k) : spec_l1Size.f k b = some (sz b) := by
 unfold spec_l1Size.f spec_l1Two.f
 rw [w64 (by omega) (by omega)]
 have e : (32 - b) = (((32 - b).toNat : Nat) : Int) := by omega
 have hs := sz_le h0
 rw [e, two_ev _ k 1 (by omega) (by omega) (by unfold sz at hs; omega) (by omega)]
 simp [sz]
theorem size_impl {a b : Int} (h0 : 0 ≤ b) (h1 : b ≤ 32) : impl_Block_size.f a b = some (sz b) := by
 unfold impl_Block_size.f
 have hs := sz_le h0
 have hp := h4z b
 rw [w64 (by omega) (by omega), if_pos (by omega)]
 unfold shl
 rw [show min (32 - b).toNat IntKind.i64.bits = (32 - b).toNat from Nat.min_eq_left (by show (32 - b).toNat ≤ 64; omega)]
 congr 1
 rw [Int.one_mul]
 show IntKind.i64.wrap (sz b) = sz b
 rw [IntKind.wrap_i64]
 omega
/-- A block is valid. -/
def bok (a b : Int) : Bool := decide (0 ≤ a ∧ a ≤ 4294967295 ∧ 0 ≤ b ∧ b ≤ 32 ∧ a % sz b = 0)
theorem bok_iff {a b : Int} : bok a b = true ↔ 0 ≤ a ∧ a ≤ 4294967295 ∧ 0 ≤ b ∧ b ≤ 32 ∧ a % sz b = 0 := by
 unfold bok
 rw [decide_eq_true_iff]
theorem tmod_of {a b : Int} (h : 0 ≤ a) : Int.tmod a (sz b) = a % sz b := Int.tmod_eq_emod_of_nonneg h
theorem ok_spec {k : Nat} (a b : Int) (hk : 40 ≤ k) : spec_BlockOk.f k a b = some (bok a b) := by
 unfold spec_BlockOk.f
 rw [addr_spec, Option.bind_some]
 by_cases h : 0 ≤ a ∧ a ≤ 4294967295
 ·rw [if_pos (by simpa using h), in_spec, Option.bind_some]
  by_cases h2 : 0 ≤ b ∧ b ≤ 32
  ·rw [if_pos (by simpa using h2), size_spec h2.1 h2.2 hk, Option.bind_some, if_neg (by have := h4z b; omega), tmod_of h.1]
   congr 1
   unfold bok
   rw [Bool.eq_iff_iff]
   simp [h, h2]
  ·rw [if_neg (by simpa using h2)]
   congr 1
   symm
   unfold bok
   rw [decide_eq_false_iff_not]
   omega
 ·rw [if_neg (by simpa using h)]
  congr 1
  symm
  unfold bok
  rw [decide_eq_false_iff_not]
  omega
theorem ok_impl (a b : Int) : impl_BlockOk.f a b = some (bok a b) := by
 unfold impl_BlockOk.f
 rw [addr_impl, Option.bind_some]
 by_cases h : 0 ≤ a ∧ a ≤ 4294967295
 ·rw [if_pos (by simpa using h), in_impl, Option.bind_some]
  by_cases h2 : 0 ≤ b ∧ b ≤ 32
  ·rw [if_pos (by simpa using h2), size_impl h2.1 h2.2, Option.bind_some, if_neg (by have := h4z b; omega), tmod_of h.1]
   congr 1
   unfold bok
   rw [Bool.eq_iff_iff]
   simp [h, h2]
  ·rw [if_neg (by simpa using h2)]
   congr 1
   symm
   unfold bok
   rw [decide_eq_false_iff_not]
   omega
 ·rw [if_neg (by simpa using h)]
  congr 1
  symm
  unfold bok
  rw [decide_eq_false_iff_not]
  omega
theorem last_spec {k : Nat} {a b : Int} (h : bok a b = true) (hk : 40 ≤ k) : spec_l1Last.f k a b = some (a + sz b - 1) := by
 obtain ⟨h1, h2, h3, h4, _⟩ := bok_iff.1 h
 have := sz_le h3
 have := h4z b
 unfold spec_l1Last.f
 rw [size_spec h3 h4 hk, Option.bind_some, w64 (x := a + sz b) (by omega) (by omega), w64 (by omega) (by omega)]
theorem last_impl {a b : Int} (h0 : 0 ≤ a) (h1 : a ≤ 4294967296) (h3 : 0 ≤ b) (h4 : b ≤ 32) : impl_Block_last.f a b = some (a + sz b - 1) := by
 have := sz_le h3
 have := h4z b
 unfold impl_Block_last.f
 rw [size_impl h3 h4, Option.bind_some, w64 (x := a + sz b) (by omega) (by omega), w64 (by omega) (by omega)]
end Go.Proofs.Ytmdhedkgpgoneaa.Pure

namespace Go.Proofs.Ytmdhedkgpgoneaa.Pure
set_option linter.unusedSimpArgs false
open Go.RowKit Go.Proofs.Ytmdhedkgpgoneaa.Q Go.Proofs.YtmdhedkgpgoneaaW.PrintWords Go.Proofs.YtmdhedkgpgoneaaW.PrintLast Go.Proofs.YtmdhedkgpgoneaaW.PrintMore
theorem sz_succ {m : Int} (h0 : 0 ≤ m) (h1 : m < 32) : sz m = 2 * sz (m + 1) := by
 unfold sz
 rw [show (32 - m).toNat = (32 - (m + 1)).toNat + 1 by omega, Int.pow_succ, Int.mul_comm]
theorem sz_32 : sz 32 = 1 := by decide
theorem i4z (a s : Int) : a / s * s = a ↔ a % s = 0 := by
 have h := Int.emod_add_mul_ediv a s
 rw [Int.mul_comm] at h
 constructor
 ·intro e; omega
 ·intro e; omega
theorem around_ev {a m : Int} (h0 : 0 ≤ a) (h1 : a ≤ 4294967295) (m0 : 0 ≤ m) (m1 : m ≤ 32) : impl_around.f a m = some (a / sz m * sz m, m) := by
 have hs := sz_le m0
 have hp := h4z m
 unfold impl_around.f
 rw [w64 (by omega) (by omega), if_pos (by omega)]
 unfold shl shr
 rw [show min (32 - m).toNat IntKind.i64.bits = (32 - m).toNat from Nat.min_eq_left (by show (32 - m).toNat ≤ 64; omega)]
 show some (IntKind.i64.wrap (a / sz m * sz m), m) = _
 have e : IntKind.i64.wrap (a / sz m * sz m) = a / sz m * sz m := by
  have h2 : a / sz m * sz m ≤ a := Int.ediv_mul_le a (by omega)
  have h3 : 0 ≤ a / sz m := Int.ediv_nonneg h0 (by omega)
  have h4 : 0 ≤ a / sz m * sz m := Int.mul_nonneg h3 (by omega)
  rw [IntKind.wrap_i64]
  omega
 rw [e]
/-- A block of m bits fits at a, up to b. -/
def fits (a b m : Int) : Bool := decide (a % sz m = 0) && decide (a + sz m - 1 ≤ b)
theorem h5z {a b m : Int} : fits a b m = true ↔ a % sz m = 0 ∧ a + sz m - 1 ≤ b := by
 unfold fits
 simp
theorem fits_succ {a b m : Int} (h0 : 0 ≤ m) (h1 : m < 32) (h : fits a b m = true) : fits a b (m + 1) = true := by
 rw [h5z] at h ⊢
 have hs := sz_succ h0 h1
 have hp := h4z (m + 1)
 refine ⟨?_, by omega⟩
 obtain ⟨q, hq⟩ := Int.dvd_of_emod_eq_zero h.1
 have e : a = sz (m + 1) * (2 * q) := by rw [hq, hs, Int.mul_comm 2, Int.mul_assoc]
 rw [e]
 exact Int.mul_emod_right _ _
theorem fits_32 {a b : Int} (h : a ≤ b) : fits a b 32 = true := by
 rw [h5z, sz_32]
 omega
theorem fits_le {a b : Int} : ∀ (d : Nat) (m : Int), 0 ≤ m → m + d ≤ 32 → fits a b m = true → fits a b (m + d) = true := by
 intro d
 induction d with
 | zero => intro m _ _ h; simpa using h
 | succ d ih =>
  intro m h0 h1 h
  have := ih (m + 1) (by omega) (by omega) (fits_succ h0 (by omega) h)
  rwa [show m + 1 + (d : Int) = m + ((d + 1 : Nat) : Int) by omega] at this
def mbF (a b : Int) : Nat → Int → Int
 | 0, m => m
 | n + 1, m => if fits a b m = true then m else mbF a b n (m + 1)
/-- The fewest bits of a block that fits. -/
def mb (a b : Int) : Int := mbF a b 32 0
theorem mbF_spec {a b : Int} (hab : a ≤ b) : ∀ (n : Nat) (m : Int), 0 ≤ m → m + n = 32 → (∀ j, 0 ≤ j → j < m → fits a b j = false) → 0 ≤ mbF a b n m ∧ mbF a b n m ≤ 32 ∧ fits a b (mbF a b n m) = true ∧ ∀ j, 0 ≤ j → j < mbF a b n m → fits a b j = false := by
 intro n
 induction n with
 | zero =>
  intro m h0 h1 h
  obtain rfl : m = 32 := by omega
  exact ⟨show (0 : Int) ≤ 32 by decide, show (32 : Int) ≤ 32 by decide, fits_32 hab, h⟩
 | succ n ih =>
  intro m h0 h1 h
  unfold mbF
  by_cases hf : fits a b m = true
  ·rw [if_pos hf]
   exact ⟨h0, by omega, hf, h⟩
  ·rw [if_neg hf]
   refine ih (m + 1) (by omega) (by omega) (fun j hj0 hj => ?_)
   by_cases e : j = m
   ·rw [e]; simpa using hf
   ·exact h j hj0 (by omega)
theorem mb_spec {a b : Int} (hab : a ≤ b) : 0 ≤ mb a b ∧ mb a b ≤ 32 ∧ fits a b (mb a b) = true ∧ ∀ j, 0 ≤ j → j < mb a b → fits a b j = false :=
 mbF_spec hab 32 0 (by omega) (by omega) (fun j h0 h => by omega)
theorem mb_unique {a b m : Int} (hab : a ≤ b) (h0 : 0 ≤ m) (h1 : m ≤ 32) (hf : fits a b m = true) (hn : m = 0 ∨ fits a b (m - 1) = false) : mb a b = m := by
 obtain ⟨p0, p1, pf, pn⟩ := mb_spec hab
 rcases Int.lt_trichotomy (mb a b) m with h | h | h
 ·have := fits_le (m - 1 - mb a b).toNat (mb a b) p0 (by omega) pf
  rw [show mb a b + ((m - 1 - mb a b).toNat : Int) = m - 1 by omega] at this
  rcases hn with hn | hn
  ·omega
  ·rw [hn] at this
   exact absurd this (by simp)
 ·exact h
 ·have := pn m h0 h
  rw [hf] at this
  exact absurd this (by simp)
/-- How many addresses there are. -/
def NN : Nat := 4294967296
theorem NN_eq : NN = 4294967296 := rfl
/-- The blocks of a span. -/
def cov : Nat → Int → Int → List S44
 | 0, _, _ => []
 | n + 1, a, b => if a ≤ b then ⟨a, mb a b⟩ :: cov n (a + sz (mb a b)) b else []
theorem cov_nil {n : Nat} {a b : Int} (h : b < a) : cov n a b = [] := by
 cases n with
 | zero => rfl
 | succ n => unfold cov; rw [if_neg (by omega)]
/-- A block that was just appended. -/
theorem rd_last (acc : List S44) (x : S44) : b4z (acc ++ [x]) (((acc ++ [x]).length : Int) - 1) = x := by
 unfold b4z
 rw [show ((((acc ++ [x]).length : Nat) : Int) - 1).toNat = acc.length by rw [List.length_append, List.length_singleton]; omega]
 simp [List.getD]
theorem impl_tail {acc : List S44} {a m x b : Int} {k : Nat} (h0 : 0 ≤ a) (h1 : a ≤ 4294967295) (m0 : 0 ≤ m) (m1 : m ≤ 32) (hf : a % sz m = 0) (hl : acc.length < 8796093022207) :
  ((impl_around.f a m).bind fun bt => (if acc.length < 8796093022208 then ((some (acc ++ [(⟨bt.1, bt.2⟩ : S44)] : List (S44))).bind fun y => (if 0 ≤ (wrap64 ((y.length : Int) - 1)) then (if (wrap64 ((y.length : Int) - 1)) < (y.length : Int) then ((impl_Block_last.f ((b4z y (wrap64 ((y.length : Int) - 1))).f0) ((b4z y (wrap64 ((y.length : Int) - 1))).f1)).bind fun t => (impl_span_blocks.l0 k y (wrap64 (t + 1)) x b)) else (none)) else (none))) else (none))) =
   impl_span_blocks.l0 k (acc ++ [⟨a, m⟩]) (a + sz m) x b := by
 have hs := sz_le m0
 have hp := h4z m
 rw [around_ev h0 h1 m0 m1, Option.bind_some, (i4z a (sz m)).2 hf, if_pos (by omega), Option.bind_some]
 dsimp only
 have hlen : ((acc ++ [(⟨a, m⟩ : S44)]).length : Int) = acc.length + 1 := by rw [List.length_append, List.length_singleton]; omega
 rw [w64 (x := ((acc ++ [(⟨a, m⟩ : S44)]).length : Int) - 1) (by omega) (by omega), if_pos (by omega), if_pos (by omega), rd_last]
 rw [last_impl h0 (by omega) m0 m1, Option.bind_some, w64 (by omega) (by omega), show a + sz m - 1 + 1 = a + sz m by omega]
theorem impl_down {acc : List S44} {a x b : Int} (h0 : 0 ≤ a) (hab : a ≤ b) (h1 : b ≤ 4294967295) (hl : acc.length < 8796093022207) :
  ∀ (n : Nat), n ≤ 32 → fits a b n = true → ∃ c, c ≤ n + 1 ∧ ∀ k, impl_span_blocks.l1 (k + c) acc a (n : Int) x b = impl_span_blocks.l0 k (acc ++ [⟨a, mb a b⟩]) (a + sz (mb a b)) x b := by
 intro n
 induction n with
 | zero =>
  intro hn hf
  refine ⟨1, by omega, fun k => ?_⟩
  simp only [impl_span_blocks.l1]
  rw [if_neg (by omega), mb_unique hab (Int.le_refl 0) (by omega) hf (.inl rfl)]
  exact impl_tail h0 (by omega) (by omega) (by omega) (h5z.1 hf).1 hl
 | succ n ih =>
  intro hn hf
  have ew : wrap64 (((n + 1 : Nat) : Int) - 1) = (n : Int) := by rw [w64 (by omega) (by omega)]; omega
  have hs := sz_le (show (0 : Int) ≤ n by omega)
  have hp := h4z (n : Int)
  cases hc : fits a b n with
  | true =>
   obtain ⟨c, hc1, hc2⟩ := ih (by omega) hc
   obtain ⟨g1, g2⟩ := h5z.1 hc
   refine ⟨c + 1, by omega, fun k => ?_⟩
   rw [show k + (c + 1) = (k + c) + 1 by omega]
   simp only [impl_span_blocks.l1]
   rw [if_pos (by omega), ew, around_ev h0 (by omega) (by omega) (by omega), Option.bind_some]
   dsimp only
   rw [(i4z a (sz n)).2 g1, if_pos rfl, Option.bind_some]
   dsimp only
   rw [last_impl h0 (by omega) (by omega) (by omega), Option.bind_some, if_pos (by omega)]
   exact hc2 k
  | false =>
   refine ⟨1, by omega, fun k => ?_⟩
   have hm : mb a b = ((n + 1 : Nat) : Int) := mb_unique hab (by omega) (by omega) hf (.inr (by rw [show ((n + 1 : Nat) : Int) - 1 = (n : Int) by omega]; exact hc))
   have ht := @impl_tail acc a ((n + 1 : Nat) : Int) x b k h0 (by omega) (by omega) (by omega) (h5z.1 hf).1 hl
   simp only [impl_span_blocks.l1]
   rw [if_pos (by omega), ew, around_ev h0 (by omega) (by omega) (by omega), Option.bind_some]
   dsimp only
   rw [hm]
   by_cases g1 : a % sz n = 0
   ·rw [(i4z a (sz n)).2 g1, if_pos rfl, Option.bind_some]
    dsimp only
    have g2 : ¬ a + sz n - 1 ≤ b := by
     intro h
     rw [h5z.2 ⟨g1, h⟩] at hc
     exact absurd hc (by simp)
    rw [last_impl h0 (by omega) (by omega) (by omega), Option.bind_some, if_neg (by omega)]
    exact ht
   ·rw [if_neg (fun h => g1 ((i4z a (sz n)).1 h))]
    exact ht
theorem impl_cov {x b : Int} (h1 : b ≤ 4294967295) : ∀ (n : Nat) (a : Int) (acc : List S44), 0 ≤ a → (b + 1 - a).toNat ≤ n → acc.length + n < 8796093022207 → ∀ k, 40 * n + 40 ≤ k → impl_span_blocks.l0 k acc a x b = some (acc ++ cov n a b) := by
 intro n
 induction n with
 | zero =>
  intro a acc h0 hn hl k hk
  obtain ⟨k, rfl⟩ : ∃ j, k = j + 1 := ⟨k - 1, by omega⟩
  simp only [impl_span_blocks.l0]
  rw [if_neg (by omega), cov_nil (by omega), List.append_nil]
 | succ n ih =>
  intro a acc h0 hn hl k hk
  obtain ⟨k, rfl⟩ : ∃ j, k = j + 1 := ⟨k - 1, by omega⟩
  simp only [impl_span_blocks.l0]
  by_cases hab : a ≤ b
  ·rw [if_pos hab]
   obtain ⟨c, hc1, hc2⟩ := @impl_down acc a x b h0 hab h1 (by omega) 32 (by omega) (fits_32 hab)
   have e := hc2 (k - c)
   rw [show k - c + c = k by omega] at e
   have hp := h4z (mb a b)
   rw [show (32 : Int) = ((32 : Nat) : Int) from rfl, e, ih (a + sz (mb a b)) _ (by omega) (by omega) (by rw [List.length_append, List.length_singleton]; omega) (k - c) (by omega)]
   conv => rhs; unfold cov
   rw [if_pos hab, List.append_assoc]
   rfl
  ·rw [if_neg hab, cov_nil (by omega), List.append_nil]
theorem blocks_ev {a b : Int} (h0 : 0 ≤ a) (h1 : b ≤ 4294967295) {k : Nat} (hk : 171798691920 ≤ k) : impl_span_blocks.f k a b = some (cov NN a b) := by
 have hN := NN_eq
 unfold impl_span_blocks.f
 have := @impl_cov a b h1 NN a [] h0 (by omega) (by simp; omega) k (by omega)
 rwa [List.nil_append] at this
theorem first_ev {a b : Int} (h0 : 0 ≤ a) (hab : a ≤ b) (h1 : b ≤ 4294967295) : ∀ (n : Nat) (m : Int), 0 ≤ m → m + n = 32 → ∀ k, n + 41 < k → spec_l2First.l0 k a b m = some (a, mbF a b n m) := by
 intro n
 induction n with
 | zero =>
  intro m m0 hm k hk
  obtain ⟨k, rfl⟩ : ∃ j, k = j + 1 := ⟨k - 1, by omega⟩
  obtain rfl : m = 32 := by omega
  simp only [spec_l2First.l0]
  rw [size_spec (by omega) (by omega) (show 40 ≤ k by omega), Option.bind_some, Option.bind_some, sz_32, if_neg (by omega), if_pos (by simp), w64 (x := a + 1) (by omega) (by omega), w64 (by omega) (by omega), if_neg (by omega)]
  rfl
 | succ n ih =>
  intro m m0 hm k hk
  obtain ⟨k, rfl⟩ : ∃ j, k = j + 1 := ⟨k - 1, by omega⟩
  have hs := sz_le m0
  have hp := h4z m
  simp only [spec_l2First.l0]
  rw [size_spec (by omega) (by omega) (show 40 ≤ k by omega), Option.bind_some, Option.bind_some, if_neg (by omega), tmod_of h0, w64 (x := m + 1) (by omega) (by omega), ih (m + 1) (by omega) (by omega) k (by omega), w64 (x := a + sz m) (by omega) (by omega), w64 (x := a + sz m - 1) (by omega) (by omega)]
  show _ = some (a, if fits a b m = true then m else mbF a b n (m + 1))
  by_cases g1 : a % sz m = 0
  ·rw [if_pos g1]
   by_cases g2 : a + sz m - 1 ≤ b
   ·rw [if_neg (by omega), if_pos (h5z.2 ⟨g1, g2⟩)]
   ·rw [if_pos (by omega), if_neg (fun h => g2 (h5z.1 h).2)]
  ·rw [if_neg g1, if_neg (fun h => g1 (h5z.1 h).1)]
theorem rdSp (l : List S63) (i : Nat) : c3z l (i : Int) = l.getD i z63 := rfl
theorem cover_l1 (x0 : List S63) (i : Nat) (hi : i < x0.length) (hx : x0.length ≤ 1048576) (b : Int) (hb : (x0.getD i z63).f1 = b) (h1 : b ≤ 4294967295) : ∀ (n : Nat) (a : Int) (acc : List S44), 0 ≤ a → (b + 1 - a).toNat ≤ n → acc.length + n < 8796093022207 →
  ∃ c, c ≤ n + 1 ∧ ∀ k, 100 ≤ k → spec_l2Cover.l1 (k + c) x0 acc (i : Int) a = spec_l2Cover.l0 k x0 (acc ++ cov n a b) ((i + 1 : Nat) : Int) := by
 have ew : wrap64 ((i : Int) + 1) = ((i + 1 : Nat) : Int) := by rw [w64 (by omega) (by omega)]; rfl
 intro n
 induction n with
 | zero =>
  intro a acc h0 hn hl
  refine ⟨1, by omega, fun k hk => ?_⟩
  simp only [spec_l2Cover.l1]
  rw [if_pos (by omega), if_pos (by omega), rdSp, hb, if_neg (by omega), ew, cov_nil (by omega), List.append_nil]
 | succ n ih =>
  intro a acc h0 hn hl
  by_cases hab : a ≤ b
  ·obtain ⟨p0, p1, pf, _⟩ := mb_spec hab
   have hs := sz_le p0
   have hp := h4z (mb a b)
   obtain ⟨c, hc1, hc2⟩ := ih (a + sz (mb a b)) (acc ++ [⟨a, mb a b⟩]) (by omega) (by omega) (by rw [List.length_append, List.length_singleton]; omega)
   refine ⟨c + 1, by omega, fun k hk => ?_⟩
   rw [show k + (c + 1) = (k + c) + 1 by omega]
   simp only [spec_l2Cover.l1, spec_l2First.f]
   rw [if_pos (by omega), if_pos (by omega), rdSp, hb, if_pos hab, first_ev h0 hab h1 32 0 (by omega) (by omega) (k + c) (by omega), Option.bind_some]
   dsimp only
   rw [show mbF a b 32 0 = mb a b from rfl, if_pos (by omega), size_spec p0 p1 (by omega), Option.bind_some, w64 (by omega) (by omega), hc2 k hk]
   conv => rhs; unfold cov
   rw [if_pos hab, List.append_assoc]
   rfl
  ·refine ⟨1, by omega, fun k hk => ?_⟩
   simp only [spec_l2Cover.l1]
   rw [if_pos (by omega), if_pos (by omega), rdSp, hb, if_neg hab, ew, cov_nil (by omega), List.append_nil]
end Go.Proofs.Ytmdhedkgpgoneaa.Pure

namespace Go.Proofs.Ytmdhedkgpgoneaa.Si
/-- A span: its two ends. -/
abbrev Sn := Int × Int
def inB (s : Sn) (p : Int) : Bool := decide (s.1 ≤ p) && decide (p ≤ s.2)
/-- A point lies in one of the spans. -/
def memB (xs : List Sn) (p : Int) : Bool := xs.any fun s => inB s p
theorem g3z {s : Sn} {p : Int} : inB s p = true ↔ s.1 ≤ p ∧ p ≤ s.2 := by simp [inB]
theorem memB_iff {xs : List Sn} {p : Int} : memB xs p = true ↔ ∃ s ∈ xs, s.1 ≤ p ∧ p ≤ s.2 := by simp [memB, inB]
theorem g2z (p : Int) : memB [] p = false := rfl
theorem f5z (s : Sn) (xs : List Sn) (p : Int) : memB (s :: xs) p = (inB s p || memB xs p) := by simp [memB]
theorem h7z (xs ys : List Sn) (p : Int) : memB (xs ++ ys) p = (memB xs p || memB ys p) := by simp [memB]
/-- A span of addresses. -/
def Ok (s : Sn) : Prop := 0 ≤ s.1 ∧ s.1 ≤ s.2 ∧ s.2 ≤ 4294967295
/-- Spans in order that neither meet nor touch. -/
def Can (xs : List Sn) : Prop := (∀ s ∈ xs, Ok s) ∧ xs.Pairwise fun s t => s.2 + 1 < t.1
theorem can_nil : Can [] := ⟨fun _ h => absurd h (by simp), List.Pairwise.nil⟩
theorem can_tail {s : Sn} {xs : List Sn} (h : Can (s :: xs)) : Can xs := ⟨fun t ht => h.1 t (List.mem_cons_of_mem _ ht), (List.pairwise_cons.1 h.2).2⟩
theorem can_head {s : Sn} {xs : List Sn} (h : Can (s :: xs)) : ∀ t ∈ xs, s.2 + 1 < t.1 := (List.pairwise_cons.1 h.2).1
theorem mem_tail {s : Sn} {xs : List Sn} (h : Can (s :: xs)) (p : Int) : memB xs p = true ↔ memB (s :: xs) p = true ∧ s.2 < p := by
 rw [f5z, Bool.or_eq_true]
 constructor
 ·intro hm
  refine ⟨.inr hm, ?_⟩
  obtain ⟨t, ht, h1, _⟩ := memB_iff.1 hm
  have := can_head h t ht
  omega
 ·rintro ⟨h1 | h1, h2⟩
  ·have := (g3z.1 h1).2
   omega
  ·exact h1
theorem start_le {s : Sn} {xs : List Sn} (h : Can (s :: xs)) {p : Int} (hp : memB (s :: xs) p = true) : s.1 ≤ p := by
 obtain ⟨t, ht, h1, _⟩ := memB_iff.1 hp
 rcases List.mem_cons.1 ht with rfl | ht
 ·exact h1
 ·have := can_head h t ht
  have := (h.1 s List.mem_cons_self).2.1
  omega
theorem mem_start {s : Sn} {xs : List Sn} (h : Can (s :: xs)) : memB (s :: xs) s.1 = true := by
 rw [f5z, g3z.2 ⟨Int.le_refl _, (h.1 s List.mem_cons_self).2.1⟩]; rfl
theorem end_le {s t : Sn} {xs ys : List Sn} (hx : Can (s :: xs)) (_ : Can (t :: ys)) (e1 : s.1 = t.1) (hp : ∀ p, memB (t :: ys) p = memB (s :: xs) p) : t.2 ≤ s.2 := by
 by_cases h : t.2 ≤ s.2
 ·exact h
 ·exfalso
  have h0 := (hx.1 s List.mem_cons_self).2.1
  have h1 : memB (t :: ys) (s.2 + 1) = true := by rw [f5z, g3z.2 ⟨by omega, by omega⟩]; rfl
  rw [hp] at h1
  obtain ⟨u, hu, h2, h3⟩ := memB_iff.1 h1
  rcases List.mem_cons.1 hu with rfl | hu
  ·omega
  ·have := can_head hx u hu
   omega
/-- The points make the canonical list. -/
theorem can_unique : ∀ (xs ys : List Sn), Can xs → Can ys → (∀ p, memB xs p = memB ys p) → xs = ys
 | [], [], _, _, _ => rfl
 | [], t :: ys, _, hy, hp => by
  have := mem_start hy
  rw [← hp, g2z] at this
  exact absurd this (by simp)
 | s :: xs, [], hx, _, hp => by
  have := mem_start hx
  rw [hp, g2z] at this
  exact absurd this (by simp)
 | s :: xs, t :: ys, hx, hy, hp => by
  have e1 : s.1 = t.1 := by
   have h1 := start_le hy (p := s.1) (by rw [← hp]; exact mem_start hx)
   have h2 := start_le hx (p := t.1) (by rw [hp]; exact mem_start hy)
   omega
  have e2 : s.2 = t.2 := by
   have h1 := end_le hx hy e1 (fun p => (hp p).symm)
   have h2 := end_le hy hx e1.symm hp
   omega
  obtain rfl : s = t := Prod.ext e1 e2
  rw [can_unique xs ys (can_tail hx) (can_tail hy) (fun p => by
   rw [Bool.eq_iff_iff, mem_tail hx, mem_tail hy, hp])]
/-- Merging a sorted list: xa is done, t is the last. -/
def mrgG : List Sn → Sn → List Sn → List Sn
 | xa, t, [] => xa ++ [t]
 | xa, t, s :: r => if s.1 ≤ t.2 + 1 then mrgG xa (t.1, if t.2 < s.2 then s.2 else t.2) r else mrgG (xa ++ [t]) s r
def mrg : List Sn → List Sn
 | [] => []
 | s :: r => mrgG [] s r
theorem can_snoc {xa : List Sn} {t : Sn} : Can (xa ++ [t]) ↔ Can xa ∧ Ok t ∧ ∀ u ∈ xa, u.2 + 1 < t.1 := by
 unfold Can
 rw [List.pairwise_append]
 constructor
 ·rintro ⟨h1, h2, _, h3⟩
  exact ⟨⟨fun s hs => h1 s (by simp [hs]), h2⟩, h1 t (by simp), fun u hu => h3 u hu t (by simp)⟩
 ·rintro ⟨⟨h1, h2⟩, h3, h4⟩
  refine ⟨fun s hs => ?_, h2, List.pairwise_singleton _ _, fun u hu v hv => ?_⟩
  ·rcases List.mem_append.1 hs with hs | hs
   ·exact h1 s hs
   ·rw [List.mem_singleton.1 hs]; exact h3
  ·rw [List.mem_singleton.1 hv]; exact h4 u hu
theorem mrgG_spec : ∀ (r : List Sn) (xa : List Sn) (t : Sn), Can (xa ++ [t]) → (∀ s ∈ r, Ok s ∧ t.1 ≤ s.1) → r.Pairwise (fun s u => s.1 ≤ u.1) →
  Can (mrgG xa t r) ∧ ∀ p, memB (mrgG xa t r) p = (memB (xa ++ [t]) p || memB r p)
 | [], xa, t, h, _, _ => by
  refine ⟨h, fun p => ?_⟩
  show memB (xa ++ [t]) p = _
  rw [g2z, Bool.or_false]
 | s :: r, xa, t, h, hr, hs => by
  obtain ⟨h1, h2, h3⟩ := can_snoc.1 h
  obtain ⟨hs1, hs2⟩ := List.pairwise_cons.1 hs
  obtain ⟨ok, hle⟩ := hr s List.mem_cons_self
  obtain ⟨t0, t1, t2⟩ := h2
  obtain ⟨s0, s1, s2⟩ := ok
  unfold mrgG
  by_cases hc : s.1 ≤ t.2 + 1
  ·rw [if_pos hc]
   have hmx : t.2 ≤ (if t.2 < s.2 then s.2 else t.2) ∧ s.2 ≤ (if t.2 < s.2 then s.2 else t.2) ∧ ((if t.2 < s.2 then s.2 else t.2) = t.2 ∨ (if t.2 < s.2 then s.2 else t.2) = s.2) := by split <;> omega
   generalize (if t.2 < s.2 then s.2 else t.2) = m at hmx ⊢
   have hcan : Can (xa ++ [(t.1, m)]) := can_snoc.2 ⟨h1, ⟨t0, by show t.1 ≤ m; omega, by show m ≤ _; omega⟩, h3⟩
   obtain ⟨c1, c2⟩ := mrgG_spec r xa (t.1, m) hcan (fun u hu => ⟨(hr u (List.mem_cons_of_mem _ hu)).1, (hr u (List.mem_cons_of_mem _ hu)).2⟩) hs2
   refine ⟨c1, fun p => ?_⟩
   rw [c2, h7z, h7z, f5z s r, Bool.or_assoc, Bool.or_assoc, ← Bool.or_assoc (memB [t] p)]
   congr 2
   rw [Bool.eq_iff_iff, Bool.or_eq_true, f5z, f5z, g2z, Bool.or_false, Bool.or_false, g3z, g3z, g3z]
   show t.1 ≤ p ∧ p ≤ m ↔ _
   omega
  ·rw [if_neg hc]
   have hcan : Can (xa ++ [t] ++ [s]) := can_snoc.2 ⟨h, ⟨s0, s1, s2⟩, fun u hu => by
    rcases List.mem_append.1 hu with hu | hu
    ·have := h3 u hu
     omega
    ·rw [List.mem_singleton.1 hu]; omega⟩
   obtain ⟨c1, c2⟩ := mrgG_spec r (xa ++ [t]) s hcan (fun u hu => ⟨(hr u (List.mem_cons_of_mem _ hu)).1, hs1 u hu⟩) hs2
   refine ⟨c1, fun p => ?_⟩
   rw [c2, h7z _ [s], f5z s r, f5z s [], g2z, Bool.or_false, Bool.or_assoc]
theorem mrg_spec {xs : List Sn} (hok : ∀ s ∈ xs, Ok s) (hs : xs.Pairwise fun s t => s.1 ≤ t.1) : Can (mrg xs) ∧ ∀ p, memB (mrg xs) p = memB xs p := by
 cases xs with
 | nil => exact ⟨can_nil, fun _ => rfl⟩
 | cons s r =>
  obtain ⟨hs1, hs2⟩ := List.pairwise_cons.1 hs
  obtain ⟨c1, c2⟩ := mrgG_spec r [] s (can_snoc.2 ⟨can_nil, hok s List.mem_cons_self, fun _ h => absurd h (by simp)⟩) (fun u hu => ⟨hok u (List.mem_cons_of_mem _ hu), hs1 u hu⟩) hs2
  refine ⟨c1, fun p => ?_⟩
  show memB (mrgG [] s r) p = _
  rw [c2, List.nil_append, f5z s r, f5z s [], g2z, Bool.or_false]
theorem mrgG_length : ∀ (r xa : List Sn) (t : Sn), (mrgG xa t r).length ≤ xa.length + 1 + r.length
 | [], xa, t => by simp [mrgG]
 | s :: r, xa, t => by
  unfold mrgG
  split
  ·have := mrgG_length r xa (t.1, if t.2 < s.2 then s.2 else t.2)
   rw [List.length_cons]; omega
  ·have := mrgG_length r (xa ++ [t]) s
   rw [List.length_append, List.length_singleton] at this
   rw [List.length_cons]; omega
theorem mrg_length (xs : List Sn) : (mrg xs).length ≤ xs.length := by
 cases xs with
 | nil => exact Nat.le_refl _
 | cons s r =>
  have := mrgG_length r [] s
  show (mrgG [] s r).length ≤ _
  rw [List.length_cons, List.length_nil] at *
  omega
/-- Only the points' lists count. -/
theorem memB_congr {xs ys : List Sn} (h : ∀ s, s ∈ xs ↔ s ∈ ys) (p : Int) : memB xs p = memB ys p := by
 rw [Bool.eq_iff_iff, memB_iff, memB_iff]
 exact ⟨fun ⟨s, hs, e⟩ => ⟨s, (h s).1 hs, e⟩, fun ⟨s, hs, e⟩ => ⟨s, (h s).2 hs, e⟩⟩
/-- The larger, the smaller of two numbers. -/
def hi2 (x y : Int) : Int := if x < y then y else x
def lo2 (x y : Int) : Int := if y < x then y else x
theorem hi2_le {x y p : Int} : hi2 x y ≤ p ↔ x ≤ p ∧ y ≤ p := by unfold hi2; split <;> omega
theorem le_lo2 {x y p : Int} : p ≤ lo2 x y ↔ p ≤ x ∧ p ≤ y := by unfold lo2; split <;> omega
theorem hi2_or (x y : Int) : hi2 x y = x ∨ hi2 x y = y := by unfold hi2; split <;> simp
theorem lo2_or (x y : Int) : lo2 x y = x ∨ lo2 x y = y := by unfold lo2; split <;> simp
/-- The meet of two spans. -/
def meet (a b : Sn) : List Sn := if hi2 a.1 b.1 ≤ lo2 a.2 b.2 then [(hi2 a.1 b.1, lo2 a.2 b.2)] else []
def meets (a : Sn) (bs : List Sn) : List Sn := bs.flatMap (meet a)
def both (xa bs : List Sn) : List Sn := xa.flatMap fun a => meets a bs
theorem meet_mem {a b s : Sn} (h : s ∈ meet a b) : a.1 ≤ s.1 ∧ b.1 ≤ s.1 ∧ (s.1 = a.1 ∨ s.1 = b.1) ∧ s.2 ≤ a.2 ∧ s.2 ≤ b.2 ∧ (s.2 = a.2 ∨ s.2 = b.2) ∧ s.1 ≤ s.2 := by
 unfold meet at h
 split at h
 ·rename_i hc
  rw [List.mem_singleton.1 h]
  have h1 := hi2_le.1 (Int.le_refl (hi2 a.1 b.1))
  have h2 := le_lo2.1 (Int.le_refl (lo2 a.2 b.2))
  exact ⟨h1.1, h1.2, hi2_or _ _, h2.1, h2.2, lo2_or _ _, hc⟩
 ·exact absurd h (by simp)
theorem meet_pts (a b : Sn) (p : Int) : memB (meet a b) p = (inB a p && inB b p) := by
 rw [Bool.eq_iff_iff, Bool.and_eq_true, g3z, g3z]
 unfold meet
 split
 ·rw [f5z, g2z, Bool.or_false, g3z]
  show hi2 a.1 b.1 ≤ p ∧ p ≤ lo2 a.2 b.2 ↔ _
  rw [hi2_le, le_lo2]
  omega
 ·rename_i hc
  rw [g2z]
  refine ⟨fun h => absurd h (by simp), fun ⟨⟨h1, h2⟩, h3, h4⟩ => absurd (Int.le_trans (hi2_le.2 ⟨h1, h3⟩) (le_lo2.2 ⟨h2, h4⟩)) hc⟩
theorem memB_flatMap {α : Type} (l : List α) (f : α → List Sn) (p : Int) : memB (l.flatMap f) p = l.any fun x => memB (f x) p := by
 induction l with
 | nil => rfl
 | cons x l ih => rw [List.flatMap_cons, h7z, ih, List.any_cons]
theorem both_pts (xa bs : List Sn) (p : Int) : memB (both xa bs) p = (memB xa p && memB bs p) := by
 unfold both
 rw [memB_flatMap, Bool.eq_iff_iff, List.any_eq_true, Bool.and_eq_true, memB_iff, memB_iff]
 unfold meets
 constructor
 ·rintro ⟨a, ha, h⟩
  rw [memB_flatMap, List.any_eq_true] at h
  obtain ⟨b, hb, h⟩ := h
  rw [meet_pts, Bool.and_eq_true, g3z, g3z] at h
  exact ⟨⟨a, ha, h.1⟩, b, hb, h.2⟩
 ·rintro ⟨⟨a, ha, h1⟩, b, hb, h2⟩
  refine ⟨a, ha, ?_⟩
  rw [memB_flatMap, List.any_eq_true]
  exact ⟨b, hb, by rw [meet_pts, Bool.and_eq_true, g3z, g3z]; exact ⟨h1, h2⟩⟩
theorem both_ok {xa bs : List Sn} (ha : ∀ s ∈ xa, Ok s) : ∀ s ∈ both xa bs, Ok s := by
 intro s hs
 obtain ⟨a, h1, h2⟩ := List.mem_flatMap.1 hs
 obtain ⟨b, _, h3⟩ := List.mem_flatMap.1 h2
 have := meet_mem h3
 obtain ⟨a0, a1, a2⟩ := ha a h1
 exact ⟨by omega, by omega, by omega⟩
theorem pairwise_flat {α : Type} {R : α → α → Prop} {β : Type} (f : β → List α) : ∀ (l : List β), (∀ x ∈ l, (f x).Pairwise R) → l.Pairwise (fun x y => ∀ a ∈ f x, ∀ b ∈ f y, R a b) → (l.flatMap f).Pairwise R
 | [], _, _ => List.Pairwise.nil
 | x :: l, h1, h2 => by
  obtain ⟨h3, h4⟩ := List.pairwise_cons.1 h2
  rw [List.flatMap_cons, List.pairwise_append]
  refine ⟨h1 x List.mem_cons_self, pairwise_flat f l (fun y hy => h1 y (List.mem_cons_of_mem _ hy)) h4, fun a ha b hb => ?_⟩
  obtain ⟨y, hy, hb⟩ := List.mem_flatMap.1 hb
  exact h3 y hy a ha b hb
theorem both_can {xa bs : List Sn} (ha : Can xa) (hb : Can bs) : Can (both xa bs) := by
 refine ⟨both_ok ha.1, pairwise_flat _ xa (fun a _ => ?_) (ha.2.imp fun {a a'} h s hs t ht => ?_)⟩
 ·refine pairwise_flat _ bs (fun b _ => ?_) (hb.2.imp fun {b b'} h s hs t ht => ?_)
  ·unfold meet
   split
   ·exact List.pairwise_singleton _ _
   ·exact List.Pairwise.nil
  ·have := meet_mem hs
   have := meet_mem ht
   omega
 ·obtain ⟨b, _, hs⟩ := List.mem_flatMap.1 hs
  obtain ⟨b', _, ht⟩ := List.mem_flatMap.1 ht
  have := meet_mem hs
  have := meet_mem ht
  omega
theorem meet_length (a b : Sn) : (meet a b).length ≤ 1 := by unfold meet; split <;> simp
theorem meets_length (a : Sn) : ∀ bs : List Sn, (meets a bs).length ≤ bs.length
 | [] => Nat.le_refl _
 | b :: bs => by
  have := meets_length a bs
  have := meet_length a b
  show ((b :: bs).flatMap (meet a)).length ≤ _
  rw [List.flatMap_cons, List.length_append, List.length_cons]
  unfold meets at *
  omega
theorem both_length (bs : List Sn) : ∀ xa : List Sn, (both xa bs).length ≤ xa.length * bs.length
 | [] => Nat.zero_le _
 | a :: xa => by
  have h1 := both_length bs xa
  have h2 := meets_length a bs
  show ((a :: xa).flatMap fun a => meets a bs).length ≤ _
  rw [List.flatMap_cons, List.length_append, List.length_cons, Nat.succ_mul]
  unfold both at h1
  omega
/-- What is not in a list, from lo on. -/
def nt : Int → List Sn → List Sn
 | lo, [] => if lo ≤ 4294967295 then [(lo, 4294967295)] else []
 | lo, s :: r => (if s.1 > lo then [(lo, s.1 - 1)] else []) ++ nt (s.2 + 1) r
theorem nt_spec : ∀ (xs : List Sn) (lo : Int), 0 ≤ lo → Can xs → (∀ s ∈ xs, lo ≤ s.1) → Can (nt lo xs) ∧ (∀ s ∈ nt lo xs, lo ≤ s.1) ∧ ∀ p, memB (nt lo xs) p = (decide (lo ≤ p) && decide (p ≤ 4294967295) && !memB xs p)
 | [], lo, h0, _, _ => by
  unfold nt
  split
  ·rename_i hc
   refine ⟨⟨fun s hs => by rw [List.mem_singleton.1 hs]; exact ⟨h0, hc, Int.le_refl _⟩, List.pairwise_singleton _ _⟩, fun s hs => by rw [List.mem_singleton.1 hs]; exact Int.le_refl _, fun p => ?_⟩
   rw [f5z, g2z]
   simp [inB]
  ·rename_i hc
   refine ⟨can_nil, fun s hs => absurd hs (by simp), fun p => ?_⟩
   rw [g2z]
   symm
   simp
   omega
 | s :: r, lo, h0, hc, hl => by
  have hs := hl s List.mem_cons_self
  obtain ⟨s0, s1, s2⟩ := hc.1 s List.mem_cons_self
  obtain ⟨c1, c2, c3⟩ := nt_spec r (s.2 + 1) (by omega) (can_tail hc) (fun t ht => by have := can_head hc t ht; omega)
  have hm : ∀ p, lo ≤ p → p < s.1 → memB (s :: r) p = false := fun p _ hp => by
   rcases hq : memB (s :: r) p with _ | _
   ·rfl
   ·have := start_le hc hq
    omega
  have hpt : ∀ p, memB (nt lo (s :: r)) p = (decide (lo ≤ p) && decide (p ≤ 4294967295) && !memB (s :: r) p) := fun p => by
   unfold nt
   rw [h7z, c3]
   by_cases h1 : lo ≤ p
   ·by_cases h2 : p < s.1
    ·rw [hm p h1 h2, if_pos (by omega), f5z, g2z, Bool.or_false, g3z.2 ⟨h1, by show p ≤ s.1 - 1; omega⟩]
     simp
     omega
    ·have e : memB (if s.1 > lo then [(lo, s.1 - 1)] else []) p = false := by
      split
      ·rw [f5z, g2z, Bool.or_false]
       simp [inB]; omega
      ·rfl
     rw [e, f5z]
     by_cases h3 : p ≤ s.2
     ·rw [g3z.2 ⟨by omega, h3⟩]
      simp; omega
     ·have : inB s p = false := by simp [inB]; omega
      rw [this, Bool.false_or, Bool.false_or]
      simp [h1, show s.2 + 1 ≤ p by omega]
   ·have e : memB (if s.1 > lo then [(lo, s.1 - 1)] else []) p = false := by
     split
     ·rw [f5z, g2z, Bool.or_false]
      simp [inB]; omega
     ·rfl
    rw [e]
    simp [h1, show ¬ s.2 + 1 ≤ p by omega]
  refine ⟨?_, ?_, hpt⟩
  ·unfold nt
   split
   ·refine ⟨fun t ht => ?_, ?_⟩
    ·rcases List.mem_append.1 ht with ht | ht
     ·rw [List.mem_singleton.1 ht]; exact ⟨h0, by show lo ≤ s.1 - 1; omega, by show s.1 - 1 ≤ _; omega⟩
     ·exact c1.1 t ht
    ·rw [List.pairwise_append]
     refine ⟨List.pairwise_singleton _ _, c1.2, fun u hu t ht => ?_⟩
     rw [List.mem_singleton.1 hu]
     have := c2 t ht
     show s.1 - 1 + 1 < t.1
     omega
   ·rw [List.nil_append]; exact c1
  ·intro t ht
   unfold nt at ht
   rcases List.mem_append.1 ht with ht | ht
   ·split at ht
    ·rw [List.mem_singleton.1 ht]; exact Int.le_refl _
    ·exact absurd ht (by simp)
   ·have := c2 t ht
    omega
theorem nt_length : ∀ (xs : List Sn) (lo : Int), (nt lo xs).length ≤ xs.length + 1
 | [], lo => by unfold nt; split <;> simp
 | s :: r, lo => by
  have := nt_length r (s.2 + 1)
  unfold nt
  rw [List.length_append, List.length_cons]
  split <;> simp <;> omega
/-- What is left of a span without those of a list. -/
def cut : Sn → List Sn → List Sn
 | c, [] => if c.1 ≤ c.2 then [c] else []
 | c, b :: r => if b.2 < c.1 ∨ b.1 > c.2 then cut c r else (if c.1 < b.1 then [(c.1, b.1 - 1)] else []) ++ cut (b.2 + 1, c.2) r
theorem cut_spec : ∀ (bs : List Sn) (c : Sn), Can bs → 0 ≤ c.1 → c.2 ≤ 4294967295 → (∀ s ∈ cut c bs, Ok s) ∧ ∀ p, memB (cut c bs) p = (inB c p && !memB bs p)
 | [], c, _, h0, h1 => by
  unfold cut
  split
  ·rename_i hc
   refine ⟨fun s hs => by rw [List.mem_singleton.1 hs]; exact ⟨h0, hc, h1⟩, fun p => ?_⟩
   rw [f5z, g2z]
   simp
  ·rename_i hc
   refine ⟨fun s hs => absurd hs (by simp), fun p => ?_⟩
   rw [g2z]
   symm
   simp [inB]
   omega
 | b :: r, c, hb, h0, h1 => by
  obtain ⟨b0, b1, b2⟩ := hb.1 b List.mem_cons_self
  unfold cut
  split
  ·rename_i hc
   obtain ⟨c1, c2⟩ := cut_spec r c (can_tail hb) h0 h1
   refine ⟨c1, fun p => ?_⟩
   rw [c2, f5z]
   rcases hi : inB c p with _ | _
   ·rfl
   ·have := g3z.1 hi
    have : inB b p = false := by simp [inB]; omega
    rw [this, Bool.false_or]
  ·rename_i hc
   obtain ⟨c1, c2⟩ := cut_spec r (b.2 + 1, c.2) (can_tail hb) (by show 0 ≤ b.2 + 1; omega) h1
   refine ⟨fun s hs => ?_, fun p => ?_⟩
   ·rcases List.mem_append.1 hs with hs | hs
    ·split at hs
     ·rw [List.mem_singleton.1 hs]; exact ⟨h0, by show c.1 ≤ b.1 - 1; omega, by show b.1 - 1 ≤ _; omega⟩
     ·exact absurd hs (by simp)
    ·exact c1 s hs
   ·rw [h7z, c2]
    by_cases h2 : p < b.1
    ·have hn : memB (b :: r) p = false := by
      rcases hq : memB (b :: r) p with _ | _
      ·rfl
      ·have := start_le hb hq
       omega
     have hx : inB (b.2 + 1, c.2) p = false := by simp [inB]; omega
     rw [hn, hx, Bool.false_and, Bool.or_false, Bool.not_false, Bool.and_true]
     split
     ·rw [f5z, g2z, Bool.or_false, Bool.eq_iff_iff, g3z, g3z]
      show c.1 ≤ p ∧ p ≤ b.1 - 1 ↔ _
      omega
     ·rw [g2z]
      symm
      simp [inB]
      omega
    ·have e : memB (if c.1 < b.1 then [(c.1, b.1 - 1)] else []) p = false := by
      split
      ·rw [f5z, g2z, Bool.or_false]
       simp [inB]; omega
      ·rfl
     rw [e, Bool.false_or, f5z]
     by_cases h3 : p ≤ b.2
     ·rw [g3z.2 ⟨by omega, h3⟩, show inB (b.2 + 1, c.2) p = false by simp [inB]; omega]
      simp
     ·rw [show inB b p = false by simp [inB]; omega, Bool.false_or]
      congr 1
      rw [Bool.eq_iff_iff, g3z, g3z]
      show b.2 + 1 ≤ p ∧ p ≤ c.2 ↔ _
      omega
theorem cut_length : ∀ (bs : List Sn) (c : Sn), (cut c bs).length ≤ bs.length + 1
 | [], c => by unfold cut; split <;> simp
 | b :: r, c => by
  have h1 := cut_length r c
  have h2 := cut_length r (b.2 + 1, c.2)
  unfold cut
  rw [List.length_cons]
  split
  ·omega
  ·rw [List.length_append]
   split <;> simp <;> omega
def cuts (xa bs : List Sn) : List Sn := xa.flatMap fun a => cut a bs
theorem cuts_spec {xa bs : List Sn} (ha : ∀ s ∈ xa, Ok s) (hb : Can bs) : (∀ s ∈ cuts xa bs, Ok s) ∧ ∀ p, memB (cuts xa bs) p = (memB xa p && !memB bs p) := by
 constructor
 ·intro s hs
  obtain ⟨a, h1, h2⟩ := List.mem_flatMap.1 hs
  obtain ⟨a0, a1, a2⟩ := ha a h1
  exact (cut_spec bs a hb a0 a2).1 s h2
 ·intro p
  unfold cuts
  rw [memB_flatMap]
  induction xa with
  | nil => rfl
  | cons a xa ih =>
   obtain ⟨a0, a1, a2⟩ := ha a List.mem_cons_self
   rw [List.any_cons, (cut_spec bs a hb a0 a2).2, ih (fun s hs => ha s (List.mem_cons_of_mem _ hs)), f5z]
   cases inB a p <;> cases memB xa p <;> cases memB bs p <;> rfl
/-- How many points there are. -/
def wid (xs : List Sn) : Int := (xs.map fun s => s.2 + 1 - s.1).sum
theorem wid_nil : wid [] = 0 := rfl
theorem wid_cons (s : Sn) (xs : List Sn) : wid (s :: xs) = (s.2 + 1 - s.1) + wid xs := by simp [wid]
def cnt (f : Int → Bool) (n : Nat) : Nat := (List.range n).countP fun i : Nat => f (i : Int)
theorem cnt_succ (f : Int → Bool) (n : Nat) : cnt f (n + 1) = cnt f n + (if f (n : Int) then 1 else 0) := by
 unfold cnt
 rw [List.range_succ, List.countP_append, List.countP_singleton]
theorem cnt_or (f g : Int → Bool) : ∀ n, cnt (fun p => f p || g p) n + cnt (fun p => f p && g p) n = cnt f n + cnt g n
 | 0 => rfl
 | n + 1 => by
  have := cnt_or f g n
  rw [cnt_succ, cnt_succ, cnt_succ, cnt_succ]
  cases f (n : Int) <;> cases g (n : Int) <;> simp <;> omega
theorem cnt_congr {f g : Int → Bool} (h : ∀ p, f p = g p) (n : Nat) : cnt f n = cnt g n := by
 rw [show f = g from funext h]
theorem cnt_false {f : Int → Bool} (h : ∀ p, f p = false) : ∀ n, cnt f n = 0
 | 0 => rfl
 | n + 1 => by rw [cnt_succ, cnt_false h n, h]; rfl
theorem cnt_in {s : Sn} (h0 : 0 ≤ s.1) (h1 : s.1 ≤ s.2) : ∀ n : Nat, ((cnt (inB s) n : Nat) : Int) = if (n : Int) ≤ s.1 then 0 else if (n : Int) ≤ s.2 then n - s.1 else s.2 + 1 - s.1
 | 0 => by rw [if_pos (by omega)]; rfl
 | n + 1 => by
  have ih := cnt_in h0 h1 n
  rw [cnt_succ]
  have e : inB s (n : Int) = decide (s.1 ≤ (n : Int) ∧ (n : Int) ≤ s.2) := by simp [inB]
  rw [e]
  push_cast
  rw [ih]
  by_cases a : s.1 ≤ (n : Int) ∧ (n : Int) ≤ s.2
  ·rw [if_pos (decide_eq_true a)]
   by_cases c1 : (n : Int) ≤ s.1 <;> by_cases c2 : (n : Int) ≤ s.2 <;> by_cases c3 : (n : Int) + 1 ≤ s.1 <;> by_cases c4 : (n : Int) + 1 ≤ s.2 <;> simp only [c1, c2, c3, c4, if_true, if_false] <;> omega
  ·rw [if_neg (fun h => a (of_decide_eq_true h))]
   by_cases c1 : (n : Int) ≤ s.1 <;> by_cases c2 : (n : Int) ≤ s.2 <;> by_cases c3 : (n : Int) + 1 ≤ s.1 <;> by_cases c4 : (n : Int) + 1 ≤ s.2 <;> simp only [c1, c2, c3, c4, if_true, if_false] <;> omega
/-- How many addresses there are. -/
def NP : Nat := 4294967296
theorem NP_eq : (NP : Int) = 4294967296 := rfl
theorem wid_cnt : ∀ {xs : List Sn}, Can xs → wid xs = (cnt (memB xs) NP : Nat)
 | [], _ => by rw [cnt_false (fun p => g2z p)]; rfl
 | s :: xs, h => by
  obtain ⟨s0, s1, s2⟩ := h.1 s List.mem_cons_self
  have ih := wid_cnt (can_tail h)
  have h1 := cnt_or (inB s) (memB xs) NP
  have h2 : cnt (fun p => inB s p && memB xs p) NP = 0 := cnt_false (fun p => by
   rcases hi : inB s p with _ | _
   ·rfl
   ·rcases hm : memB xs p with _ | _
    ·rfl
    ·have := ((mem_tail h p).1 hm).2
     have := (g3z.1 hi).2
     omega) _
  have h3 := cnt_in s0 s1 NP
  rw [if_neg (by rw [NP_eq]; omega), if_neg (by rw [NP_eq]; omega)] at h3
  have h4 : cnt (memB (s :: xs)) NP = cnt (fun p => inB s p || memB xs p) NP := cnt_congr (fun p => f5z s xs p) _
  rw [wid_cons, ih, h4]
  have := NP_eq
  omega
/-- Inclusion and exclusion. -/
theorem wid_union {xa bs cs ds : List Sn} (ha : Can xa) (hb : Can bs) (hc : Can cs) (hd : Can ds) (h1 : ∀ p, memB cs p = (memB xa p || memB bs p)) (h2 : ∀ p, memB ds p = (memB xa p && memB bs p)) : wid cs + wid ds = wid xa + wid bs := by
 have := cnt_or (memB xa) (memB bs) NP
 rw [wid_cnt ha, wid_cnt hb, wid_cnt hc, wid_cnt hd, cnt_congr h1, cnt_congr h2]
 omega
theorem wid_le {xs : List Sn} (h : Can xs) : 0 ≤ wid xs ∧ wid xs ≤ 4294967296 := by
 rw [wid_cnt h]
 have : cnt (memB xs) NP ≤ (List.range NP).length := List.countP_le_length
 rw [List.length_range] at this
 have := NP_eq
 omega
end Go.Proofs.Ytmdhedkgpgoneaa.Si

namespace Go.Proofs.Ytmdhedkgpgoneaa.Se
set_option linter.unusedVariables false
open Go.RowKit Go.Proofs.Ytmdhedkgpgoneaa.Q Go.Proofs.Ytmdhedkgpgoneaa.Pure Go.Proofs.Ytmdhedkgpgoneaa.Si Go.Proofs.YtmdhedkgpgoneaaW.PrintWords
/-- A block. -/
abbrev Bl := S44
theorem bl_ext {a b : Bl} (h0 : a.f0 = b.f0) (h1 : a.f1 = b.f1) : a = b := by
 obtain ⟨a0, a1⟩ := a
 obtain ⟨b0, b1⟩ := b
 obtain rfl : a0 = b0 := h0
 obtain rfl : a1 = b1 := h1
 rfl
instance decBl : DecidableEq Bl := fun a b => decidable_of_iff (a.f0 = b.f0 ∧ a.f1 = b.f1) ⟨fun h => bl_ext h.1 h.2, fun h => h ▸ ⟨rfl, rfl⟩⟩
/-- The span of a block. -/
def spn (b : Bl) : Sn := (b.f0, b.f0 + sz b.f1 - 1)
theorem sz_dvd {b : Int} (h0 : 0 ≤ b) (h1 : b ≤ 32) : ∃ q : Int, 4294967296 = sz b * q := by
 obtain ⟨n, rfl⟩ : ∃ n : Nat, b = n := ⟨b.toNat, by omega⟩
 refine ⟨2 ^ n, ?_⟩
 unfold sz
 rw [← Int.pow_add, show (32 - (n : Int)).toNat + n = 32 by omega]
 rfl
theorem spn_ok {b : Bl} (h : bok b.f0 b.f1 = true) : Ok (spn b) := by
 obtain ⟨h0, h1, h2, h3, h4⟩ := bok_iff.1 h
 have hp := h4z b.f1
 obtain ⟨q, hq⟩ := sz_dvd h2 h3
 obtain ⟨r, hr⟩ := Int.dvd_of_emod_eq_zero h4
 refine ⟨h0, by show b.f0 ≤ b.f0 + sz b.f1 - 1; omega, ?_⟩
 show b.f0 + sz b.f1 - 1 ≤ 4294967295
 have hlt : sz b.f1 * r < sz b.f1 * q := by omega
 have h5 : r < q := Int.lt_of_mul_lt_mul_left hlt (by omega)
 have h6 : sz b.f1 * (r + 1) ≤ sz b.f1 * q := Int.mul_le_mul_of_nonneg_left (by omega) (by omega)
 rw [Int.mul_add, Int.mul_one] at h6
 omega
/-- All blocks are valid. -/
def okB (l : List Bl) : Bool := l.all fun b => bok b.f0 b.f1
theorem i1z {l : List Bl} : okB l = true ↔ ∀ b ∈ l, bok b.f0 b.f1 = true := by simp [okB]
theorem spns_ok {l : List Bl} (h : okB l = true) : ∀ s ∈ l.map spn, Ok s := by
 intro s hs
 obtain ⟨b, hb, rfl⟩ := List.mem_map.1 hs
 exact spn_ok (i1z.1 h b hb)
/-- The total size of blocks. -/
def sumB (l : List Bl) : Int := (l.map fun b => sz b.f1).sum
theorem sumB_nil : sumB [] = 0 := rfl
theorem sumB_cons (b : Bl) (l : List Bl) : sumB (b :: l) = sz b.f1 + sumB l := by simp [sumB]
theorem sumB_append (a b : List Bl) : sumB (a ++ b) = sumB a + sumB b := by simp [sumB]
theorem i2z : ∀ l : List Bl, (l.length : Int) ≤ sumB l
 | [] => by rw [sumB_nil]; simp
 | b :: l => by
  have := i2z l
  have := h4z b.f1
  rw [sumB_cons, List.length_cons]
  omega
theorem cov_ok : ∀ (n : Nat) (a b : Int), 0 ≤ a → b ≤ 4294967295 → ∀ x ∈ cov n a b, bok x.f0 x.f1 = true
 | 0, _, _, _, _ => fun x hx => absurd hx (by simp [cov])
 | n + 1, a, b, h0, h1 => fun x hx => by
  unfold cov at hx
  split at hx
  ·rename_i hab
   obtain ⟨p0, p1, pf, _⟩ := mb_spec hab
   have hp := h4z (mb a b)
   rcases List.mem_cons.1 hx with rfl | hx
   ·exact bok_iff.2 ⟨h0, show a ≤ 4294967295 by omega, p0, p1, (h5z.1 pf).1⟩
   ·exact cov_ok n (a + sz (mb a b)) b (by omega) h1 x hx
  ·exact absurd hx (by simp)
theorem cov_pts (p : Int) : ∀ (n : Nat) (a b : Int), (b + 1 - a).toNat ≤ n → memB ((cov n a b).map spn) p = inB (a, b) p
 | 0, a, b, hn => by
  have : inB (a, b) p = false := by simp [inB]; omega
  rw [this]; rfl
 | n + 1, a, b, hn => by
  unfold cov
  split
  ·rename_i hab
   obtain ⟨p0, p1, pf, _⟩ := mb_spec hab
   have hp := h4z (mb a b)
   have hf := (h5z.1 pf).2
   rw [List.map_cons, f5z, cov_pts p n (a + sz (mb a b)) b (by omega), Bool.eq_iff_iff, Bool.or_eq_true, g3z, g3z, g3z]
   show a ≤ p ∧ p ≤ a + sz (mb a b) - 1 ∨ a + sz (mb a b) ≤ p ∧ p ≤ b ↔ a ≤ p ∧ p ≤ b
   omega
  ·have : inB (a, b) p = false := by simp [inB]; omega
   rw [this]; rfl
theorem cov_sum : ∀ (n : Nat) (a b : Int), (b + 1 - a).toNat ≤ n → a ≤ b + 1 → sumB (cov n a b) = b + 1 - a
 | 0, a, b, hn, h => by
  show (0 : Int) = _
  omega
 | n + 1, a, b, hn, h => by
  unfold cov
  split
  ·rename_i hab
   obtain ⟨p0, p1, pf, _⟩ := mb_spec hab
   have hp := h4z (mb a b)
   have hf := (h5z.1 pf).2
   rw [sumB_cons, cov_sum n (a + sz (mb a b)) b (by omega) (by omega)]
   show sz (mb a b) + _ = _
   omega
  ·show (0 : Int) = _
   omega
/-- The blocks of some spans. -/
def coS (C : List Sn) : List Bl := C.flatMap fun s => cov NN s.1 s.2
theorem coS_nil : coS [] = [] := rfl
theorem coS_cons (s : Sn) (C : List Sn) : coS (s :: C) = cov NN s.1 s.2 ++ coS C := by simp [coS]
theorem coS_ok {C : List Sn} (h : ∀ s ∈ C, Ok s) : okB (coS C) = true := by
 refine i1z.2 fun b hb => ?_
 obtain ⟨s, hs, hb⟩ := List.mem_flatMap.1 hb
 exact cov_ok NN s.1 s.2 (h s hs).1 (h s hs).2.2 b hb
theorem coS_pts (p : Int) : ∀ {C : List Sn}, (∀ s ∈ C, Ok s) → memB ((coS C).map spn) p = memB C p
 | [], _ => rfl
 | s :: C, h => by
  have hN := NN_eq
  obtain ⟨s0, s1, s2⟩ := h s List.mem_cons_self
  rw [coS_cons, List.map_append, h7z, cov_pts p NN s.1 s.2 (by omega), coS_pts p (fun t ht => h t (List.mem_cons_of_mem _ ht)), f5z]
theorem coS_sum : ∀ {C : List Sn}, (∀ s ∈ C, Ok s) → sumB (coS C) = wid C
 | [], _ => rfl
 | s :: C, h => by
  have hN := NN_eq
  obtain ⟨s0, s1, s2⟩ := h s List.mem_cons_self
  rw [coS_cons, sumB_append, cov_sum NN s.1 s.2 (by omega) (by omega), coS_sum (fun t ht => h t (List.mem_cons_of_mem _ ht)), wid_cons]
theorem coS_length {C : List Sn} (h : Si.Can C) : (coS C).length ≤ 4294967296 := by
 have h1 := i2z (coS C)
 rw [coS_sum h.1] at h1
 have := wid_le h
 omega
/-- A span into a sorted list. -/
def insP (x : Sn) : List Sn → List Sn
 | [] => [x]
 | s :: r => if s.1 < x.1 then s :: insP x r else x :: s :: r
def srt : List Sn → List Sn → List Sn
 | acc, [] => acc
 | acc, x :: r => srt (insP x acc) r
theorem mem_insP (x s : Sn) : ∀ l : List Sn, s ∈ insP x l ↔ s = x ∨ s ∈ l
 | [] => by simp [insP]
 | t :: r => by
  unfold insP
  split
  ·rw [List.mem_cons, mem_insP x s r, List.mem_cons]
   constructor
   ·rintro (h | h | h)
    ·exact .inr (.inl h)
    ·exact .inl h
    ·exact .inr (.inr h)
   ·rintro (h | h | h)
    ·exact .inr (.inl h)
    ·exact .inl h
    ·exact .inr (.inr h)
  ·rw [List.mem_cons]
theorem insP_length (x : Sn) : ∀ l : List Sn, (insP x l).length = l.length + 1
 | [] => rfl
 | t :: r => by
  unfold insP
  split
  ·rw [List.length_cons, insP_length x r, List.length_cons]
  ·rfl
theorem insP_sorted (x : Sn) : ∀ l : List Sn, (l.Pairwise fun s t => s.1 ≤ t.1) → (insP x l).Pairwise fun s t => s.1 ≤ t.1
 | [], _ => List.pairwise_singleton _ _
 | t :: r, h => by
  obtain ⟨h1, h2⟩ := List.pairwise_cons.1 h
  unfold insP
  split
  ·rename_i hc
   refine List.pairwise_cons.2 ⟨fun u hu => ?_, insP_sorted x r h2⟩
   rcases (mem_insP x u r).1 hu with rfl | hu
   ·omega
   ·exact h1 u hu
  ·rename_i hc
   refine List.pairwise_cons.2 ⟨fun u hu => ?_, h⟩
   rcases List.mem_cons.1 hu with rfl | hu
   ·omega
   ·have := h1 u hu
    omega
theorem mem_srt (s : Sn) : ∀ (l acc : List Sn), s ∈ srt acc l ↔ s ∈ acc ∨ s ∈ l
 | [], acc => by simp [srt]
 | x :: r, acc => by
  unfold srt
  rw [mem_srt s r, mem_insP, List.mem_cons]
  constructor
  ·rintro ((h | h) | h)
   ·exact .inr (.inl h)
   ·exact .inl h
   ·exact .inr (.inr h)
  ·rintro (h | h | h)
   ·exact .inl (.inr h)
   ·exact .inl (.inl h)
   ·exact .inr h
theorem srt_length : ∀ (l acc : List Sn), (srt acc l).length = acc.length + l.length
 | [], acc => rfl
 | x :: r, acc => by
  unfold srt
  rw [srt_length r, insP_length, List.length_cons]
  omega
theorem srt_sorted : ∀ (l acc : List Sn), (acc.Pairwise fun s t => s.1 ≤ t.1) → (srt acc l).Pairwise fun s t => s.1 ≤ t.1
 | [], acc, h => h
 | x :: r, acc, h => srt_sorted r _ (insP_sorted x acc h)
/-- The canonical list of some spans. -/
def cn (xs : List Sn) : List Sn := mrg (srt [] xs)
theorem cn_spec {xs : List Sn} (h : ∀ s ∈ xs, Ok s) : Si.Can (cn xs) ∧ ∀ p, memB (cn xs) p = memB xs p := by
 have hm : ∀ s, s ∈ srt [] xs ↔ s ∈ xs := fun s => by rw [mem_srt]; simp
 obtain ⟨h1, h2⟩ := mrg_spec (xs := srt [] xs) (fun s hs => h s ((hm s).1 hs)) (srt_sorted xs [] List.Pairwise.nil)
 exact ⟨h1, fun p => by rw [← memB_congr hm p]; exact h2 p⟩
theorem cn_length (xs : List Sn) : (cn xs).length ≤ xs.length := by
 have h1 := mrg_length (srt [] xs)
 rw [srt_length, List.length_nil, Nat.zero_add] at h1
 exact h1
theorem cn_of {xs C : List Sn} (h : ∀ s ∈ xs, Ok s) (hC : Si.Can C) (hp : ∀ p, memB C p = memB xs p) : cn xs = C := by
 obtain ⟨h1, h2⟩ := cn_spec h
 exact can_unique _ _ h1 hC fun p => by rw [h2, hp]
/-- The canonical spans of blocks. -/
def ca (l : List Bl) : List Sn := cn (l.map spn)
theorem ca_can {l : List Bl} (h : okB l = true) : Si.Can (ca l) := (cn_spec (spns_ok h)).1
theorem ca_length (l : List Bl) : (ca l).length ≤ l.length := by
 have := cn_length (l.map spn)
 rwa [List.length_map] at this
theorem ca_coS {C : List Sn} (h : Si.Can C) : ca (coS C) = C := cn_of (spns_ok (coS_ok h.1)) h fun p => (coS_pts p h.1).symm
/-- Blocks are a set. -/
def isSet (l : List Bl) : Bool := okB l && (decide (l.length ≤ 64) && decide (coS (ca l) = l))
theorem h8z {l : List Bl} : isSet l = true ↔ okB l = true ∧ l.length ≤ 64 ∧ coS (ca l) = l := by simp [isSet]
theorem isSet_coS {C : List Sn} (h : Si.Can C) : isSet (coS C) = decide ((coS C).length ≤ 64) := by
 unfold isSet
 rw [coS_ok h.1, ca_coS h]
 simp
theorem sum_set {l : List Bl} (h : isSet l = true) : sumB l = wid (ca l) := by
 obtain ⟨h1, _, h3⟩ := h8z.1 h
 rw [← coS_sum (ca_can h1).1, h3]
/-- Blocks, if they are not too many. -/
def room (l : List Bl) : List Bl × Bool := if l.length ≤ 64 then (l, true) else ([], false)
/-- What is asked of two sets. -/
def dual (f : List Sn → List Sn → List Sn) (a b : List Bl) : List Bl × Bool := if isSet a = true ∧ isSet b = true then room (coS (f (ca a) (ca b))) else ([], false)
/-- The set of blocks. -/
def ofB (l : List Bl) : List Bl × Bool := if okB l = true ∧ l.length ≤ 64 then room (coS (ca l)) else ([], false)
/-- The size of a set. -/
def szB (l : List Bl) : Int := if isSet l = true then sumB l else 0
def less (xa bs : List Sn) : List Sn := both xa (nt 0 bs)
theorem nt_can {xs : List Sn} (h : Si.Can xs) : Si.Can (nt 0 xs) := (nt_spec xs 0 (Int.le_refl _) h fun s hs => (h.1 s hs).1).1
theorem can_range {xs : List Sn} (h : ∀ s ∈ xs, Ok s) {p : Int} (hp : memB xs p = true) : 0 ≤ p ∧ p ≤ 4294967295 := by
 obtain ⟨s, hs, h1, h2⟩ := memB_iff.1 hp
 obtain ⟨s0, s1, s2⟩ := h s hs
 exact ⟨by omega, by omega⟩
theorem less_can {xa bs : List Sn} (ha : Si.Can xa) (hb : Si.Can bs) : Si.Can (less xa bs) := both_can ha (nt_can hb)
theorem less_pts {xa bs : List Sn} (ha : Si.Can xa) (hb : Si.Can bs) (p : Int) : memB (less xa bs) p = (memB xa p && !memB bs p) := by
 unfold less
 rw [both_pts, (nt_spec bs 0 (Int.le_refl _) hb fun s hs => (hb.1 s hs).1).2.2 p]
 rcases hm : memB xa p with _ | _
 ·rfl
 ·obtain ⟨h0, h1⟩ := can_range ha.1 hm
  simp [h0, h1]
theorem cn_cuts {xa bs : List Sn} (ha : Si.Can xa) (hb : Si.Can bs) : cn (cuts xa bs) = less xa bs := by
 obtain ⟨h1, h2⟩ := cuts_spec ha.1 hb
 exact cn_of h1 (less_can ha hb) fun p => by rw [less_pts ha hb, h2]
/-- Pairs of spans, not canonical ones: what they have in common. -/
theorem cn_both {xs ys : List Sn} (hx : ∀ s ∈ xs, Ok s) (hy : ∀ s ∈ ys, Ok s) : cn (both xs ys) = both (cn xs) (cn ys) := by
 obtain ⟨h1, h2⟩ := cn_spec hx
 obtain ⟨h3, h4⟩ := cn_spec hy
 exact cn_of (both_ok hx) (both_can h1 h3) fun p => by rw [both_pts, both_pts, h2, h4]
theorem both_less {xa bs : List Sn} (ha : Si.Can xa) (hb : Si.Can bs) : both (less xa bs) (both xa bs) = [] :=
 can_unique _ _ (both_can (less_can ha hb) (both_can ha hb)) can_nil fun p => by rw [both_pts, less_pts ha hb, both_pts, g2z]; cases memB xa p <;> cases memB bs p <;> rfl
theorem wid_split {xa bs : List Sn} (ha : Si.Can xa) (hb : Si.Can bs) : wid (both xa bs) + wid (less xa bs) = wid xa := by
 have h := wid_union (xa := both xa bs) (bs := less xa bs) (cs := xa) (ds := []) (both_can ha hb) (less_can ha hb) ha can_nil (fun p => by rw [both_pts, less_pts ha hb]; cases memB xa p <;> cases memB bs p <;> rfl) (fun p => by rw [both_pts, less_pts ha hb, g2z]; cases memB xa p <;> cases memB bs p <;> rfl)
 rw [wid_nil] at h
 omega
end Go.Proofs.Ytmdhedkgpgoneaa.Se

namespace Go.Proofs.Ytmdhedkgpgoneaa.Se
set_option linter.unusedSimpArgs false
set_option linter.unusedVariables false
open Go.RowKit Go.Proofs.Ytmdhedkgpgoneaa.Q Go.Proofs.Ytmdhedkgpgoneaa.Pure Go.Proofs.Ytmdhedkgpgoneaa.Si Go.Proofs.YtmdhedkgpgoneaaW.PrintWords Go.Proofs.YtmdhedkgpgoneaaW.PrintLast Go.Proofs.YtmdhedkgpgoneaaW.PrintMore
theorem wnat {n : Nat} (h : n ≤ 1000000000000) : wrap64 ((n : Int) + 1) = ((n + 1 : Nat) : Int) := by
 rw [w64 (by omega) (by omega)]; omega
theorem g1z {α : Type} (p : List α) (x : α) (r : List α) : (p ++ x :: r).length = p.length + 1 + r.length := by simp; omega
theorem mid_get {α : Type} (p : List α) (x : α) (r : List α) (d : α) : (p ++ x :: r).getD p.length d = x := by
 rw [List.getD_eq_getElem?_getD, List.getElem?_append_right (Nat.le_refl _), Nat.sub_self]; rfl
theorem g7z {α : Type} (p : List α) (x : α) (r : List α) : p ++ x :: r = (p ++ [x]) ++ r := by simp
theorem e5z {α : Type} (p : List α) (x : α) : (p ++ [x]).length = p.length + 1 := by simp
theorem rdB_mid (p r : List Bl) (x : Bl) : b4z (p ++ x :: r) ((p.length : Nat) : Int) = x := mid_get p x r _
/-- A span, as the reference has it. -/
abbrev S6 := S63
def to6 (s : Sn) : S6 := ⟨s.1, s.2⟩
theorem i3z (p r : List Sn) (x : Sn) : c3z ((p ++ x :: r).map to6) ((p.length : Nat) : Int) = to6 x := by
 have h := mid_get (p.map to6) (to6 x) (r.map to6) z63
 rw [List.length_map] at h
 rw [List.map_append, List.map_cons]
 exact h
theorem rd6_last (p : List Sn) (x : Sn) : c3z ((p ++ [x]).map to6) ((p.length : Nat) : Int) = to6 x := i3z p [] x
theorem set6_last (p : List Sn) (x y : Sn) : ((p ++ [x]).map to6).set p.length (to6 y) = (p ++ [y]).map to6 := by
 rw [List.map_append, List.map_append, List.set_append_right _ _ (by rw [List.length_map]; exact Nat.le_refl _), List.length_map, Nat.sub_self]
 rfl
theorem ins_loop (x0 : List Bl) (x4 : Int) (x : Sn) : ∀ (r p : List Sn), p.length + r.length ≤ 100000 → ∃ c, c ≤ r.length + 1 ∧ ∀ k, spec_l2Spans.l1 (k + c) x0 ((p ++ r).map to6) x4 (p.length : Int) x.1 x.2 = spec_l2Spans.l0 k x0 ((p ++ insP x r).map to6) (wrap64 (x4 + 1)) := by
 intro r
 induction r with
 | nil =>
  intro p hl
  refine ⟨1, by simp, fun k => ?_⟩
  have hm : ((p ++ []).map to6) = p.map to6 := by rw [List.append_nil]
  have hml : (p.map to6).length = p.length := List.length_map ..
  have ht : (p.map to6).take p.length = p.map to6 := List.take_of_length_le (by omega)
  have hd : (p.map to6).drop p.length = [] := List.drop_eq_nil_of_le (by omega)
  rw [hm]
  simp only [spec_l2Spans.l1, Option.bind_some, List.nil_append, Int.toNat_natCast, ht, hd, List.append_nil]
  rw [if_neg (by omega), if_pos (by omega), if_pos (by omega), if_pos (by rw [List.length_nil]; omega), if_pos (by simp; simp at hl; omega), if_pos (by simp; simp at hl; omega)]
  show spec_l2Spans.l0 k x0 (p.map to6 ++ [to6 x]) _ = _
  rw [insP, List.map_append]
  rfl
 | cons s r ih =>
  intro p hl
  rw [List.length_cons] at hl
  have hml : ((p ++ s :: r).map to6).length = p.length + 1 + r.length := by rw [List.length_map, g1z]
  by_cases hc : s.1 < x.1
  ·obtain ⟨c, hc1, hc2⟩ := ih (p ++ [s]) (by rw [e5z]; omega)
   refine ⟨c + 1, by rw [List.length_cons]; omega, fun k => ?_⟩
   rw [show k + (c + 1) = (k + c) + 1 by omega]
   simp only [spec_l2Spans.l1]
   rw [if_pos (by omega), if_pos (by omega), i3z, if_pos (show (to6 s).f0 < x.1 from hc), wnat (by omega)]
   have h := hc2 k
   rw [e5z, ← g7z] at h
   rw [h, insP, if_pos hc, ← g7z]
  ·refine ⟨1, by omega, fun k => ?_⟩
   have hpl : p.length = (p.map to6).length := (List.length_map ..).symm
   have ht : ((p ++ s :: r).map to6).take p.length = p.map to6 := by rw [List.map_append, hpl, List.take_left]
   have hd : ((p ++ s :: r).map to6).drop p.length = (s :: r).map to6 := by rw [List.map_append, hpl, List.drop_left]
   simp only [spec_l2Spans.l1, Option.bind_some, List.nil_append, Int.toNat_natCast, ht, hd]
   rw [if_pos (by omega), if_pos (by omega), i3z, if_neg (show ¬ (to6 s).f0 < x.1 from hc), if_pos (by omega), if_pos (by rw [List.length_nil]; omega), if_pos (by simp; omega), if_pos (by simp; omega)]
   rw [insP, if_neg hc]
   congr 1
   simp [to6]
theorem sort_loop : ∀ (r p : List Bl) (A : List Sn), A.length + r.length ≤ 1000 → p.length + r.length ≤ 1000 → okB r = true → ∃ c, c ≤ 1010 * r.length + 1 ∧ ∀ k, 50 ≤ k → spec_l2Spans.l0 (k + c) (p ++ r) (A.map to6) (p.length : Int) = spec_l2Spans.l2 k ((srt A (r.map spn)).map to6) [] 0 := by
 intro r
 induction r with
 | nil =>
  intro p A _ hl _
  refine ⟨1, by simp, fun k _ => ?_⟩
  simp only [spec_l2Spans.l0]
  rw [List.append_nil, if_neg (by omega)]
  rfl
 | cons b r ih =>
  intro p A h1 h2 hok
  rw [List.length_cons] at h1 h2
  have hb := i1z.1 hok b List.mem_cons_self
  obtain ⟨c1, hc1, hc2⟩ := ins_loop (p ++ b :: r) (p.length : Int) (spn b) A [] (by rw [List.length_nil]; omega)
  obtain ⟨c3, hc3, hc4⟩ := ih (p ++ [b]) (insP (spn b) A) (by rw [insP_length]; omega) (by rw [e5z]; omega) (i1z.2 fun x hx => i1z.1 hok x (List.mem_cons_of_mem _ hx))
  refine ⟨c3 + c1 + 1, by rw [List.length_cons]; omega, fun k hk => ?_⟩
  rw [show k + (c3 + c1 + 1) = (k + c3 + c1) + 1 by omega]
  simp only [spec_l2Spans.l0]
  rw [g1z, if_pos (by omega), if_pos (by omega), rdB_mid, last_spec hb (by omega), Option.bind_some]
  have h := hc2 (k + c3)
  rw [List.nil_append, List.nil_append, List.length_nil] at h
  have h' := hc4 k hk
  rw [← g7z, e5z] at h'
  rw [show (0 : Int) = ((0 : Nat) : Int) from rfl]
  refine Eq.trans h ?_
  rw [wnat (by omega), h']
  rfl
theorem merge_loop : ∀ (R P xa : List Sn) (t : Sn), P.length + R.length ≤ 100000 → xa.length + R.length ≤ 100000 → (∀ s ∈ R, 0 ≤ s.2 ∧ s.2 ≤ 4294967295) → 0 ≤ t.2 → t.2 ≤ 4294967295 → ∀ k, 2 * R.length + 1 ≤ k →
  spec_l2Spans.l2 k ((P ++ R).map to6) ((xa ++ [t]).map to6) (P.length : Int) = some ((mrgG xa t R).map to6) := by
 intro R
 induction R with
 | nil =>
  intro P xa t hp ha _ _ _ k hk
  obtain ⟨k, rfl⟩ : ∃ j, k = j + 1 := ⟨k - 1, by omega⟩
  simp only [spec_l2Spans.l2]
  rw [if_neg (by simp)]
  rfl
 | cons s R ih =>
  intro P xa t hp ha hR t0 t1 k hk
  rw [List.length_cons] at hp ha hk
  obtain ⟨k, rfl⟩ : ∃ j, k = j + 2 := ⟨k - 2, by omega⟩
  obtain ⟨s0, s1⟩ := hR s List.mem_cons_self
  have hml : ((P ++ s :: R).map to6).length = P.length + 1 + R.length := by rw [List.length_map, g1z]
  have hal : ((xa ++ [t]).map to6).length = xa.length + 1 := by rw [List.length_map, e5z]
  have hw : wrap64 (((xa.length + 1 : Nat) : Int) - 1) = (xa.length : Int) := by rw [w64 (by omega) (by omega)]; omega
  simp only [spec_l2Spans.l2]
  rw [hml, hal, hw, if_pos (by omega), if_pos (by omega), if_pos (by omega), if_pos (by omega), if_pos (by omega), i3z, rd6_last]
  show spec_l2Spans.j3 (k + 1) _ _ _ _ (decide (s.1 ≤ wrap64 (t.2 + 1))) = _
  rw [w64 (by omega) (by omega)]
  simp only [spec_l2Spans.j3]
  by_cases hc : s.1 ≤ t.2 + 1
  ·rw [if_pos (decide_eq_true hc), hml, hal, if_pos (by omega), if_pos (by omega), if_pos (by omega), if_pos (by omega), i3z, rd6_last, Int.toNat_natCast, wnat (by omega), mrgG, if_pos hc]
   by_cases hd : t.2 < s.2
   ·rw [if_pos (show (to6 s).f1 > (to6 t).f1 from hd), if_pos hd]
    show spec_l2Spans.l2 k _ (((xa ++ [t]).map to6).set xa.length (to6 (t.1, s.2))) _ = _
    rw [set6_last]
    have h := ih (P ++ [s]) xa (t.1, s.2) (by rw [e5z]; omega) (by omega) (fun u hu => hR u (List.mem_cons_of_mem _ hu)) s0 s1 k (by omega)
    rwa [← g7z, e5z] at h
   ·rw [if_neg (show ¬ (to6 s).f1 > (to6 t).f1 from hd), if_neg hd]
    have h := ih (P ++ [s]) xa t (by rw [e5z]; omega) (by omega) (fun u hu => hR u (List.mem_cons_of_mem _ hu)) t0 t1 k (by omega)
    rwa [← g7z, e5z] at h
  ·rw [if_neg (by simpa using hc), hml, mrgG, if_neg hc, if_pos (by omega), if_pos (by omega), i3z, Option.bind_some, if_pos (by simp; omega), wnat (by omega)]
   have h := ih (P ++ [s]) (xa ++ [t]) s (by rw [e5z]; omega) (by rw [e5z]; omega) (fun u hu => hR u (List.mem_cons_of_mem _ hu)) s0 s1 k (by omega)
   rw [← g7z, e5z] at h
   rw [← h, List.map_append (l₁ := xa ++ [t])]
   rfl
theorem merge_all (S : List Sn) (hl : S.length ≤ 100000) (hS : ∀ s ∈ S, 0 ≤ s.2 ∧ s.2 ≤ 4294967295) {k : Nat} (hk : 2 * S.length + 1 ≤ k) : spec_l2Spans.l2 k (S.map to6) [] 0 = some ((mrg S).map to6) := by
 cases S with
 | nil =>
  obtain ⟨k, rfl⟩ : ∃ j, k = j + 1 := ⟨k - 1, by omega⟩
  simp only [spec_l2Spans.l2]
  rfl
 | cons s R =>
  rw [List.length_cons] at hl hk
  obtain ⟨k, rfl⟩ : ∃ j, k = j + 2 := ⟨k - 2, by omega⟩
  obtain ⟨s0, s1⟩ := hS s List.mem_cons_self
  have hml : ((s :: R).map to6).length = 1 + R.length := by rw [List.length_map, List.length_cons]; omega
  have hw : wrap64 ((([] : List S6).length : Int) - 1) = -1 := by rw [List.length_nil, w64 (by omega) (by omega)]; rfl
  have hz : c3z ((s :: R).map to6) 0 = to6 s := rfl
  simp only [spec_l2Spans.l2, spec_l2Spans.j3]
  rw [hml, hw, if_pos (by omega), if_neg (by omega), if_neg (by simp), if_pos (by omega), if_pos (by omega), hz, Option.bind_some, if_pos (by simp), w64 (x := 0 + 1) (by omega) (by omega)]
  have h := merge_loop R [s] [] s (by simp; omega) (by simp; omega) (fun u hu => hS u (List.mem_cons_of_mem _ hu)) s0 s1 k (by omega)
  exact h
theorem l2Spans_ev {l : List Bl} (h : okB l = true) (hl : l.length ≤ 1000) {k : Nat} (hk : 2000000 ≤ k) : spec_l2Spans.f k l = some ((ca l).map to6) := by
 obtain ⟨c, hc1, hc2⟩ := sort_loop l [] [] (by simpa using hl) (by simpa using hl) h
 have e := hc2 (k - c) (by omega)
 rw [show k - c + c = k by omega] at e
 unfold spec_l2Spans.f
 refine Eq.trans e ?_
 have hsl := srt_length (l.map spn) []
 rw [List.length_map, List.length_nil] at hsl
 refine merge_all _ (by omega) (fun s hs => ?_) (by omega)
 rcases (mem_srt s (l.map spn) []).1 hs with hs | hs
 ·exact absurd hs (by simp)
 ·obtain ⟨s0, s1, s2⟩ := spns_ok h s hs
  exact ⟨by omega, s2⟩
theorem cov_any : ∀ (n m : Nat) (a b : Int), (b + 1 - a).toNat ≤ n → (b + 1 - a).toNat ≤ m → cov n a b = cov m a b
 | 0, m, a, b, hn, hm => by rw [cov_nil (n := 0) (by omega), cov_nil (n := m) (by omega)]
 | n + 1, 0, a, b, hn, hm => by rw [cov_nil (n := n + 1) (by omega), cov_nil (n := 0) (by omega)]
 | n + 1, m + 1, a, b, hn, hm => by
  unfold cov
  by_cases hab : a ≤ b
  ·have hp := h4z (mb a b)
   rw [if_pos hab, if_pos hab, cov_any n m (a + sz (mb a b)) b (by omega) (by omega)]
  ·rw [if_neg hab, if_neg hab]
theorem cov_len {a b : Int} (n : Nat) (h : a ≤ b + 1) (hn : (b + 1 - a).toNat ≤ n) : ((cov n a b).length : Int) ≤ b + 1 - a := by
 have h1 := i2z (cov n a b)
 rwa [cov_sum n a b hn h] at h1
theorem cover_loop : ∀ (R P : List Sn) (acc : List Bl), P.length + R.length ≤ 1000000 → (∀ s ∈ R, Ok s) → (acc.length : Int) + wid R ≤ 5000000000 → ∀ k : Nat, wid R + 2 * R.length + 200 ≤ (k : Int) →
  spec_l2Cover.l0 k ((P ++ R).map to6) acc (P.length : Int) = some (acc ++ coS R) := by
 intro R
 induction R with
 | nil =>
  intro P acc _ _ _ k hk
  rw [wid_nil] at hk
  obtain ⟨k, rfl⟩ : ∃ j, k = j + 1 := ⟨k - 1, by omega⟩
  simp only [spec_l2Cover.l0]
  rw [if_neg (by simp), coS_nil, List.append_nil]
 | cons s R ih =>
  intro P acc hl hR hw k hk
  rw [List.length_cons] at hl hk
  have hN := NN_eq
  obtain ⟨s0, s1, s2⟩ := hR s List.mem_cons_self
  have hw0 : 0 ≤ wid R := by
   have h1 := i2z (coS R)
   rw [coS_sum (fun t ht => hR t (List.mem_cons_of_mem _ ht))] at h1
   omega
  rw [wid_cons] at hw hk
  obtain ⟨k, rfl⟩ : ∃ j, k = j + 1 := ⟨k - 1, by omega⟩
  have hml : ((P ++ s :: R).map to6).length = P.length + 1 + R.length := by rw [List.length_map, g1z]
  simp only [spec_l2Cover.l0]
  rw [hml, if_pos (by omega), if_pos (by omega), i3z]
  have hg : ((P ++ s :: R).map to6).getD P.length z63 = to6 s := by
   have := i3z P R s
   unfold c3z at this
   rwa [Int.toNat_natCast] at this
  obtain ⟨c, hc1, hc2⟩ := cover_l1 ((P ++ s :: R).map to6) P.length (by omega) (by omega) s.2 (by rw [hg]; rfl) s2 (s.2 + 1 - s.1).toNat s.1 acc s0 (Nat.le_refl _) (by omega)
  have e := hc2 (k - c) (by omega)
  rw [show k - c + c = k by omega, cov_any _ NN s.1 s.2 (Nat.le_refl _) (by omega)] at e
  refine Eq.trans e ?_
  have hcl := cov_len (a := s.1) (b := s.2) NN (by omega) (by omega)
  have h := ih (P ++ [s]) (acc ++ cov NN s.1 s.2) (by rw [e5z]; omega) (fun t ht => hR t (List.mem_cons_of_mem _ ht)) (by rw [List.length_append]; push_cast; omega) (k - c) (by omega)
  rw [← g7z, e5z] at h
  rw [h, coS_cons, List.append_assoc]
theorem cover_ev' {C : List Sn} (h : Si.Can C) (hl : C.length ≤ 100000) {k : Nat} (hk : 5000000000 ≤ k) : spec_l2Cover.f k (C.map to6) = some (coS C) := by
 have hw := wid_le h
 unfold spec_l2Cover.f
 have e := cover_loop C [] [] (by simp; omega) h.1 (by simp; omega) k (by omega)
 exact e
/-- Two lists of blocks, compared one by one. -/
theorem all_eq (a b : List Bl) (h : a.length = b.length) : ((List.range a.length).all fun i => decide (b4z a (i : Int) = b4z b (i : Int))) = decide (a = b) := by
 rw [Bool.eq_iff_iff, List.all_eq_true, decide_eq_true_iff]
 constructor
 ·intro hh
  refine List.ext_getElem h fun i h1 h2 => ?_
  have := of_decide_eq_true (hh i (List.mem_range.2 h1))
  unfold b4z at this
  rw [Int.toNat_natCast, List.getD_eq_getElem?_getD, List.getD_eq_getElem?_getD, List.getElem?_eq_getElem h1, List.getElem?_eq_getElem h2] at this
  exact this
 ·rintro rfl i _
  exact decide_eq_true rfl
theorem ne_blk (x y : Bl) : (!(x.f0 == y.f0) || !(x.f1 == y.f1)) = !decide (x = y) := by
 by_cases h : x = y
 ·subst h; simp
 ·rw [decide_eq_false h]
  by_cases h0 : x.f0 = y.f0
  ·have h1 : ¬ x.f1 = y.f1 := fun h1 => h (bl_ext h0 h1)
   simp [h0, h1]
  ·simp [h0]
theorem same_ev (a b : List Bl) (hl : a.length ≤ 1000000000) {k : Nat} (hk : a.length + 10 < k) : spec_l2Same.f k a b = some (decide (a = b)) := by
 unfold spec_l2Same.f
 by_cases h : a.length = b.length
 ·rw [if_pos (by omega), ← all_eq a b h]
  have hs := scan_loop (fun k i => spec_l2Same.l0 k a b i) a.length 1 (fun i => decide (b4z a (i : Int) = b4z b (i : Int))) false true (fun k i hi _ _ hg => ?_) (fun k i hi _ _ hg => ?_) (fun k _ => ?_) k (by omega)
  ·refine Eq.trans hs ?_
   generalize ((List.range a.length).all fun i => decide (b4z a (i : Int) = b4z b (i : Int))) = q
   cases q <;> rfl
  ·simp only [spec_l2Same.l0]
   rw [if_pos (by omega), if_pos (by omega), if_pos (by omega), ne_blk, hg, if_neg (by simp), wnat (by omega)]
  ·simp only [spec_l2Same.l0]
   rw [if_pos (by omega), if_pos (by omega), if_pos (by omega), ne_blk, hg, if_pos (by simp)]
  ·simp only [spec_l2Same.l0]
   rw [if_neg (by omega)]
 ·rw [if_neg (by omega), decide_eq_false fun e => h (by rw [e])]
theorem okB_range (l : List Bl) : ((List.range l.length).all fun i => bok (b4z l (i : Int)).f0 (b4z l (i : Int)).f1) = okB l := by
 rw [Bool.eq_iff_iff, List.all_eq_true, i1z]
 have hg : ∀ i (h : i < l.length), b4z l (i : Int) = l[i] := fun i h => by
  unfold b4z
  rw [Int.toNat_natCast, List.getD_eq_getElem?_getD, List.getElem?_eq_getElem h]; rfl
 constructor
 ·intro hh b hb
  obtain ⟨i, hi, rfl⟩ := List.mem_iff_getElem.1 hb
  have := hh i (List.mem_range.2 hi)
  rwa [hg i hi] at this
 ·intro hh i hi
  rw [hg i (List.mem_range.1 hi)]
  exact hh _ (List.getElem_mem _)
theorem blocks_spec (l : List Bl) (hl : l.length ≤ 1000000000) {k : Nat} (hk : l.length + 50 < k) : spec_l2Blocks.f k l = some (okB l && decide (l.length ≤ 64)) := by
 unfold spec_l2Blocks.f
 rw [← okB_range l]
 have hs := scan_loop (fun k i => spec_l2Blocks.l0 k l i) l.length 42 (fun i => bok (b4z l (i : Int)).f0 (b4z l (i : Int)).f1) false (decide (l.length ≤ 64)) (fun k i hi hk _ hg => ?_) (fun k i hi hk _ hg => ?_) (fun k _ => ?_) k (by omega)
 ·refine Eq.trans hs ?_
  generalize ((List.range l.length).all fun i => bok (b4z l (i : Int)).f0 (b4z l (i : Int)).f1) = q
  cases q <;> rfl
 ·simp only [spec_l2Blocks.l0]
  rw [if_pos (by omega), if_pos (by omega), ok_spec _ _ (by omega), Option.bind_some, hg, if_pos rfl, wnat (by omega)]
 ·simp only [spec_l2Blocks.l0]
  rw [if_pos (by omega), if_pos (by omega), ok_spec _ _ (by omega), Option.bind_some, hg, if_neg (by simp)]
 ·simp only [spec_l2Blocks.l0]
  rw [if_neg (by omega)]
  congr 1
  rw [Bool.eq_iff_iff, decide_eq_true_iff, decide_eq_true_iff]
  omega
theorem room_spec (l : List Bl) : spec_l2Room.f l = some (room l) := by
 unfold spec_l2Room.f room
 by_cases h : l.length ≤ 64
 ·rw [if_neg (by omega), if_pos h]
 ·rw [if_pos (by omega), if_neg h]
theorem setOk_spec (l : List Bl) (hl : l.length ≤ 100000000) {k : Nat} (hk : 5000000000 ≤ k) : spec_SetOk.f k l = some (isSet l) := by
 unfold spec_SetOk.f isSet
 rw [blocks_spec l (by omega) (by omega), Option.bind_some]
 by_cases h : okB l = true
 ·by_cases h2 : l.length ≤ 64
  ·have hcl := ca_length l
   rw [h, if_pos (by simp [h2]), l2Spans_ev h (by omega) (by omega), Option.bind_some, cover_ev' (ca_can h) (by omega) hk, Option.bind_some, same_ev _ _ (by omega) (by omega), Option.bind_some, decide_eq_true h2, Bool.true_and, Bool.true_and]
   congr 1
   rw [Bool.eq_iff_iff, decide_eq_true_iff, decide_eq_true_iff]
   exact eq_comm
  ·rw [if_neg (by simp [h2]), decide_eq_false h2]
   simp
 ·rw [if_neg (by simp [h])]
  simp [h]
theorem setOf_spec (l : List Bl) (hl : l.length ≤ 100000000) {k : Nat} (hk : 5000000000 ≤ k) : spec_SetOf.f k l = some (ofB l) := by
 unfold spec_SetOf.f ofB
 rw [blocks_spec l (by omega) (by omega), Option.bind_some]
 by_cases h : okB l = true ∧ l.length ≤ 64
 ·have hcl := ca_length l
  have h2 := h.2
  rw [if_pos (by simp [h.1, h.2]), if_pos h, l2Spans_ev h.1 (by omega) (by omega), Option.bind_some, cover_ev' (ca_can h.1) (by omega) hk, Option.bind_some, room_spec, Option.bind_some]
 ·rw [if_neg (by simpa using h), if_neg h]
theorem both_in (xa bs : List Sn) (hbl : bs.length ≤ 1000) (Q T : List Sn) (a : Sn) (hQ : xa = Q ++ a :: T) : ∀ (R P acc : List Sn), bs = P ++ R → acc.length + R.length ≤ 1000000 → ∀ k,
  spec_l2Both.l1 (k + (2 * R.length + 1)) (xa.map to6) (bs.map to6) (acc.map to6) (Q.length : Int) (P.length : Int) = spec_l2Both.l0 k (xa.map to6) (bs.map to6) ((acc ++ meets a R).map to6) (wrap64 ((Q.length : Int) + 1)) := by
 intro R
 induction R with
 | nil =>
  intro P acc hb _ k
  have hml : (bs.map to6).length = P.length := by rw [List.length_map, hb, List.append_nil]
  rw [show k + (2 * ([] : List Sn).length + 1) = k + 1 by simp]
  simp only [spec_l2Both.l1]
  rw [hml, if_neg (by omega), show meets a [] = [] from rfl, List.append_nil]
 | cons b R ih =>
  intro P acc hb hl k
  rw [List.length_cons] at hl
  have hml : (bs.map to6).length = P.length + 1 + R.length := by rw [List.length_map, hb, g1z]
  have hal : (xa.map to6).length = Q.length + 1 + T.length := by rw [List.length_map, hQ, g1z]
  have hra : c3z (xa.map to6) (Q.length : Int) = to6 a := by rw [hQ, i3z]
  have hrb : c3z (bs.map to6) (P.length : Int) = to6 b := by rw [hb, i3z]
  have hbl' : P.length + 1 + R.length ≤ 1000 := by rw [← g1z P b R, ← hb]; exact hbl
  rw [show k + (2 * (b :: R).length + 1) = (k + (2 * R.length + 1)) + 1 + 1 by rw [List.length_cons]; omega]
  have hj : spec_l2Both.l1 ((k + (2 * R.length + 1)) + 1 + 1) (xa.map to6) (bs.map to6) (acc.map to6) (Q.length : Int) (P.length : Int) = spec_l2Both.j2 ((k + (2 * R.length + 1)) + 1) (xa.map to6) (bs.map to6) (acc.map to6) (Q.length : Int) (P.length : Int) (hi2 a.1 b.1) a.2 := by
   simp only [spec_l2Both.l1]
   rw [hml, hal, if_pos (by omega), if_pos (by omega), if_pos (by omega), if_pos (by omega), hra, hrb]
   unfold hi2
   by_cases hc : a.1 < b.1
   ·rw [if_pos (show (to6 b).f0 > (to6 a).f0 from hc), if_pos hc]; rfl
   ·rw [if_neg (show ¬ (to6 b).f0 > (to6 a).f0 from hc), if_neg hc]; rfl
  rw [hj]
  have hstep : spec_l2Both.j2 ((k + (2 * R.length + 1)) + 1) (xa.map to6) (bs.map to6) (acc.map to6) (Q.length : Int) (P.length : Int) (hi2 a.1 b.1) a.2 = spec_l2Both.l1 (k + (2 * R.length + 1)) (xa.map to6) (bs.map to6) ((acc ++ meet a b).map to6) (Q.length : Int) ((P ++ [b]).length : Int) := by
   simp only [spec_l2Both.j2]
   rw [hml, if_pos (by omega), if_pos (by omega), hrb, wnat (by omega), e5z, List.length_map]
   unfold meet lo2
   by_cases hc : b.2 < a.2
   ·rw [if_pos (show (to6 b).f1 < a.2 from hc), if_pos hc]
    by_cases hd : hi2 a.1 b.1 ≤ b.2
    ·rw [if_pos (show hi2 a.1 b.1 ≤ (to6 b).f1 from hd), if_pos hd, if_pos (by omega), List.map_append]
     rfl
    ·rw [if_neg (show ¬ hi2 a.1 b.1 ≤ (to6 b).f1 from hd), if_neg hd, List.append_nil]
   ·rw [if_neg (show ¬ (to6 b).f1 < a.2 from hc), if_neg hc]
    by_cases hd : hi2 a.1 b.1 ≤ a.2
    ·rw [if_pos hd, if_pos hd, if_pos (by omega), List.map_append]
     rfl
    ·rw [if_neg hd, if_neg hd, List.append_nil]
  rw [hstep]
  have hm := meet_length a b
  rw [ih (P ++ [b]) (acc ++ meet a b) (by rw [hb, g7z]) (by rw [List.length_append]; omega) k]
  rw [show meets a (b :: R) = meet a b ++ meets a R from List.flatMap_cons .., List.append_assoc]
theorem both_out (xa bs : List Sn) (hbl : bs.length ≤ 100) : ∀ (R P acc : List Sn), xa = P ++ R → P.length + R.length ≤ 100 → acc.length + 100 * R.length ≤ 100000 → ∀ k, 300 * R.length + 1 ≤ k →
  spec_l2Both.l0 k (xa.map to6) (bs.map to6) (acc.map to6) (P.length : Int) = some ((acc ++ both R bs).map to6) := by
 intro R
 induction R with
 | nil =>
  intro P acc ha _ _ k hk
  obtain ⟨k, rfl⟩ : ∃ j, k = j + 1 := ⟨k - 1, by omega⟩
  simp only [spec_l2Both.l0]
  rw [if_neg (by rw [List.length_map, ha, List.append_nil]; omega), show both [] bs = [] from rfl, List.append_nil]
 | cons a R ih =>
  intro P acc ha hl hc k hk
  rw [List.length_cons] at hl hc hk
  obtain ⟨k, rfl⟩ : ∃ j, k = j + (2 * bs.length + 1) + 1 := ⟨k - (2 * bs.length + 1) - 1, by omega⟩
  have hal : (xa.map to6).length = P.length + 1 + R.length := by rw [List.length_map, ha, g1z]
  have hm := meets_length a bs
  simp only [spec_l2Both.l0]
  rw [hal, if_pos (by omega)]
  refine Eq.trans (both_in xa bs (by omega) P R a ha bs [] acc rfl (by omega) k) ?_
  rw [wnat (by omega)]
  have h := ih (P ++ [a]) (acc ++ meets a bs) (by rw [ha, g7z]) (by rw [e5z]; omega) (by rw [List.length_append]; omega) k (by omega)
  rw [e5z] at h
  rw [h, show both (a :: R) bs = meets a bs ++ both R bs from List.flatMap_cons .., List.append_assoc]
theorem l2Both_ev {xa bs : List Sn} (ha : xa.length ≤ 100) (hb : bs.length ≤ 100) {k : Nat} (hk : 100000 ≤ k) : spec_l2Both.f k (xa.map to6) (bs.map to6) = some ((both xa bs).map to6) := by
 unfold spec_l2Both.f
 exact both_out xa bs hb xa [] [] rfl (by simpa using ha) (by simp; omega) k (by omega)
theorem not_loop : ∀ (R P acc : List Sn) (lo : Int), P.length + R.length ≤ 1000 → acc.length + R.length ≤ 1000 → (∀ s ∈ R, Ok s) → ∀ k, R.length + 1 ≤ k →
  spec_l2Not.l0 k ((P ++ R).map to6) (acc.map to6) lo (P.length : Int) = some ((acc ++ nt lo R).map to6) := by
 intro R
 induction R with
 | nil =>
  intro P acc lo _ hl _ k hk
  rw [List.length_nil] at hl
  obtain ⟨k, rfl⟩ : ∃ j, k = j + 1 := ⟨k - 1, by omega⟩
  simp only [spec_l2Not.l0]
  rw [if_neg (by simp), List.length_map]
  unfold nt
  by_cases h : lo ≤ 4294967295
  ·rw [if_pos h, if_pos h, if_pos (by omega), List.map_append]
   rfl
  ·rw [if_neg h, if_neg h, List.append_nil]
 | cons s R ih =>
  intro P acc lo hp hl hR k hk
  rw [List.length_cons] at hp hl hk
  obtain ⟨k, rfl⟩ : ∃ j, k = j + 1 := ⟨k - 1, by omega⟩
  obtain ⟨s0, s1, s2⟩ := hR s List.mem_cons_self
  have hml : ((P ++ s :: R).map to6).length = P.length + 1 + R.length := by rw [List.length_map, g1z]
  simp only [spec_l2Not.l0]
  rw [hml, if_pos (by omega), if_pos (by omega), i3z, List.length_map, wnat (by omega)]
  show (if s.1 > lo then (if acc.length < 8796093022208 then spec_l2Not.l0 k _ (acc.map to6 ++ [to6 (lo, wrap64 (s.1 - 1))]) (wrap64 (s.2 + 1)) _ else none) else spec_l2Not.l0 k _ _ (wrap64 (s.2 + 1)) _) = _
  rw [w64 (x := s.1 - 1) (by omega) (by omega), w64 (x := s.2 + 1) (by omega) (by omega)]
  unfold nt
  by_cases h : s.1 > lo
  ·rw [if_pos h, if_pos h, if_pos (by omega)]
   have e := ih (P ++ [s]) (acc ++ [(lo, s.1 - 1)]) (s.2 + 1) (by rw [e5z]; omega) (by rw [e5z]; omega) (fun t ht => hR t (List.mem_cons_of_mem _ ht)) k (by omega)
   rw [← g7z, e5z, List.append_assoc, List.map_append (l₁ := acc) (l₂ := [(lo, s.1 - 1)])] at e
   exact e
  ·rw [if_neg h, if_neg h, List.nil_append]
   have e := ih (P ++ [s]) acc (s.2 + 1) (by rw [e5z]; omega) (by omega) (fun t ht => hR t (List.mem_cons_of_mem _ ht)) k (by omega)
   rw [← g7z, e5z] at e
   exact e
theorem l2Not_ev {xs : List Sn} (h : ∀ s ∈ xs, Ok s) (hl : xs.length ≤ 500) {k : Nat} (hk : 1000 ≤ k) : spec_l2Not.f k (xs.map to6) = some ((nt 0 xs).map to6) := by
 unfold spec_l2Not.f
 exact not_loop xs [] [] 0 (by simp; omega) (by simp; omega) h k (by omega)
theorem both_len64 {a b : List Sn} (ha : a.length ≤ 66) (hb : b.length ≤ 66) : (both a b).length ≤ 5000 := by
 have h1 := both_length b a
 have h2 : a.length * b.length ≤ 66 * 66 := Nat.mul_le_mul ha hb
 omega
theorem setLess_spec (a b : List Bl) (ha : a.length ≤ 100000000) (hb : b.length ≤ 100000000) {k : Nat} (hk : 5000000001 ≤ k) : spec_SetLess.f k a b = some (dual less a b) := by
 obtain ⟨k, rfl⟩ : ∃ j, k = j + 1 := ⟨k - 1, by omega⟩
 unfold spec_SetLess.f dual less
 rw [setOk_spec a ha (by omega), Option.bind_some]
 by_cases h1 : isSet a = true
 ·rw [if_pos h1, setOk_spec b hb (by omega), Option.bind_some]
  simp only [spec_SetLess.j0]
  by_cases h2 : isSet b = true
  ·obtain ⟨a1, a2, a3⟩ := h8z.1 h1
   obtain ⟨b1, b2, b3⟩ := h8z.1 h2
   have hal := ca_length a
   have hbl := ca_length b
   have hnl := nt_length (ca b) 0
   have hl := both_len64 (a := ca a) (b := nt 0 (ca b)) (by omega) (by omega)
   rw [if_neg (by simp [h2]), if_pos ⟨h1, h2⟩, l2Spans_ev a1 (by omega) (by omega), Option.bind_some, l2Spans_ev b1 (by omega) (by omega), Option.bind_some, l2Not_ev (ca_can b1).1 (by omega) (by omega), Option.bind_some, l2Both_ev (by omega) (by omega) (by omega), Option.bind_some, cover_ev' (both_can (ca_can a1) (nt_can (ca_can b1))) (by omega) (by omega), Option.bind_some, room_spec, Option.bind_some]
  ·rw [if_pos (by simp [h2]), if_neg (fun h => h2 h.2)]
 ·rw [if_neg h1]
  simp only [spec_SetLess.j0]
  rw [if_pos trivial, if_neg (fun h => h1 h.1)]
end Go.Proofs.Ytmdhedkgpgoneaa.Se

namespace Go.Proofs.Ytmdhedkgpgoneaa.Se
set_option linter.unusedSimpArgs false
set_option linter.unusedVariables false
open Go.RowKit Go.Sort Go.Proofs.Ytmdhedkgpgoneaa.Q Go.Proofs.Ytmdhedkgpgoneaa.Pure Go.Proofs.Ytmdhedkgpgoneaa.Si Go.Proofs.YtmdhedkgpgoneaaW.PrintWords Go.Proofs.YtmdhedkgpgoneaaW.PrintLast Go.Proofs.YtmdhedkgpgoneaaW.PrintMore
/-- A span, as the program has it. -/
abbrev S5 := S55
def to5 (s : Sn) : S5 := ⟨s.1, s.2⟩
def of5 (s : S5) : Sn := (s.f0, s.f1)
theorem of5_to5 (s : Sn) : of5 (to5 s) = s := rfl
theorem rd5_mid (p r : List Sn) (x : Sn) : b0z ((p ++ x :: r).map to5) ((p.length : Nat) : Int) = to5 x := by
 have h := mid_get (p.map to5) (to5 x) (r.map to5) z55
 rw [List.length_map] at h
 rw [List.map_append, List.map_cons]
 exact h
theorem rd5_last (p : List Sn) (x : Sn) : b0z ((p ++ [x]).map to5) ((p.length : Nat) : Int) = to5 x := rd5_mid p [] x
theorem set5_last (p : List Sn) (x y : Sn) : ((p ++ [x]).map to5).set p.length (to5 y) = (p ++ [y]).map to5 := by
 rw [List.map_append, List.map_append, List.set_append_right _ _ (by rw [List.length_map]; exact Nat.le_refl _), List.length_map, Nat.sub_self]
 rfl
theorem snoc5 (p : List Sn) (x : Sn) : p.map to5 ++ [to5 x] = (p ++ [x]).map to5 := by rw [List.map_append]; rfl
theorem spans_loop : ∀ (R P : List Bl) (acc : List Sn), okB R = true → P.length + R.length ≤ 100000000 → acc.length + R.length ≤ 100000000 → ∀ k, R.length + 1 ≤ k →
  impl_spans.l0 k (acc.map to5) (P ++ R) ((P ++ R).length : Int) (P.length : Int) = some ((acc ++ R.map spn).map to5) := by
 intro R
 induction R with
 | nil =>
  intro P acc _ _ _ k hk
  obtain ⟨k, rfl⟩ : ∃ j, k = j + 1 := ⟨k - 1, by omega⟩
  simp only [impl_spans.l0]
  rw [if_neg (by simp), List.map_nil, List.append_nil]
 | cons b R ih =>
  intro P acc hok hl ha k hk
  rw [List.length_cons] at hl ha hk
  obtain ⟨k, rfl⟩ : ∃ j, k = j + 1 := ⟨k - 1, by omega⟩
  obtain ⟨b0, b1, b2, b3, _⟩ := bok_iff.1 (i1z.1 hok b List.mem_cons_self)
  simp only [impl_spans.l0]
  rw [g1z, if_pos (by omega), if_pos (by omega), if_pos (by omega), rdB_mid, last_impl b0 (by omega) b2 b3, Option.bind_some, List.length_map, if_pos (by omega), wnat (by omega)]
  have h := ih (P ++ [b]) (acc ++ [spn b]) (i1z.2 fun x hx => i1z.1 hok x (List.mem_cons_of_mem _ hx)) (by rw [e5z]; omega) (by rw [e5z]; omega) k (by omega)
  rw [← g7z, e5z, g1z, ← snoc5] at h
  refine Eq.trans h ?_
  rw [List.map_cons, List.append_assoc]
  rfl
theorem spans_ev {l : List Bl} (h : okB l = true) (hl : l.length ≤ 100000000) {k : Nat} (hk : l.length + 1 ≤ k) : impl_spans.f k l = some ((l.map spn).map to5) := by
 unfold impl_spans.f
 exact spans_loop l [] [] h (by simpa using hl) (by simpa using hl) k hk
theorem union_loop : ∀ (R P xa : List Sn) (t : Sn), P.length + R.length ≤ 100000000 → xa.length + R.length ≤ 100000000 → (∀ s ∈ R, 0 ≤ s.2 ∧ s.2 ≤ 4294967295) → 0 ≤ t.2 → t.2 ≤ 4294967295 → ∀ k, R.length + 1 ≤ k →
  impl_union.l0 k ((xa ++ [t]).map to5) ((P ++ R).map to5) ((P ++ R).length : Int) (P.length : Int) = some ((mrgG xa t R).map to5) := by
 intro R
 induction R with
 | nil =>
  intro P xa t hp ha _ _ _ k hk
  obtain ⟨k, rfl⟩ : ∃ j, k = j + 1 := ⟨k - 1, by omega⟩
  simp only [impl_union.l0]
  rw [if_neg (by simp)]
  rfl
 | cons s R ih =>
  intro P xa t hp ha hR t0 t1 k hk
  rw [List.length_cons] at hp ha hk
  obtain ⟨k, rfl⟩ : ∃ j, k = j + 1 := ⟨k - 1, by omega⟩
  obtain ⟨s0, s1⟩ := hR s List.mem_cons_self
  have hml : ((P ++ s :: R).map to5).length = P.length + 1 + R.length := by rw [List.length_map, g1z]
  have hal : ((xa ++ [t]).map to5).length = xa.length + 1 := by rw [List.length_map, e5z]
  have hw : wrap64 (((xa.length + 1 : Nat) : Int) - 1) = (xa.length : Int) := by rw [w64 (by omega) (by omega)]; omega
  simp only [impl_union.l0]
  rw [hml, g1z, hal, hw, if_pos (by omega), if_pos (by omega), if_pos (by omega), if_pos (by omega), if_pos (by omega), if_pos (by omega), rd5_mid, rd5_last, Int.toNat_natCast, wnat (by omega)]
  show (if s.1 ≤ wrap64 (t.2 + 1) then impl_union.l0 k (((xa ++ [t]).map to5).set xa.length (to5 (t.1, mx t.2 s.2))) _ _ _ else (if xa.length + 1 < 8796093022208 then impl_union.l0 k ((xa ++ [t]).map to5 ++ [to5 s]) _ _ _ else none)) = _
  rw [w64 (by omega) (by omega), mrgG]
  by_cases hc : s.1 ≤ t.2 + 1
  ·rw [if_pos hc, if_pos hc, set5_last]
   have hm : 0 ≤ mx t.2 s.2 ∧ mx t.2 s.2 ≤ 4294967295 := by unfold mx; split <;> omega
   have h := ih (P ++ [s]) xa (t.1, mx t.2 s.2) (by rw [e5z]; omega) (by omega) (fun u hu => hR u (List.mem_cons_of_mem _ hu)) hm.1 hm.2 k (by omega)
   rw [← g7z, e5z, g1z] at h
   exact h
  ·rw [if_neg hc, if_neg hc, if_pos (by omega), snoc5]
   have h := ih (P ++ [s]) (xa ++ [t]) s (by rw [e5z]; omega) (by rw [e5z]; omega) (fun u hu => hR u (List.mem_cons_of_mem _ hu)) s0 s1 k (by omega)
   rw [← g7z P s R, e5z P s, g1z] at h
   exact h
theorem union_all (S : List Sn) (hl : S.length ≤ 100000000) (hS : ∀ s ∈ S, 0 ≤ s.2 ∧ s.2 ≤ 4294967295) {k : Nat} (hk : S.length + 1 ≤ k) : impl_union.l0 k [] (S.map to5) (S.length : Int) 0 = some ((mrg S).map to5) := by
 cases S with
 | nil =>
  obtain ⟨k, rfl⟩ : ∃ j, k = j + 1 := ⟨k - 1, by omega⟩
  simp only [impl_union.l0]
  rfl
 | cons s R =>
  rw [List.length_cons] at hl hk
  obtain ⟨k, rfl⟩ : ∃ j, k = j + 1 := ⟨k - 1, by omega⟩
  obtain ⟨s0, s1⟩ := hS s List.mem_cons_self
  have hml : ((s :: R).map to5).length = 1 + R.length := by rw [List.length_map, List.length_cons]; omega
  have hml' : (s :: R).length = 1 + R.length := by rw [List.length_cons]; omega
  have hz : b0z ((s :: R).map to5) 0 = to5 s := rfl
  simp only [impl_union.l0]
  rw [hml, hml', if_pos (by omega), if_pos (by omega), if_pos (by omega), if_neg (by simp), hz, if_pos (by simp), w64 (x := 0 + 1) (by omega) (by omega)]
  have h := union_loop R [s] [] s (by simp; omega) (by simp; omega) (fun u hu => hS u (List.mem_cons_of_mem _ hu)) s0 s1 k (by omega)
  rw [show ([s] ++ R).length = 1 + R.length by simp; omega] at h
  exact h
theorem sort_perm (xs : List S5) : (Un.sortSp xs).Perm xs := by
 have h := (Un.sortSp_raw xs).1.2.2
 have hl := Un.h6z xs
 have e1 : ((Un.sortSp xs).toArray.extract 0 xs.toArray.size).toList = Un.sortSp xs := by
  rw [List.size_toArray, ← hl]; simp
 have e2 : (xs.toArray.extract 0 xs.toArray.size).toList = xs := by simp
 rwa [e1, e2] at h
theorem sort_sorted (xs : List S5) : (Un.sortSp xs).Pairwise fun s t => s.f0 ≤ t.f0 := by
 have h := (Un.sortSp_raw xs).2
 have hl := Un.h6z xs
 rw [List.pairwise_iff_getElem]
 intro i j hi hj hij
 have h1 := h i j (Nat.zero_le _) hij (by rw [List.size_toArray, ← hl]; exact hj)
 rw [Un.ltSp, getElem!_pos _ j (by simpa using hj), getElem!_pos _ i (by simpa using hi)] at h1
 have h2 := of_decide_eq_false h1
 simp only [List.getElem_toArray] at h2
 omega
theorem union_ev {xs : List Sn} (h : ∀ s ∈ xs, Ok s) (hl : xs.length ≤ 100000000) {k : Nat} (hk : xs.length + 1 ≤ k) : impl_union.f k (xs.map to5) = some ((cn xs).map to5) := by
 unfold impl_union.f slices_SortedFunc_span.f
 rw [if_pos (by rw [List.length_map]; omega), Option.bind_some]
 have hp := sort_perm (xs.map to5)
 have hs := sort_sorted (xs.map to5)
 have hsl := Un.h6z (xs.map to5)
 rw [List.length_map] at hsl
 generalize Un.sortSp (xs.map to5) = ys at hp hs hsl ⊢
 obtain ⟨zs, rfl⟩ : ∃ zs : List Sn, ys = zs.map to5 := ⟨ys.map of5, by rw [List.map_map, show (to5 ∘ of5) = id from rfl, List.map_id]⟩
 have hm : ∀ s, s ∈ zs ↔ s ∈ xs := fun s => by
  have := hp.mem_iff (a := to5 s)
  rw [List.mem_map, List.mem_map] at this
  constructor
  ·intro hz
   obtain ⟨u, hu, e⟩ := this.1 ⟨s, hz, rfl⟩
   rw [← of5_to5 s, ← e]
   exact hu
  ·intro hz
   obtain ⟨u, hu, e⟩ := this.2 ⟨s, hz, rfl⟩
   rw [← of5_to5 s, ← e]
   exact hu
 have hz : zs.Pairwise fun s t => s.1 ≤ t.1 := (List.pairwise_map.1 hs).imp fun h => h
 rw [List.length_map] at hsl ⊢
 rw [union_all zs (by omega) (fun s hs => by obtain ⟨s0, s1, s2⟩ := h s ((hm s).1 hs); exact ⟨by omega, s2⟩) (by omega)]
 obtain ⟨c1, c2⟩ := mrg_spec (xs := zs) (fun s hs => h s ((hm s).1 hs)) hz
 rw [cn_of h c1 fun p => by rw [c2]; exact memB_congr hm p]
theorem set_loop : ∀ (R P : List Sn) (acc : List Bl), P.length + R.length ≤ 100000000 → (∀ s ∈ R, Ok s) → (acc.length : Int) + wid R ≤ 5000000000 → ∀ k : Nat, R.length + 171798691930 ≤ k →
  impl_set.l0 k acc ((P ++ R).map to5) ((P ++ R).length : Int) (P.length : Int) = some (acc ++ coS R) := by
 intro R
 induction R with
 | nil =>
  intro P acc _ _ _ k hk
  obtain ⟨k, rfl⟩ : ∃ j, k = j + 1 := ⟨k - 1, by omega⟩
  simp only [impl_set.l0]
  rw [if_neg (by simp), coS_nil, List.append_nil]
 | cons s R ih =>
  intro P acc hl hR hw k hk
  rw [List.length_cons] at hl hk
  have hN := NN_eq
  obtain ⟨s0, s1, s2⟩ := hR s List.mem_cons_self
  have hw0 : 0 ≤ wid R := by
   have h1 := i2z (coS R)
   rw [coS_sum (fun t ht => hR t (List.mem_cons_of_mem _ ht))] at h1
   omega
  rw [wid_cons] at hw
  obtain ⟨k, rfl⟩ : ∃ j, k = j + 1 := ⟨k - 1, by omega⟩
  have hml : ((P ++ s :: R).map to5).length = P.length + 1 + R.length := by rw [List.length_map, g1z]
  have hcl := cov_len (a := s.1) (b := s.2) NN (by omega) (by omega)
  simp only [impl_set.l0]
  rw [hml, g1z, if_pos (by omega), if_pos (by omega), if_pos (by omega), rd5_mid, wnat (by omega)]
  show ((impl_span_blocks.f k s.1 s.2).bind fun t106 => _) = _
  rw [blocks_ev s0 s2 (by omega), Option.bind_some, if_pos (by omega)]
  have h := ih (P ++ [s]) (acc ++ cov NN s.1 s.2) (by rw [e5z]; omega) (fun t ht => hR t (List.mem_cons_of_mem _ ht)) (by rw [List.length_append]; push_cast; omega) k (by omega)
  rw [← g7z, e5z, g1z] at h
  rw [h, coS_cons, List.append_assoc]
theorem set_ev {xs : List Sn} (h : ∀ s ∈ xs, Ok s) (hl : xs.length ≤ 100000000) {k : Nat} (hk : 171900000000 ≤ k) : impl_set.f k (xs.map to5) = some (coS (cn xs)) := by
 have hc := (cn_spec h).1
 have hw := wid_le hc
 have hcl := cn_length xs
 unfold impl_set.f
 rw [union_ev h hl (by omega), Option.bind_some, List.length_map]
 exact set_loop (cn xs) [] [] (by simp; omega) hc.1 (by simp; omega) k (by omega)
theorem index_loop : ∀ (R P : List Bl), P.length + R.length ≤ 1000000000 → ∀ k, R.length + 1 ≤ k → ∃ v, slices_IndexFunc_Block.l0 k (P ++ R) ((P ++ R).length : Int) (P.length : Int) = some v ∧ decide (v ≥ 0) = !okB R := by
 intro R
 induction R with
 | nil =>
  intro P _ k hk
  obtain ⟨k, rfl⟩ : ∃ j, k = j + 1 := ⟨k - 1, by omega⟩
  refine ⟨-1, ?_, by simp [okB]⟩
  simp only [slices_IndexFunc_Block.l0]
  rw [if_neg (by simp)]
 | cons b R ih =>
  intro P hl k hk
  rw [List.length_cons] at hl hk
  obtain ⟨k, rfl⟩ : ∃ j, k = j + 1 := ⟨k - 1, by omega⟩
  simp only [slices_IndexFunc_Block.l0, impl_blocksOk_1.f]
  rw [g1z, if_pos (by omega), if_pos (by omega), if_pos (by omega), rdB_mid, ok_impl, Option.bind_some, Option.bind_some, wnat (by omega)]
  by_cases hb : bok b.f0 b.f1 = true
  ·obtain ⟨v, hv, he⟩ := ih (P ++ [b]) (by rw [e5z]; omega) k (by omega)
   rw [← g7z, e5z, g1z] at hv
   refine ⟨v, ?_, ?_⟩
   ·rw [if_neg (by simp [hb])]; exact hv
   ·rw [he]; simp [okB, hb]
  ·refine ⟨P.length, ?_, ?_⟩
   ·rw [if_pos (by simp [hb])]
   ·have : okB (b :: R) = false := by simp [okB, hb]
    rw [this]
    simp
theorem blocks_impl (l : List Bl) (hl : l.length ≤ 1000000000) {k : Nat} (hk : 100 ≤ k) : impl_blocksOk.f k l = some (okB l && decide (l.length ≤ 64)) := by
 unfold impl_blocksOk.f slices_ContainsFunc_Block.f slices_IndexFunc_Block.f
 by_cases h : l.length ≤ 64
 ·obtain ⟨v, hv, he⟩ := index_loop l [] (by simpa using hl) k (by omega)
  rw [if_pos (by omega)]
  have hv' : slices_IndexFunc_Block.l0 k l (l.length : Int) 0 = some v := hv
  rw [hv', Option.bind_some, Option.bind_some, he, decide_eq_true h, Bool.not_not, Bool.and_true]
 ·rw [if_neg (by omega), decide_eq_false h, Bool.and_false]
theorem room_impl (l : List Bl) : impl_limited.f l = some (room l) := by
 unfold impl_limited.f room
 by_cases h : l.length ≤ 64
 ·rw [if_neg (by omega), if_pos h]
 ·rw [if_pos (by omega), if_neg h]
theorem equal_ev (a b : List Bl) (hl : a.length ≤ 10000000000) {k : Nat} (hk : a.length + 10 < k) : slices_Equal_Block.f k a b = some (decide (a = b)) := by
 unfold slices_Equal_Block.f
 by_cases h : a.length = b.length
 ·rw [if_pos (by omega), ← all_eq a b h]
  have hs := scan_loop (fun k i => slices_Equal_Block.l0 k a b (a.length : Int) i) a.length 1 (fun i => decide (b4z a (i : Int) = b4z b (i : Int))) false true (fun k i hi _ _ hg => ?_) (fun k i hi _ _ hg => ?_) (fun k _ => ?_) k (by omega)
  ·refine Eq.trans hs ?_
   generalize ((List.range a.length).all fun i => decide (b4z a (i : Int) = b4z b (i : Int))) = q
   cases q <;> rfl
  ·simp only [slices_Equal_Block.l0]
   rw [if_pos (by omega), if_pos (by omega), if_pos (by omega), if_pos (by omega), ne_blk, hg, if_neg (by simp), wnat (by omega)]
  ·simp only [slices_Equal_Block.l0]
   rw [if_pos (by omega), if_pos (by omega), if_pos (by omega), if_pos (by omega), ne_blk, hg, if_pos (by simp)]
  ·simp only [slices_Equal_Block.l0]
   rw [if_neg (by omega)]
 ·rw [if_neg (by omega), decide_eq_false fun e => h (by rw [e])]
theorem setOk_impl (l : List Bl) (hl : l.length ≤ 100000000) {k : Nat} (hk : 171900000000 ≤ k) : impl_SetOk.f k l = some (isSet l) := by
 unfold impl_SetOk.f isSet
 rw [blocks_impl l (by omega) (by omega), Option.bind_some]
 by_cases h : okB l = true
 ·by_cases h2 : l.length ≤ 64
  ·have hcl := coS_length (ca_can h)
   rw [h, if_pos (by simp [h2]), spans_ev h (by omega) (by omega), Option.bind_some, set_ev (spns_ok h) (by rw [List.length_map]; omega) hk, Option.bind_some, equal_ev _ _ (by unfold ca at hcl; omega) (by unfold ca at hcl; omega), Option.bind_some, decide_eq_true h2, Bool.true_and, Bool.true_and]
   rfl
  ·rw [if_neg (by simp [h2]), decide_eq_false h2]
   simp
 ·rw [if_neg (by simp [h])]
  simp [h]
theorem isize_loop : ∀ (R P : List Bl) (n : Int), P.length + R.length ≤ 1000000 → okB R = true → 0 ≤ n → n + sumB R ≤ 4611686018427387904 → ∀ k, R.length + 50 ≤ k →
  impl_SetSize.l0 k n (P ++ R) ((P ++ R).length : Int) (P.length : Int) = some (n + sumB R) := by
 intro R
 induction R with
 | nil =>
  intro P n _ _ _ _ k hk
  obtain ⟨k, rfl⟩ : ∃ j, k = j + 1 := ⟨k - 1, by omega⟩
  simp only [impl_SetSize.l0]
  rw [if_neg (by simp), sumB_nil, Int.add_zero]
 | cons b R ih =>
  intro P n hl hR h0 hn k hk
  rw [List.length_cons] at hl hk
  obtain ⟨k, rfl⟩ : ∃ j, k = j + 1 := ⟨k - 1, by omega⟩
  obtain ⟨b0, b1, b2, b3, _⟩ := bok_iff.1 (i1z.1 hR b List.mem_cons_self)
  have hp := h4z b.f1
  have hs := i2z R
  rw [sumB_cons] at hn
  simp only [impl_SetSize.l0]
  rw [g1z, if_pos (by omega), if_pos (by omega), if_pos (by omega), rdB_mid, size_impl b2 b3, Option.bind_some, w64 (x := n + sz b.f1) (by omega) (by omega), wnat (by omega)]
  have h := ih (P ++ [b]) (n + sz b.f1) (by rw [e5z]; omega) (i1z.2 fun x hx => i1z.1 hR x (List.mem_cons_of_mem _ hx)) (by omega) (by omega) k (by omega)
  rw [← g7z, e5z, g1z] at h
  rw [h, sumB_cons]
  congr 1
  omega
theorem setSize_impl (l : List Bl) (hl : l.length ≤ 100000000) {k : Nat} (hk : 171900000000 ≤ k) : impl_SetSize.f k l = some (szB l) := by
 unfold impl_SetSize.f szB
 rw [setOk_impl l hl hk, Option.bind_some]
 by_cases h : isSet l = true
 ·obtain ⟨h1, h2, _⟩ := h8z.1 h
  have hw := wid_le (ca_can h1)
  have e := isize_loop l [] 0 (by simp; omega) h1 (by omega) (by rw [sum_set h]; omega) k (by omega)
  rw [if_pos h, if_pos h]
  refine Eq.trans e ?_
  rw [Int.zero_add]
 ·rw [if_neg h, if_neg h]
theorem ib_in (x1 : List Bl) (x21 : List S5) (x22 x23 : Int) (ys : List Sn) (hy : ys.length ≤ 1000) (a : Sn) : ∀ (R P acc : List Sn), ys = P ++ R → acc.length + R.length ≤ 1000000 → ∀ k,
  impl_SetBoth.l1 (k + (R.length + 1)) x1 (acc.map to5) x21 x22 x23 (ys.map to5) (ys.length : Int) (P.length : Int) a.1 a.2 = impl_SetBoth.l0 k x1 ((acc ++ meets a R).map to5) x21 x22 (wrap64 (x23 + 1)) := by
 intro R
 induction R with
 | nil =>
  intro P acc hb _ k
  have hyl : ys.length = P.length := by rw [hb, List.append_nil]
  rw [show k + (([] : List Sn).length + 1) = k + 1 by simp]
  simp only [impl_SetBoth.l1]
  rw [hyl, if_neg (by omega), show meets a [] = [] from rfl, List.append_nil]
 | cons b R ih =>
  intro P acc hb hl k
  rw [List.length_cons] at hl
  have hyl : ys.length = P.length + 1 + R.length := by rw [hb, g1z]
  have hrb : b0z (ys.map to5) (P.length : Int) = to5 b := by rw [hb, rd5_mid]
  have hm := meet_length a b
  rw [show k + ((b :: R).length + 1) = (k + (R.length + 1)) + 1 by rw [List.length_cons]; omega]
  have hstep : ∀ k', impl_SetBoth.l1 (k' + 1) x1 (acc.map to5) x21 x22 x23 (ys.map to5) (ys.length : Int) (P.length : Int) a.1 a.2 = impl_SetBoth.l1 k' x1 ((acc ++ meet a b).map to5) x21 x22 x23 (ys.map to5) (ys.length : Int) ((P ++ [b]).length : Int) a.1 a.2 := by
   intro k'
   simp only [impl_SetBoth.l1]
   rw [List.length_map, List.length_map, hyl, if_pos (by omega), if_pos (by omega), if_pos (by omega), hrb, wnat (by omega), e5z]
   show (if hi2 a.1 b.1 ≤ lo2 a.2 b.2 then (if acc.length < 8796093022208 then impl_SetBoth.l1 _ x1 (acc.map to5 ++ [to5 (hi2 a.1 b.1, lo2 a.2 b.2)]) _ _ _ _ _ _ _ _ else none) else impl_SetBoth.l1 _ _ _ _ _ _ _ _ _ _ _) = _
   unfold meet
   by_cases hd : hi2 a.1 b.1 ≤ lo2 a.2 b.2
   ·rw [if_pos hd, if_pos hd, if_pos (by omega), snoc5]
   ·rw [if_neg hd, if_neg hd, List.append_nil]
  rw [hstep, ih (P ++ [b]) (acc ++ meet a b) (by rw [hb, g7z]) (by rw [List.length_append]; omega) k]
  rw [show meets a (b :: R) = meet a b ++ meets a R from List.flatMap_cons .., List.append_assoc]
theorem ib_out {b : List Bl} (hb : okB b = true) (hbl : b.length ≤ 100) (xs : List Sn) (hx : ∀ s ∈ xs, Ok s) : ∀ (R P acc : List Sn), xs = P ++ R → P.length + R.length ≤ 100 → acc.length + 100 * R.length ≤ 100000 → (∀ s ∈ acc, Ok s) → ∀ k, 200 * R.length + 171900000001 ≤ k →
  impl_SetBoth.l0 k b (acc.map to5) (xs.map to5) (xs.length : Int) (P.length : Int) = some (room (coS (cn (acc ++ both R (b.map spn))))) := by
 intro R
 induction R with
 | nil =>
  intro P acc ha _ hc hok k hk
  rw [List.length_nil] at hc
  obtain ⟨k, rfl⟩ : ∃ j, k = j + 1 := ⟨k - 1, by omega⟩
  simp only [impl_SetBoth.l0]
  rw [if_neg (by rw [ha, List.append_nil]; omega), set_ev hok (by omega) (by omega), Option.bind_some, room_impl, Option.bind_some, show both [] (b.map spn) = [] from rfl, List.append_nil]
 | cons a R ih =>
  intro P acc ha hl hc hok k hk
  rw [List.length_cons] at hl hc hk
  have hyl : (b.map spn).length = b.length := List.length_map ..
  obtain ⟨k, rfl⟩ : ∃ j, k = j + ((b.map spn).length + 1) + 1 := ⟨k - ((b.map spn).length + 1) - 1, by omega⟩
  have hxl : xs.length = P.length + 1 + R.length := by rw [ha, g1z]
  have hm := meets_length a (b.map spn)
  have hra : b0z (xs.map to5) (P.length : Int) = to5 a := by rw [ha, rd5_mid]
  simp only [impl_SetBoth.l0]
  rw [List.length_map, hxl, if_pos (by omega), if_pos (by omega), if_pos (by omega), spans_ev hb (by omega) (by omega), Option.bind_some, hra]
  have e := ib_in b (xs.map to5) ((P.length + 1 + R.length : Nat) : Int) (P.length : Int) (b.map spn) (by omega) a (b.map spn) [] acc rfl (by omega) k
  rw [List.length_map (f := to5)]
  refine Eq.trans e ?_
  rw [wnat (by omega)]
  have hok' : ∀ s ∈ acc ++ meets a (b.map spn), Ok s := by
   intro s hs
   rcases List.mem_append.1 hs with hs | hs
   ·exact hok s hs
   ·refine both_ok (xa := [a]) (bs := b.map spn) (fun t ht => ?_) s ?_
    ·rw [List.mem_singleton.1 ht]
     exact hx a (by rw [ha]; simp)
    ·show s ∈ [a].flatMap _
     simpa using hs
  have h := ih (P ++ [a]) (acc ++ meets a (b.map spn)) (by rw [ha, g7z]) (by rw [e5z]; omega) (by rw [List.length_append]; omega) hok' k (by omega)
  rw [e5z, hxl] at h
  rw [h, show both (a :: R) (b.map spn) = meets a (b.map spn) ++ both R (b.map spn) from List.flatMap_cons .., List.append_assoc]
theorem setBoth_impl (a b : List Bl) (ha : a.length ≤ 100000000) (hb : b.length ≤ 100000000) {k : Nat} (hk : 172000000000 ≤ k) : impl_SetBoth.f k a b = some (dual both a b) := by
 obtain ⟨k, rfl⟩ : ∃ j, k = j + 1 := ⟨k - 1, by omega⟩
 unfold impl_SetBoth.f dual
 rw [setOk_impl a ha (by omega), Option.bind_some]
 by_cases h1 : isSet a = true
 ·rw [if_pos h1, setOk_impl b hb (by omega), Option.bind_some]
  simp only [impl_SetBoth.j0]
  by_cases h2 : isSet b = true
  ·obtain ⟨a1, a2, a3⟩ := h8z.1 h1
   obtain ⟨b1, b2, b3⟩ := h8z.1 h2
   rw [if_neg (by simp [h2]), if_pos ⟨h1, h2⟩, spans_ev a1 (by omega) (by omega), Option.bind_some, List.length_map]
   have e := ib_out b1 (by omega) (a.map spn) (spns_ok a1) (a.map spn) [] [] rfl (by simp; omega) (by simp; omega) (fun s hs => absurd hs (by simp)) k (by rw [List.length_map]; omega)
   refine Eq.trans e ?_
   rw [List.nil_append, cn_both (spns_ok a1) (spns_ok b1)]
   rfl
  ·rw [if_pos (by simp [h2]), if_neg (fun h => h2 h.2)]
 ·rw [if_neg h1]
  simp only [impl_SetBoth.j0]
  rw [if_pos trivial, if_neg (fun h => h1 h.1)]
theorem il_in (x1 : List Bl) (x21 : List S5) (x22 x23 : Int) (ys : List Sn) (hy : ys.length ≤ 1000) (hok : ∀ s ∈ ys, Ok s) : ∀ (R P acc : List Sn) (a : Sn), ys = P ++ R → acc.length + R.length ≤ 1000000 → ∀ k,
  impl_SetLess.l1 (k + (2 * R.length + 1)) x1 (acc.map to5) x21 x22 x23 (ys.map to5) (ys.length : Int) (P.length : Int) a.1 a.2 = impl_SetLess.l0 k x1 ((acc ++ cut a R).map to5) x21 x22 (wrap64 (x23 + 1)) := by
 intro R
 induction R with
 | nil =>
  intro P acc a hb hl k
  rw [List.length_nil] at hl
  have hyl : ys.length = P.length := by rw [hb, List.append_nil]
  rw [show k + (2 * ([] : List Sn).length + 1) = k + 1 by simp]
  simp only [impl_SetLess.l1]
  rw [hyl, if_neg (by omega), List.length_map]
  show (if a.1 ≤ a.2 then (if acc.length < 8796093022208 then impl_SetLess.l0 k x1 (acc.map to5 ++ [to5 a]) _ _ _ else none) else _) = _
  unfold cut
  by_cases h : a.1 ≤ a.2
  ·rw [if_pos h, if_pos h, if_pos (by omega), snoc5]
  ·rw [if_neg h, if_neg h, List.append_nil]
 | cons b R ih =>
  intro P acc a hb hl k
  rw [List.length_cons] at hl
  have hyl : ys.length = P.length + 1 + R.length := by rw [hb, g1z]
  have hrb : b0z (ys.map to5) (P.length : Int) = to5 b := by rw [hb, rd5_mid]
  obtain ⟨b0, b1, b2⟩ := hok b (by rw [hb]; simp)
  have hj : impl_SetLess.l1 (k + (2 * R.length + 1) + 1 + 1) x1 (acc.map to5) x21 x22 x23 (ys.map to5) (ys.length : Int) (P.length : Int) a.1 a.2 = impl_SetLess.j3 (k + (2 * R.length + 1) + 1) x1 (acc.map to5) x21 x22 x23 (ys.map to5) (ys.length : Int) (P.length : Int) (decide (b.2 < a.1 ∨ b.1 > a.2)) a.1 a.2 b.1 b.2 := by
   simp only [impl_SetLess.l1]
   rw [List.length_map, hyl, if_pos (by omega), if_pos (by omega), if_pos (by omega), hrb]
   show (if b.2 < a.1 then impl_SetLess.j3 _ _ _ _ _ _ _ _ _ true _ _ b.1 b.2 else impl_SetLess.j3 _ _ _ _ _ _ _ _ _ (decide (b.1 > a.2)) _ _ b.1 b.2) = _
   by_cases h : b.2 < a.1
   ·rw [if_pos h, decide_eq_true (Or.inl h)]
   ·rw [if_neg h]
    congr 1
    rw [Bool.eq_iff_iff, decide_eq_true_iff, decide_eq_true_iff]
    omega
  rw [show k + (2 * (b :: R).length + 1) = k + (2 * R.length + 1) + 1 + 1 by rw [List.length_cons]; omega, hj]
  simp only [impl_SetLess.j3]
  rw [List.length_map, wnat (by omega), w64 (x := b.1 - 1) (by omega) (by omega), w64 (x := b.2 + 1) (by omega) (by omega)]
  have hs : (P ++ [b]).length = P.length + 1 := e5z P b
  unfold cut
  by_cases h : b.2 < a.1 ∨ b.1 > a.2
  ·rw [if_pos (decide_eq_true h), if_pos h]
   have e := ih (P ++ [b]) acc a (by rw [hb, g7z]) (by omega) k
   rw [hs] at e
   exact e
  ·rw [if_neg (by simpa using h), if_neg h]
   by_cases h2 : a.1 < b.1
   ·rw [if_pos h2, if_pos h2, if_pos (by omega)]
    have e := ih (P ++ [b]) (acc ++ [(a.1, b.1 - 1)]) (b.2 + 1, a.2) (by rw [hb, g7z]) (by rw [e5z]; omega) k
    rw [hs, ← snoc5, List.append_assoc] at e
    exact e
   ·rw [if_neg h2, if_neg h2, List.nil_append]
    have e := ih (P ++ [b]) acc (b.2 + 1, a.2) (by rw [hb, g7z]) (by omega) k
    rw [hs] at e
    exact e
theorem il_out {b : List Bl} (hb : okB b = true) (hbl : b.length ≤ 100) (xs : List Sn) (hx : ∀ s ∈ xs, Ok s) : ∀ (R P acc : List Sn), xs = P ++ R → P.length + R.length ≤ 100 → acc.length + 200 * R.length ≤ 100000 → (∀ s ∈ acc, Ok s) → ∀ k, 300 * R.length + 171900000001 ≤ k →
  impl_SetLess.l0 k b (acc.map to5) (xs.map to5) (xs.length : Int) (P.length : Int) = some (room (coS (cn (acc ++ cuts R (ca b))))) := by
 have hcb := ca_can hb
 have hcl := ca_length b
 intro R
 induction R with
 | nil =>
  intro P acc ha _ hc hok k hk
  rw [List.length_nil] at hc
  obtain ⟨k, rfl⟩ : ∃ j, k = j + 1 := ⟨k - 1, by omega⟩
  simp only [impl_SetLess.l0]
  rw [if_neg (by rw [ha, List.append_nil]; omega), set_ev hok (by omega) (by omega), Option.bind_some, room_impl, Option.bind_some, show cuts [] (ca b) = [] from rfl, List.append_nil]
 | cons a R ih =>
  intro P acc ha hl hc hok k hk
  rw [List.length_cons] at hl hc hk
  obtain ⟨k, rfl⟩ : ∃ j, k = j + (2 * (ca b).length + 1) + 1 := ⟨k - (2 * (ca b).length + 1) - 1, by omega⟩
  have hxl : xs.length = P.length + 1 + R.length := by rw [ha, g1z]
  have hm := cut_length (ca b) a
  have hra : b0z (xs.map to5) (P.length : Int) = to5 a := by rw [ha, rd5_mid]
  obtain ⟨a0, a1, a2⟩ := hx a (by rw [ha]; simp)
  simp only [impl_SetLess.l0]
  rw [List.length_map, hxl, if_pos (by omega), if_pos (by omega), if_pos (by omega), spans_ev hb (by omega) (by omega), Option.bind_some, union_ev (spns_ok hb) (by rw [List.length_map]; omega) (by rw [List.length_map]; omega), Option.bind_some, hra]
  have e := il_in b (xs.map to5) ((P.length + 1 + R.length : Nat) : Int) (P.length : Int) (ca b) (by omega) hcb.1 (ca b) [] acc a rfl (by omega) k
  rw [List.length_map (f := to5)]
  refine Eq.trans e ?_
  rw [wnat (by omega)]
  have hok' : ∀ s ∈ acc ++ cut a (ca b), Ok s := by
   intro s hs
   rcases List.mem_append.1 hs with hs | hs
   ·exact hok s hs
   ·exact (cut_spec (ca b) a hcb a0 a2).1 s hs
  have h := ih (P ++ [a]) (acc ++ cut a (ca b)) (by rw [ha, g7z]) (by rw [e5z]; omega) (by rw [List.length_append]; omega) hok' k (by omega)
  rw [e5z, hxl] at h
  rw [h, show cuts (a :: R) (ca b) = cut a (ca b) ++ cuts R (ca b) from List.flatMap_cons .., List.append_assoc]
theorem setLess_impl (a b : List Bl) (ha : a.length ≤ 100000000) (hb : b.length ≤ 100000000) {k : Nat} (hk : 172000000000 ≤ k) : impl_SetLess.f k a b = some (dual less a b) := by
 obtain ⟨k, rfl⟩ : ∃ j, k = j + 1 := ⟨k - 1, by omega⟩
 unfold impl_SetLess.f dual
 rw [setOk_impl a ha (by omega), Option.bind_some]
 by_cases h1 : isSet a = true
 ·rw [if_pos h1, setOk_impl b hb (by omega), Option.bind_some]
  simp only [impl_SetLess.j0]
  by_cases h2 : isSet b = true
  ·obtain ⟨a1, a2, a3⟩ := h8z.1 h1
   obtain ⟨b1, b2, b3⟩ := h8z.1 h2
   have hcl := ca_length a
   rw [if_neg (by simp [h2]), if_pos ⟨h1, h2⟩, spans_ev a1 (by omega) (by omega), Option.bind_some, union_ev (spns_ok a1) (by rw [List.length_map]; omega) (by rw [List.length_map]; omega), Option.bind_some, List.length_map]
   have e := il_out b1 (by omega) (ca a) (ca_can a1).1 (ca a) [] [] rfl (by simp; omega) (by simp; omega) (fun s hs => absurd hs (by simp)) k (by omega)
   refine Eq.trans e ?_
   rw [List.nil_append, cn_cuts (ca_can a1) (ca_can b1)]
  ·rw [if_pos (by simp [h2]), if_neg (fun h => h2 h.2)]
 ·rw [if_neg h1]
  simp only [impl_SetLess.j0]
  rw [if_pos trivial, if_neg (fun h => h1 h.1)]
end Go.Proofs.Ytmdhedkgpgoneaa.Se
