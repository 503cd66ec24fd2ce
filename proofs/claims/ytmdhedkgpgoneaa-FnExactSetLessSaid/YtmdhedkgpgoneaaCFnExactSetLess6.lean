/- The law FnExactSetLess (part 6 of 7): for every input the call answers true and its arguments read afterwards as before. No condition beyond the row's own. -/
import Derived.Deep.Slices
import Derived.Deep.Fields
import Derived.ChangeSame
import Derived.ProofKit
import Derived.WideShapes
import Derived.RowKit
import Derived.Test.YtmdhedkgpgoneaaCFnExactSetLess5
namespace Go.Proofs.Ytmdhedkgpgoneaa.Q
open Go.RowKit Go.Proofs.YtmdhedkgpgoneaaW.PrintWords Go.Proofs.YtmdhedkgpgoneaaW.PrintLast Go.Proofs.YtmdhedkgpgoneaaW.PrintMore
attribute [local go_sem] max2_int min2_int max_two min_two max_three min_three max_four min_four
set_option linter.unusedVariables false
set_option linter.unusedSimpArgs false
mutual
def impl_SetLess.j0 : Nat → List (S44) → List (S44) → Bool → Option ((List (S44)) × Bool)
 | 0, _, _, _ => none
 | k + 1, x0, x1, x18 => if x18 = true then (some (([] : List (S44)), false)) else ((impl_spans.f k x0).bind fun t103 => ((impl_union.f k t103).bind fun t106 => (impl_SetLess.l0 k x1 ([] : List (S55)) t106 (t106.length : Int) 0)))
def impl_SetLess.l0 : Nat → List (S44) → List (S55) → List (S55) → Int → Int → Option ((List (S44)) × Bool)
 | 0, _, _, _, _, _ => none
 | k + 1, x1, x6, x21, x22, x23 => if x23 < x22 then (if 0 ≤ x23 then (if x23 < (x21.length : Int) then ((impl_spans.f k x1).bind fun t118 => ((impl_union.f k t118).bind fun t121 => (impl_SetLess.l1 k x1 x6 x21 x22 x23 t121 (t121.length : Int) 0 ((rd_T55 x21 x23).f0) ((rd_T55 x21 x23).f1)))) else (none)) else (none)) else ((impl_set.f k x6).bind fun t109 => ((impl_limited.f t109).bind fun bt112 => (some (bt112.1, bt112.2))))
def impl_SetLess.l1 : Nat → List (S44) → List (S55) → List (S55) → Int → Int → List (S55) → Int → Int → Int → Int → Option ((List (S44)) × Bool)
 | 0, _, _, _, _, _, _, _, _, _, _ => none
 | k + 1, x1, x6, x21, x22, x23, x29, x30, x31, x118000, x118001 => if x31 < x30 then (if 0 ≤ x31 then (if x31 < (x29.length : Int) then (if ((rd_T55 x29 x31).f1) < x118000 then (impl_SetLess.j3 k x1 x6 x21 x22 x23 x29 x30 x31 true x118000 x118001 ((rd_T55 x29 x31).f0) ((rd_T55 x29 x31).f1)) else (impl_SetLess.j3 k x1 x6 x21 x22 x23 x29 x30 x31 (decide (((rd_T55 x29 x31).f0) > x118001)) x118000 x118001 ((rd_T55 x29 x31).f0) ((rd_T55 x29 x31).f1))) else (none)) else (none)) else (if x118000 ≤ x118001 then (if x6.length < 8796093022208 then (impl_SetLess.l0 k x1 (x6 ++ [(⟨x118000, x118001⟩ : S55)]) x21 x22 (wrap64 (x23 + 1))) else (none)) else (impl_SetLess.l0 k x1 x6 x21 x22 (wrap64 (x23 + 1))))
def impl_SetLess.j3 : Nat → List (S44) → List (S55) → List (S55) → Int → Int → List (S55) → Int → Int → Bool → Int → Int → Int → Int → Option ((List (S44)) × Bool)
 | 0, _, _, _, _, _, _, _, _, _, _, _, _, _ => none
 | k + 1, x1, x6, x21, x22, x23, x29, x30, x31, x46, x118000, x118001, x129000, x129001 => if x46 = true then (impl_SetLess.l1 k x1 x6 x21 x22 x23 x29 x30 (wrap64 (x31 + 1)) x118000 x118001) else (if x118000 < x129000 then (if x6.length < 8796093022208 then (impl_SetLess.l1 k x1 (x6 ++ [(⟨x118000, wrap64 (x129000 - 1)⟩ : S55)]) x21 x22 x23 x29 x30 (wrap64 (x31 + 1)) (wrap64 (x129001 + 1)) x118001) else (none)) else (impl_SetLess.l1 k x1 x6 x21 x22 x23 x29 x30 (wrap64 (x31 + 1)) (wrap64 (x129001 + 1)) x118001))
end
def impl_SetLess.f (k : Nat) (l0 : List (S44)) (l1 : List (S44)) : Option ((List (S44)) × Bool) := (impl_SetOk.f k l0).bind fun t101 => (if t101 = true then ((impl_SetOk.f k l1).bind fun t102 => (impl_SetLess.j0 k l0 l1 (!t102))) else (impl_SetLess.j0 k l0 l1 true))
set_option maxHeartbeats 8000000 in
set_option maxRecDepth 100000 in
theorem impl_SetLess.calls (k : Nat) (A0 : Option Addr) (c0 : Nat) (l0 : List (S44)) (A1 : Option Addr) (c1 : Nat) (l1 : List (S44)) (r1 : List (S44)) (r2 : Bool) (w : World) (hr0 : Kd.C k44 w A0 l0.length l0) (hc0 : l0.length ≤ c0) (hr1 : Kd.C k44 w A1 l1.length l1) (hc1 : l1.length ≤ c1) (h : impl_SetLess.f k l0 l1 = some (r1, r2)) :
  Calls Try.prog 27 #[.slice A0 l0.length c0, .slice A1 l1.length c1] w fun e w' => ∃ v0_ : Value, e = .returned (.tuple #[v0_, .bool r2]) ∧ Kd.R k44 44 w' w.heap.size (fun _ => True) v0_ r1 ∧ Below w.heap.size w w' := by
 have hu55 := Try.underlying55
 have HR0 := Aside0.mk hr0
 have HC0 := Aside0.mk hc0
 clear hr0 hc0
 have HR1 := Aside0.mk hr1
 have HC1 := Aside0.mk hc1
 clear hr1 hc1
 have HB := Aside0.mk (Below.refl w.heap.size w)
 have H : ((impl_SetOk.f k l0).bind fun t101 => (if t101 = true then ((impl_SetOk.f k l1).bind fun t102 => (impl_SetLess.j0 k l0 l1 (!t102))) else (impl_SetLess.j0 k l0 l1 true))) = some (r1, r2) := h
 clear h
 have HC3 := Aside0.mk H
 clear H
 go_enter Try.func27, Try.ntmps27
 go_upto_region 1 with (fail)
 go_cut [18] (fun v18 wc => ∃ (kq : Nat) (x18_2 : Bool), v18 = .bool x18_2 ∧ Aside0 (impl_SetLess.j0 kq l0 l1 x18_2 = some (r1, r2)) ∧ Aside0 (kq ≤ k) ∧ Aside0 (Below w.heap.size w wc))
 case first =>
  have H := HC3.out
  clear HC3
  replace H := Option.bind_eq_some_iff.mp H
  obtain ⟨t101, A40, H⟩ := H
  replace H : (if t101 = true then ((impl_SetOk.f k l1).bind fun t102 => (impl_SetLess.j0 k l0 l1 (!t102))) else (impl_SetLess.j0 k l0 l1 true)) = some (r1, r2) := H
  have A4 := Aside0.mk A40
  clear A40
  by_cases c5 : t101 = true
  ·subst c5
   have H1 : ((impl_SetOk.f k l1).bind fun t102 => (impl_SetLess.j0 k l0 l1 (!t102))) = some (r1, r2) := by rw [if_pos rfl] at H; exact H
   clear H
   have H := H1
   clear H1
   replace H := Option.bind_eq_some_iff.mp H
   obtain ⟨t102, A60, H⟩ := H
   replace H : (impl_SetLess.j0 k l0 l1 (!t102)) = some (r1, r2) := H
   have A6 := Aside0.mk A60
   clear A60
   have H' := Aside0.mk H
   clear H
   go_wp2_with (first | ((with_reducible refine gate_callee (f := 16) rfl ?_); refine goesL_ (some 12) rfl rfl Try.func16 (by kernel_rfl) rfl #[.slice A0 l0.length c0] rfl (by (try simp only [List.map_toArray, List.map_cons, List.map_nil]); first | done | rfl | (simp only [List.length_drop, List.length_take]; rfl)) ?_; (with_reducible refine (impl_SetOk.calls k _ _ l0 true _ ?side1 ?side2 A4.out).mono ?_); (case side1 => repeat (first | exact (Kd.C_below HR0.out HB.out) | (with_reducible refine Kd.C_alloc ?_ _) | (with_reducible refine Kd.C_drewN ?_ _) | (with_reducible refine Kd.C_drew ?_))); (case side2 => exact HC0.out); rintro e w7 ⟨rfl, hb⟩; refine ⟨_, rfl, ?_⟩; have n0_ := Aside0.mk (below_step (by repeat (first | (with_reducible first | exact HB.out | apply below_alloc | apply pw_below_drewN | apply below_drew1) | exact HB.out)) hb); clear HB; have HB := n0_; clear n0_; (try clear hb); (try clear hb2); (try clear hk); (try clear hi)) | (go_at_call 16; (with_reducible refine (impl_SetOk.calls k _ _ l1 t102 _ ?side1 ?side2 A6.out).mono ?_); (case side1 => repeat (first | exact (Kd.C_below HR1.out HB.out) | (with_reducible refine Kd.C_alloc ?_ _) | (with_reducible refine Kd.C_drewN ?_ _) | (with_reducible refine Kd.C_drew ?_))); (case side2 => exact HC1.out); rintro e w8 ⟨rfl, hb⟩; have n0_ := Aside0.mk (below_step (by repeat (first | (with_reducible first | exact HB.out | apply below_alloc | apply pw_below_drewN | apply below_drew1) | exact HB.out)) hb); clear HB; have HB := n0_; clear n0_; (try clear hb); (try clear hb2); (try clear hk); (try clear hi)))
   go_meet
   case rel => exact ⟨_, (!t102), (by first | rfl | (simp; done) | (simp [*]; done)), H', ⟨by first | omega | exact Nat.le_refl _⟩, ⟨by repeat (first | (with_reducible first | exact HB.out | apply below_alloc | apply pw_below_drewN | apply below_drew1) | exact HB.out)⟩⟩
  ·replace c5 := Bool.eq_false_iff.mpr c5
   subst c5
   have H1 : (impl_SetLess.j0 k l0 l1 true) = some (r1, r2) := by rw [if_neg (show ¬ (false = true) by decide)] at H; exact H
   clear H
   have H := H1
   clear H1
   have H' := Aside0.mk H
   clear H
   go_wp2_with (first | ((with_reducible refine gate_callee (f := 16) rfl ?_); refine goesL_ (some 12) rfl rfl Try.func16 (by kernel_rfl) rfl #[.slice A0 l0.length c0] rfl (by (try simp only [List.map_toArray, List.map_cons, List.map_nil]); first | done | rfl | (simp only [List.length_drop, List.length_take]; rfl)) ?_; (with_reducible refine (impl_SetOk.calls k _ _ l0 false _ ?side1 ?side2 A4.out).mono ?_); (case side1 => repeat (first | exact (Kd.C_below HR0.out HB.out) | (with_reducible refine Kd.C_alloc ?_ _) | (with_reducible refine Kd.C_drewN ?_ _) | (with_reducible refine Kd.C_drew ?_))); (case side2 => exact HC0.out); rintro e w9 ⟨rfl, hb⟩; refine ⟨_, rfl, ?_⟩; have n0_ := Aside0.mk (below_step (by repeat (first | (with_reducible first | exact HB.out | apply below_alloc | apply pw_below_drewN | apply below_drew1) | exact HB.out)) hb); clear HB; have HB := n0_; clear n0_; (try clear hb); (try clear hb2); (try clear hk); (try clear hi)))
   go_meet
   case rel => exact ⟨_, (true), (by first | rfl | (simp; done) | (simp [*]; done)), H', ⟨by first | omega | exact Nat.le_refl _⟩, ⟨by repeat (first | (with_reducible first | exact HB.out | apply below_alloc | apply pw_below_drewN | apply below_drew1) | exact HB.out)⟩⟩
 case rest =>
  clear HC3
  try clear c1
  try clear c2
  try clear p2
  try clear c5
  obtain ⟨kq, x18_2, rfl, HA, HJ2, HB⟩ := hcut
  cases kq with
  | zero => exact absurd HA.out (by simp [impl_SetLess.j0])
  | succ kj2 =>
   have H := HA.out
   clear HA
   simp only [impl_SetLess.j0] at H
   by_cases c10 : x18_2 = true
   ·subst c10
    have H1 : (some (([] : List (S44)), false)) = some (r1, r2) := by rw [if_pos rfl] at H; exact H
    clear H
    have H := H1
    clear H1
    simp only [Option.some.injEq, Prod.mk.injEq] at H
    obtain ⟨rfl, rfl⟩ := H
    go_wp2
    go_ret2
    exact ⟨_, by first | rfl | (simp [errW_none, errW_some] <;> rfl) | (simp [*, errW_none, errW_some] <;> rfl), by first | exact Kd.R_nil _ _ _ _ _ | exact Kd.N_nil _ _ _ _ _ | exact Kd.V_nil _ _ _ _ _ | exact Kd.Q_nil _ _ _ _ _ | exact Kd.S_nil _ _ _ _ _, by repeat (first | (with_reducible first | exact HB.out | apply below_alloc | apply pw_below_drewN | apply below_drew1) | exact HB.out)⟩
   ·replace c10 := Bool.eq_false_iff.mpr c10
    subst c10
    have H1 : ((impl_spans.f kj2 l0).bind fun t103 => ((impl_union.f kj2 t103).bind fun t106 => (impl_SetLess.l0 kj2 l1 ([] : List (S55)) t106 (t106.length : Int) 0))) = some (r1, r2) := by rw [if_neg (show ¬ (false = true) by decide)] at H; exact H
    clear H
    have H := H1
    clear H1
    replace H := Option.bind_eq_some_iff.mp H
    obtain ⟨t103, A110, H⟩ := H
    replace H : ((impl_union.f kj2 t103).bind fun t106 => (impl_SetLess.l0 kj2 l1 ([] : List (S55)) t106 (t106.length : Int) 0)) = some (r1, r2) := H
    have A11 := Aside0.mk A110
    clear A110
    replace H := Option.bind_eq_some_iff.mp H
    obtain ⟨t106, A120, H⟩ := H
    replace H : (impl_SetLess.l0 kj2 l1 ([] : List (S55)) t106 (t106.length : Int) 0) = some (r1, r2) := H
    have A12 := Aside0.mk A120
    clear A120
    have H' := Aside0.mk H
    clear H
    go_wp2_with (first | ((with_reducible refine gate_callee (f := 40) rfl ?_); refine goesL_ (some 20) rfl rfl Try.func40 (by kernel_rfl) rfl #[.slice A0 l0.length c0] rfl (by (try simp only [List.map_toArray, List.map_cons, List.map_nil]); first | done | rfl | (simp only [List.length_drop, List.length_take]; rfl)) ?_; (with_reducible refine (impl_spans.calls kj2 _ _ l0 t103 _ ?side1 ?side2 A11.out).mono ?_); (case side1 => repeat (first | exact (Kd.C_below HR0.out HB.out) | (with_reducible refine Kd.C_alloc ?_ _) | (with_reducible refine Kd.C_drewN ?_ _) | (with_reducible refine Kd.C_drew ?_))); (case side2 => exact HC0.out); rintro e w13 ⟨v104, rfl, ho0, hb⟩; refine ⟨_, rfl, ?_⟩; have n0_ := Aside0.mk (Kd.R_lower ho0 (below_size (by repeat (first | (with_reducible first | exact HB.out | apply below_alloc | apply pw_below_drewN | apply below_drew1) | exact HB.out)))); have n1_ := Aside0.mk (below_step (by repeat (first | (with_reducible first | exact HB.out | apply below_alloc | apply pw_below_drewN | apply below_drew1) | exact HB.out)) hb); clear HB; have HO105 := n0_; have HB := n1_; clear n0_ n1_; (try clear hb); (try clear hb2); (try clear hk); (try clear hi); (try clear ho0); obtain ⟨Ao14, co14, eo14⟩ := Kd.R_slice HO105.out; subst eo14) | ((with_reducible refine gate_callee (f := 48) rfl ?_); refine goesL_ (some 21) rfl rfl Try.func48 (by kernel_rfl) rfl #[.slice Ao14 t103.length co14] rfl (by (try simp only [List.map_toArray, List.map_cons, List.map_nil]); first | done | rfl | (simp only [List.length_drop, List.length_take]; rfl)) ?_; (with_reducible refine (impl_union.calls kj2 _ _ t103 t106 _ ?side1 ?side2 A12.out).mono ?_); (case side1 => repeat (first | exact (Kd.R_reads' HO105.out).2.2 | (with_reducible refine Kd.C_alloc ?_ _) | (with_reducible refine Kd.C_drewN ?_ _) | (with_reducible refine Kd.C_drew ?_))); (case side2 => exact (Kd.R_reads' HO105.out).2.1); rintro e w15 ⟨v107, rfl, ho0, hb⟩; refine ⟨_, rfl, ?_⟩; have n0_ := Aside0.mk (Kd.R_elder' (by (with_reducible repeat (first | apply Kd.R_alloc | apply Kd.R_drewN | apply Kd.R_drew)); exact HO105.out) (Kd.R_base ho0) hb); have n1_ := Aside0.mk (Kd.R_lower (Kd.R_new' ho0 (Kd.R_lt (by (with_reducible repeat (first | apply Kd.R_alloc | apply Kd.R_drewN | apply Kd.R_drew)); exact HO105.out))) (below_size (by repeat (first | (with_reducible first | exact HB.out | apply below_alloc | apply pw_below_drewN | apply below_drew1) | exact HB.out)))); have n2_ := Aside0.mk (below_step (by repeat (first | (with_reducible first | exact HB.out | apply below_alloc | apply pw_below_drewN | apply below_drew1) | exact HB.out)) hb); clear HO105; clear HB; have HO105 := n0_; have HO108 := n1_; have HB := n2_; clear n0_ n1_ n2_; (try clear hb); (try clear hb2); (try clear hk); (try clear hi); (try clear ho0); obtain ⟨Ao16, co16, eo16⟩ := Kd.R_slice HO108.out; subst eo16))
    go_loopg [6, 23] kj2 (fun kq v6 v23 w' => ∃ (x6_2 : List (S55)) (x23_2 : Int), v23 = .int .i64 x23_2 ∧ Aside0 (impl_SetLess.l0 kq l1 x6_2 t106 (t106.length : Int) x23_2 = some (r1, r2)) ∧ Aside0 (kq ≤ kj2) ∧ Aside0 (Kd.R k55 55 w' w.heap.size (fun k_ => some k_ ≠ ((.slice Ao16 t106.length co16) : Value).ownBlock) v6 x6_2) ∧ Aside0 (Kd.R k55 55 w' w.heap.size (fun k_ => some k_ ≠ (v6 : Value).ownBlock) (.slice Ao16 t106.length co16) t106) ∧ Aside0 (Below w.heap.size w w'))
    case atStart => exact ⟨(([] : List (S55))), (0), (by first | rfl | (simp; done) | (simp [*]; done)), H', ⟨Nat.le_refl _⟩, ⟨by first | exact Kd.R_nil _ _ _ _ _ | exact Kd.N_nil _ _ _ _ _ | exact Kd.V_nil _ _ _ _ _ | exact Kd.Q_nil _ _ _ _ _ | exact Kd.S_nil _ _ _ _ _⟩, ⟨by (with_reducible repeat (first | apply Kd.R_alloc | apply Kd.R_drewN | apply Kd.R_drew)); exact Kd.R_mono HO108.out (fun _ hk => (by simp [Value.ownBlock]))⟩, ⟨by repeat (first | (with_reducible first | exact HB.out | apply below_alloc | apply pw_below_drewN | apply below_drew1) | exact HB.out)⟩⟩
    case round =>
     clear H'
     try clear c1
     try clear c2
     try clear p2
     try clear c4
     try clear c5
     try clear c10
     try clear c16
     try clear p2
     obtain ⟨x6_2, x23_2, rfl, HA, HK2, HO_6, HO_21, HB⟩ := hrel
     cases gk with
     | zero => exact absurd HA.out (by simp [impl_SetLess.l0])
     | succ k2 =>
      have H := HA.out
      clear HA
      simp only [impl_SetLess.l0] at H
      by_cases c17 : x23_2 < (t106.length : Int)
      ·rw [if_pos c17] at H
       have c17b0 : decide (x23_2 < (t106.length : Int)) = true := decide_eq_true c17
       clear c17
       by_cases c18 : 0 ≤ x23_2
       ·rw [if_pos c18] at H
        have c18b0 : decide (0 ≤ x23_2) = true := decide_eq_true c18
        clear c18
        by_cases c19 : x23_2 < (t106.length : Int)
        ·rw [if_pos c19] at H
         have c19b0 : decide (x23_2 < (t106.length : Int)) = true := decide_eq_true c19
         clear c19
         replace H := Option.bind_eq_some_iff.mp H
         obtain ⟨t118, A200, H⟩ := H
         replace H : ((impl_union.f k2 t118).bind fun t121 => (impl_SetLess.l1 k2 l1 x6_2 t106 (t106.length : Int) x23_2 t121 (t121.length : Int) 0 ((rd_T55 t106 x23_2).f0) ((rd_T55 t106 x23_2).f1))) = some (r1, r2) := H
         have A20 := Aside0.mk A200
         clear A200
         replace H := Option.bind_eq_some_iff.mp H
         obtain ⟨t121, A210, H⟩ := H
         replace H : (impl_SetLess.l1 k2 l1 x6_2 t106 (t106.length : Int) x23_2 t121 (t121.length : Int) 0 ((rd_T55 t106 x23_2).f0) ((rd_T55 t106 x23_2).f1)) = some (r1, r2) := H
         have A21 := Aside0.mk A210
         clear A210
         have H' := Aside0.mk H
         clear H
         have p116 : 0 ≤ (x23_2 : Int) := of_decide_eq_true (by first | (with_reducible assumption) | assumption)
         have q116 : x23_2 < (t106.length : Int) := of_decide_eq_true (by first | (with_reducible assumption) | assumption)
         obtain ⟨ad116, e116, hx116_0, hx116_1⟩ := at_T55 (Kd.R_reads' HO_21.out).2.2 x23_2 p116 q116
         cases e116
         replace p116 := eq_true p116
         replace q116 := eq_true q116
         go_wp2_with (first | ((with_reducible refine gate_dst (N := 8) rfl ?_); refine box_event ?hg (N := 8) ?hd (cs := #[.int .i64 0, .int .i64 0]) (t := 55) ?hr ?_; (case hd => rfl); (case hg => rfl); (case hr => first | (go_simp; done) | (go_simp; rfl)); intro gb117 hg w22 hbox hb; have n0_ := Aside0.mk (Kd.R_below (Kd.R_elderB (by (with_reducible repeat (first | apply Kd.R_alloc | apply Kd.R_drewN | apply Kd.R_drew)); exact HO_6.out) gb117 (Nat.le_of_eq hg.symm)) hb); have n1_ := Aside0.mk (Kd.R_below (Kd.R_elderB (by (with_reducible repeat (first | apply Kd.R_alloc | apply Kd.R_drewN | apply Kd.R_drew)); exact HO_21.out) gb117 (Nat.le_of_eq hg.symm)) hb); have n2_ := Aside0.mk (below_step (by repeat (first | (with_reducible first | exact HB.out | apply below_alloc | apply pw_below_drewN | apply below_drew1) | exact HB.out)) hb); have n3_ := Aside0.mk (hbox); have n4_ := Aside0.mk ((by rw [hg]; exact (below_size (by repeat (first | (with_reducible first | exact HB.out | apply below_alloc | apply pw_below_drewN | apply below_drew1) | exact HB.out))) : w.heap.size ≤ gb117)); have n5_ := Aside0.mk ((by rw [hg]; exact (below_size (by repeat (first | (with_reducible first | exact HB.out | apply below_alloc | apply pw_below_drewN | apply below_drew1) | exact HB.out))) : w.heap.size ≤ gb117)); clear HO_6; clear HO_21; clear HB; have HO_6 := n0_; have HO_21 := n1_; have HB := n2_; have BK117 := n3_; have GW117 := n4_; have GE117 := n5_; clear n0_ n1_ n2_ n3_ n4_ n5_; clear hb hbox hg; have hcz23_0 : w22.cell? ⟨gb117, 0, none⟩ = some (.int .i64 0) := (blk_cell BK117.out 0).trans rfl; have hcz23_1 : w22.cell? ⟨gb117, 1, none⟩ = some (.int .i64 0) := (blk_cell BK117.out 1).trans rfl; have hfz23_0 := blk_frozen BK117.out 0; have hfz23_1 := blk_frozen BK117.out 1) | ((with_reducible refine gate_callee (f := 40) rfl ?_); refine goesL_ (some 28) rfl rfl Try.func40 (by kernel_rfl) rfl #[.slice A1 l1.length c1] rfl (by (try simp only [List.map_toArray, List.map_cons, List.map_nil]); first | done | rfl | (simp only [List.length_drop, List.length_take]; rfl)) ?_; (with_reducible refine (impl_spans.calls k2 _ _ l1 t118 _ ?side1 ?side2 A20.out).mono ?_); (case side1 => exact Kd.C_below HR1.out (by repeat (first | (with_reducible first | exact HB.out | apply below_alloc | apply pw_below_drewN | apply below_drew1 | refine below_set ?_ GE117.out) | exact HB.out))); (case side2 => exact HC1.out); rintro e w24 ⟨v119, rfl, ho0, hb⟩; refine ⟨_, rfl, ?_⟩; have n0_ := Aside0.mk (Kd.R_elder' (by (with_reducible repeat (first | apply Kd.R_alloc | apply Kd.R_drewN | apply Kd.R_drew)); exact (Kd.R_mono (Kd.R_far (p := ⟨gb117, 1, none⟩) (Kd.R_far (p := ⟨gb117, 0, none⟩) (Kd.R_mono HO_6.out (fun k_ hk => (⟨hk, hk.2⟩ : _ ∧ k_ ≠ gb117))) (fun _ hk => hk.2) (.int .i64 ((rd_T55 t106 x23_2).f0))) (fun _ hk => hk.2) (.int .i64 ((rd_T55 t106 x23_2).f1))) (fun _ h_ => h_.1))) (Kd.R_base ho0) hb); have n1_ := Aside0.mk (Kd.R_elder' (by (with_reducible repeat (first | apply Kd.R_alloc | apply Kd.R_drewN | apply Kd.R_drew)); exact (Kd.R_mono (Kd.R_far (p := ⟨gb117, 1, none⟩) (Kd.R_far (p := ⟨gb117, 0, none⟩) (Kd.R_mono HO_21.out (fun k_ hk => (⟨hk, hk.2⟩ : _ ∧ k_ ≠ gb117))) (fun _ hk => hk.2) (.int .i64 ((rd_T55 t106 x23_2).f0))) (fun _ hk => hk.2) (.int .i64 ((rd_T55 t106 x23_2).f1))) (fun _ h_ => h_.1))) (Kd.R_base ho0) hb); have n2_ := Aside0.mk (Kd.R_lower (Kd.R_newB (Kd.R_new' (Kd.R_new' ho0 (Kd.R_lt (by (with_reducible repeat (first | apply Kd.R_alloc | apply Kd.R_drewN | apply Kd.R_drew)); exact (Kd.R_mono (Kd.R_far (p := ⟨gb117, 1, none⟩) (Kd.R_far (p := ⟨gb117, 0, none⟩) (Kd.R_mono HO_6.out (fun k_ hk => (⟨hk, hk.2⟩ : _ ∧ k_ ≠ gb117))) (fun _ hk => hk.2) (.int .i64 ((rd_T55 t106 x23_2).f0))) (fun _ hk => hk.2) (.int .i64 ((rd_T55 t106 x23_2).f1))) (fun _ h_ => h_.1))))) (Kd.R_lt (by (with_reducible repeat (first | apply Kd.R_alloc | apply Kd.R_drewN | apply Kd.R_drew)); exact (Kd.R_mono (Kd.R_far (p := ⟨gb117, 1, none⟩) (Kd.R_far (p := ⟨gb117, 0, none⟩) (Kd.R_mono HO_21.out (fun k_ hk => (⟨hk, hk.2⟩ : _ ∧ k_ ≠ gb117))) (fun _ hk => hk.2) (.int .i64 ((rd_T55 t106 x23_2).f0))) (fun _ hk => hk.2) (.int .i64 ((rd_T55 t106 x23_2).f1))) (fun _ h_ => h_.1))))) (g := gb117) (o := .cells #[.int .i64 ((rd_T55 t106 x23_2).f0), .int .i64 ((rd_T55 t106 x23_2).f1)] 55 (0, 0)) (by (with_reducible repeat (first | refine blk_drewN ?_ _ | refine blk_drew ?_ | refine blk_alloc ?_ _)); refine blk_put (cs := #[.int .i64 ((rd_T55 t106 x23_2).f0), .int .i64 0]) ?_ 1 _ rfl; (with_reducible repeat (first | refine blk_drewN ?_ _ | refine blk_drew ?_ | refine blk_alloc ?_ _)); refine blk_put (cs := #[.int .i64 0, .int .i64 0]) ?_ 0 _ rfl; (with_reducible repeat (first | refine blk_drewN ?_ _ | refine blk_drew ?_ | refine blk_alloc ?_ _)); exact BK117.out)) (below_size (by repeat (first | (with_reducible first | exact HB.out | apply below_alloc | apply pw_below_drewN | apply below_drew1 | refine below_set ?_ GE117.out) | exact HB.out)))); have n3_ := Aside0.mk (blk_below (g := gb117) (o := .cells #[.int .i64 ((rd_T55 t106 x23_2).f0), .int .i64 ((rd_T55 t106 x23_2).f1)] 55 (0, 0)) (by (with_reducible repeat (first | refine blk_drewN ?_ _ | refine blk_drew ?_ | refine blk_alloc ?_ _)); refine blk_put (cs := #[.int .i64 ((rd_T55 t106 x23_2).f0), .int .i64 0]) ?_ 1 _ rfl; (with_reducible repeat (first | refine blk_drewN ?_ _ | refine blk_drew ?_ | refine blk_alloc ?_ _)); refine blk_put (cs := #[.int .i64 0, .int .i64 0]) ?_ 0 _ rfl; (with_reducible repeat (first | refine blk_drewN ?_ _ | refine blk_drew ?_ | refine blk_alloc ?_ _)); exact BK117.out) hb); have n4_ := Aside0.mk (below_step (by repeat (first | (with_reducible first | exact HB.out | apply below_alloc | apply pw_below_drewN | apply below_drew1 | refine below_set ?_ GE117.out) | exact HB.out)) hb); clear HO_6; clear HO_21; clear BK117; clear HB; have HO_6 := n0_; have HO_21 := n1_; have HO120 := n2_; have BK117 := n3_; have HB := n4_; clear n0_ n1_ n2_ n3_ n4_; (try clear hb); (try clear hb2); (try clear hk); (try clear hi); (try clear ho0); obtain ⟨Ao25, co25, eo25⟩ := Kd.R_slice HO120.out; subst eo25) | ((with_reducible refine gate_callee (f := 48) rfl ?_); refine goesL_ (some 29) rfl rfl Try.func48 (by kernel_rfl) rfl #[.slice Ao25 t118.length co25] rfl (by (try simp only [List.map_toArray, List.map_cons, List.map_nil]); first | done | rfl | (simp only [List.length_drop, List.length_take]; rfl)) ?_; (with_reducible refine (impl_union.calls k2 _ _ t118 t121 _ ?side1 ?side2 A21.out).mono ?_); (case side1 => repeat (first | exact (Kd.R_reads' HO120.out).2.2 | (with_reducible refine Kd.C_alloc ?_ _) | (with_reducible refine Kd.C_drewN ?_ _) | (with_reducible refine Kd.C_drew ?_))); (case side2 => exact (Kd.R_reads' HO120.out).2.1); rintro e w26 ⟨v122, rfl, ho0, hb⟩; refine ⟨_, rfl, ?_⟩; have n0_ := Aside0.mk (Kd.R_elder' (by (with_reducible repeat (first | apply Kd.R_alloc | apply Kd.R_drewN | apply Kd.R_drew)); exact HO_6.out) (Kd.R_base ho0) hb); have n1_ := Aside0.mk (Kd.R_elder' (by (with_reducible repeat (first | apply Kd.R_alloc | apply Kd.R_drewN | apply Kd.R_drew)); exact HO_21.out) (Kd.R_base ho0) hb); have n2_ := Aside0.mk (Kd.R_elder' (by (with_reducible repeat (first | apply Kd.R_alloc | apply Kd.R_drewN | apply Kd.R_drew)); exact HO120.out) (Kd.R_base ho0) hb); have n3_ := Aside0.mk (Kd.R_lower (Kd.R_newB (Kd.R_new' (Kd.R_new' (Kd.R_new' ho0 (Kd.R_lt (by (with_reducible repeat (first | apply Kd.R_alloc | apply Kd.R_drewN | apply Kd.R_drew)); exact HO_6.out))) (Kd.R_lt (by (with_reducible repeat (first | apply Kd.R_alloc | apply Kd.R_drewN | apply Kd.R_drew)); exact HO_21.out))) (Kd.R_lt (by (with_reducible repeat (first | apply Kd.R_alloc | apply Kd.R_drewN | apply Kd.R_drew)); exact HO120.out))) (g := gb117) (o := .cells #[.int .i64 ((rd_T55 t106 x23_2).f0), .int .i64 ((rd_T55 t106 x23_2).f1)] 55 (0, 0)) (by (with_reducible repeat (first | refine blk_drewN ?_ _ | refine blk_drew ?_ | refine blk_alloc ?_ _)); exact BK117.out)) (below_size (by repeat (first | (with_reducible first | exact HB.out | apply below_alloc | apply pw_below_drewN | apply below_drew1 | refine below_set ?_ GE117.out) | exact HB.out)))); have n4_ := Aside0.mk (blk_below (g := gb117) (o := .cells #[.int .i64 ((rd_T55 t106 x23_2).f0), .int .i64 ((rd_T55 t106 x23_2).f1)] 55 (0, 0)) (by (with_reducible repeat (first | refine blk_drewN ?_ _ | refine blk_drew ?_ | refine blk_alloc ?_ _)); exact BK117.out) hb); have n5_ := Aside0.mk (below_step (by repeat (first | (with_reducible first | exact HB.out | apply below_alloc | apply pw_below_drewN | apply below_drew1 | refine below_set ?_ GE117.out) | exact HB.out)) hb); clear HO_6; clear HO_21; clear HO120; clear BK117; clear HB; have HO_6 := n0_; have HO_21 := n1_; have HO120 := n2_; have HO123 := n3_; have BK117 := n4_; have HB := n5_; clear n0_ n1_ n2_ n3_ n4_ n5_; (try clear hb); (try clear hb2); (try clear hk); (try clear hi); (try clear ho0); obtain ⟨Ao27, co27, eo27⟩ := Kd.R_slice HO123.out; subst eo27))
         go_loopg [6, 31] k2 (fun kq v6 v31 w' => ∃ (x6_3 : List (S55)) (x31_3 : Int) (x118000_3 : Int), v31 = .int .i64 x31_3 ∧ Aside0 (impl_SetLess.l1 kq l1 x6_3 t106 (t106.length : Int) x23_2 t121 (t121.length : Int) x31_3 x118000_3 ((rd_T55 t106 x23_2).f1) = some (r1, r2)) ∧ Aside0 (kq ≤ k2) ∧ Aside0 (Kd.R k55 55 w' w.heap.size (fun k_ => some k_ ≠ ((.slice (some ad116) t106.length co16) : Value).ownBlock ∧ some k_ ≠ ((.slice Ao27 t121.length co27) : Value).ownBlock ∧ k_ ≠ gb117) v6 x6_3) ∧ Aside0 (Kd.R k55 55 w' w.heap.size (fun k_ => some k_ ≠ (v6 : Value).ownBlock ∧ some k_ ≠ ((.slice Ao27 t121.length co27) : Value).ownBlock ∧ k_ ≠ gb117) (.slice (some ad116) t106.length co16) t106) ∧ Aside0 (Kd.R k55 55 w' w.heap.size (fun k_ => some k_ ≠ (v6 : Value).ownBlock ∧ some k_ ≠ ((.slice (some ad116) t106.length co16) : Value).ownBlock ∧ k_ ≠ gb117) (.slice Ao27 t121.length co27) t121) ∧ Aside0 (w'.heap[gb117]? = some (.cells #[.int .i64 x118000_3, .int .i64 ((rd_T55 t106 x23_2).f1)] 55 (0, 0))) ∧ Aside0 (Below w.heap.size w w'))
         case atStart => exact ⟨(x6_2), (0), ((rd_T55 t106 x23_2).f0), (by first | rfl | (simp; done) | (simp [*]; done)), H', ⟨Nat.le_refl _⟩, ⟨by (with_reducible repeat (first | apply Kd.R_alloc | apply Kd.R_drewN | apply Kd.R_drew)); exact Kd.R_mono HO_6.out (fun _ hk => ⟨hk.1.1.1, ⟨hk.2, hk.1.1.2⟩⟩)⟩, ⟨by (with_reducible repeat (first | apply Kd.R_alloc | apply Kd.R_drewN | apply Kd.R_drew)); exact Kd.R_mono HO_21.out (fun _ hk => ⟨hk.1.1.1, ⟨hk.2, hk.1.1.2⟩⟩)⟩, ⟨by (with_reducible repeat (first | apply Kd.R_alloc | apply Kd.R_drewN | apply Kd.R_drew)); exact Kd.R_mono HO123.out (fun _ hk => ⟨hk.1.1.1.2, ⟨hk.1.1.2, hk.2⟩⟩)⟩, ⟨by (with_reducible repeat (first | refine blk_drewN ?_ _ | refine blk_drew ?_ | refine blk_alloc ?_ _)); exact BK117.out⟩, ⟨by repeat (first | (with_reducible first | exact HB.out | apply below_alloc | apply pw_below_drewN | apply below_drew1 | refine below_set ?_ GE117.out) | exact HB.out)⟩⟩
         case round =>
          clear H'
          try clear c1
          try clear p1
          try clear q1
          try clear hx1
          try clear c2
          try clear p2
          try clear c4
          try clear c5
          try clear c10
          try clear p11
          try clear q11
          try clear hx11
          try clear c16
          try clear c17
          try clear c17b0
          try clear c18
          try clear c18b0
          try clear c19
          try clear c19b0
          try clear c27
          try clear hcz23_0
          try clear hcz23_1
          try clear hfz23_0
          try clear hfz23_1
          try clear hx116_0
          try clear hx116_1
          try clear p116
          try clear p2
          try clear q116
          obtain ⟨x6_3, x31_3, x118000_3, rfl, HA, HK3, HO_6, HO_21, HO_29, BK117, HB⟩ := hrel
          cases gk with
          | zero => exact absurd HA.out (by simp [impl_SetLess.l1])
          | succ k3 =>
           have H := HA.out
           clear HA
           simp only [impl_SetLess.l1] at H
           by_cases c28 : x31_3 < (t121.length : Int)
           ·rw [if_pos c28] at H
            have c28b0 : decide (x31_3 < (t121.length : Int)) = true := decide_eq_true c28
            clear c28
            by_cases c29 : 0 ≤ x31_3
            ·rw [if_pos c29] at H
             have c29b0 : decide (0 ≤ x31_3) = true := decide_eq_true c29
             clear c29
             by_cases c30 : x31_3 < (t121.length : Int)
             ·rw [if_pos c30] at H
              have c30b0 : decide (x31_3 < (t121.length : Int)) = true := decide_eq_true c30
              clear c30
              have HC31 := Aside0.mk H
              clear H
              have p127 : 0 ≤ (x31_3 : Int) := of_decide_eq_true (by first | (with_reducible assumption) | assumption)
              have q127 : x31_3 < (t121.length : Int) := of_decide_eq_true (by first | (with_reducible assumption) | assumption)
              obtain ⟨ad127, e127, hx127_0, hx127_1⟩ := at_T55 (Kd.R_reads' HO_29.out).2.2 x31_3 p127 q127
              cases e127
              replace p127 := eq_true p127
              replace q127 := eq_true q127
              go_upto_region 10 with (first | ((with_reducible refine gate_dst (N := 10) rfl ?_); refine box_event ?hg (N := 10) ?hd (cs := #[.int .i64 0, .int .i64 0]) (t := 55) ?hr ?_; (case hd => rfl); (case hg => rfl); (case hr => first | (go_simp; done) | (go_simp; rfl)); intro gb128 hg w32 hbox hb; have n0_ := Aside0.mk (Kd.R_below (Kd.R_elderB (by (with_reducible repeat (first | apply Kd.R_alloc | apply Kd.R_drewN | apply Kd.R_drew)); exact HO_6.out) gb128 (Nat.le_of_eq hg.symm)) hb); have n1_ := Aside0.mk (Kd.R_below (Kd.R_elderB (by (with_reducible repeat (first | apply Kd.R_alloc | apply Kd.R_drewN | apply Kd.R_drew)); exact HO_21.out) gb128 (Nat.le_of_eq hg.symm)) hb); have n2_ := Aside0.mk (Kd.R_below (Kd.R_elderB (by (with_reducible repeat (first | apply Kd.R_alloc | apply Kd.R_drewN | apply Kd.R_drew)); exact HO_29.out) gb128 (Nat.le_of_eq hg.symm)) hb); have n3_ := Aside0.mk (blk_below (g := gb117) (o := .cells #[.int .i64 x118000_3, .int .i64 ((rd_T55 t106 x23_2).f1)] 55 (0, 0)) (by (with_reducible repeat (first | refine blk_drewN ?_ _ | refine blk_drew ?_ | refine blk_alloc ?_ _)); exact BK117.out) hb); have n4_ := Aside0.mk (below_step (by repeat (first | (with_reducible first | exact HB.out | apply below_alloc | apply pw_below_drewN | apply below_drew1 | refine below_set ?_ GE117.out) | exact HB.out)) hb); have n5_ := Aside0.mk (hbox); have n6_ := Aside0.mk ((by rw [hg]; exact (below_size (by repeat (first | (with_reducible first | exact HB.out | apply below_alloc | apply pw_below_drewN | apply below_drew1 | refine below_set ?_ GE117.out) | exact HB.out))) : w.heap.size ≤ gb128)); have n7_ := Aside0.mk ((by rw [hg]; exact (below_size (by repeat (first | (with_reducible first | exact HB.out | apply below_alloc | apply pw_below_drewN | apply below_drew1 | refine below_set ?_ GE117.out) | exact HB.out))) : w.heap.size ≤ gb128)); have n8_ := Aside0.mk ((by rw [hg]; exact Nat.ne_of_lt (blk_lt (g := gb117) (o := .cells #[.int .i64 x118000_3, .int .i64 ((rd_T55 t106 x23_2).f1)] 55 (0, 0)) (by (with_reducible repeat (first | refine blk_drewN ?_ _ | refine blk_drew ?_ | refine blk_alloc ?_ _)); exact BK117.out)) : gb117 ≠ gb128)); have n9_ := Aside0.mk ((by rw [hg]; exact Nat.ne_of_gt (blk_lt (g := gb117) (o := .cells #[.int .i64 x118000_3, .int .i64 ((rd_T55 t106 x23_2).f1)] 55 (0, 0)) (by (with_reducible repeat (first | refine blk_drewN ?_ _ | refine blk_drew ?_ | refine blk_alloc ?_ _)); exact BK117.out)) : gb128 ≠ gb117)); clear HO_6; clear HO_21; clear HO_29; clear BK117; clear HB; have HO_6 := n0_; have HO_21 := n1_; have HO_29 := n2_; have BK117 := n3_; have HB := n4_; have BK128 := n5_; have GW128 := n6_; have GE128 := n7_; have NB117_128 := n8_; have NB128_117 := n9_; clear n0_ n1_ n2_ n3_ n4_ n5_ n6_ n7_ n8_ n9_; clear hb hbox hg; have hnb33 := NB128_117.out; have hnc33 := NB117_128.out; have hcz34_0 : w32.cell? ⟨gb128, 0, none⟩ = some (.int .i64 0) := (blk_cell BK128.out 0).trans rfl; have hcz34_1 : w32.cell? ⟨gb128, 1, none⟩ = some (.int .i64 0) := (blk_cell BK128.out 1).trans rfl; have hfz34_0 := blk_frozen BK128.out 0; have hfz34_1 := blk_frozen BK128.out 1))
              (try simp only [Act.put, List.setIfInBounds_toArray, List.set_cons_zero, List.set_cons_succ])
              go_cut [46] (fun v46 wc => ∃ (kq : Nat) (x46_30 : Bool), v46 = .bool x46_30 ∧ Aside0 (impl_SetLess.j3 kq l1 x6_3 t106 (t106.length : Int) x23_2 t121 (t121.length : Int) x31_3 x46_30 x118000_3 ((rd_T55 t106 x23_2).f1) ((rd_T55 t121 x31_3).f0) ((rd_T55 t121 x31_3).f1) = some (r1, r2)) ∧ Aside0 (kq ≤ k3) ∧ Aside0 (Kd.R k55 55 wc w.heap.size (fun k_ => some k_ ≠ ((.slice (some ad116) t106.length co16) : Value).ownBlock ∧ some k_ ≠ ((.slice (some ad127) t121.length co27) : Value).ownBlock ∧ k_ ≠ gb117 ∧ k_ ≠ gb128) u6 x6_3) ∧ Aside0 (Kd.R k55 55 wc w.heap.size (fun k_ => some k_ ≠ (u6 : Value).ownBlock ∧ some k_ ≠ ((.slice (some ad127) t121.length co27) : Value).ownBlock ∧ k_ ≠ gb117 ∧ k_ ≠ gb128) (.slice (some ad116) t106.length co16) t106) ∧ Aside0 (Kd.R k55 55 wc w.heap.size (fun k_ => some k_ ≠ (u6 : Value).ownBlock ∧ some k_ ≠ ((.slice (some ad116) t106.length co16) : Value).ownBlock ∧ k_ ≠ gb117 ∧ k_ ≠ gb128) (.slice (some ad127) t121.length co27) t121) ∧ Aside0 (wc.heap[gb117]? = some (.cells #[.int .i64 x118000_3, .int .i64 ((rd_T55 t106 x23_2).f1)] 55 (0, 0))) ∧ Aside0 (wc.heap[gb128]? = some (.cells #[.int .i64 ((rd_T55 t121 x31_3).f0), .int .i64 ((rd_T55 t121 x31_3).f1)] 55 (0, 0))) ∧ Aside0 (Below w.heap.size w wc))
              case first =>
               have H := HC31.out
               clear HC31
               by_cases c35 : ((rd_T55 t121 x31_3).f1) < x118000_3
               ·rw [if_pos c35] at H
                have c35b0 : decide (((rd_T55 t121 x31_3).f1) < x118000_3) = true := decide_eq_true c35
                clear c35
                (first | rw [c35b0] | (simp only [i64_w, i32_w]; rw [c35b0]) | skip)
                have H' := Aside0.mk H
                clear H
                have hnb36 := NB128_117.out
                have hnc36 := NB117_128.out
                have hcz37_0 : w32.cell? ⟨gb128, 0, none⟩ = some (.int .i64 0) := (blk_cell BK128.out 0).trans rfl
                have hcz37_1 : w32.cell? ⟨gb128, 1, none⟩ = some (.int .i64 0) := (blk_cell BK128.out 1).trans rfl
                have hfz37_0 := blk_frozen BK128.out 0
                have hfz37_1 := blk_frozen BK128.out 1
                have hcz38_0 : w32.cell? ⟨gb117, 0, none⟩ = some (.int .i64 x118000_3) := (blk_cell BK117.out 0).trans rfl
                have hcz38_1 : w32.cell? ⟨gb117, 1, none⟩ = some (.int .i64 ((rd_T55 t106 x23_2).f1)) := (blk_cell BK117.out 1).trans rfl
                have hfz38_0 := blk_frozen BK117.out 0
                have hfz38_1 := blk_frozen BK117.out 1
                go_wp2
                go_meet
                case rel => exact ⟨_, (true), (by first | rfl | (simp; done) | (simp [*]; done)), H', ⟨by have := HJ2.out; have := HK2.out; have := HK3.out; first | omega | exact Nat.le_refl _⟩, ⟨by (with_reducible repeat (first | apply Kd.R_alloc | apply Kd.R_drewN | apply Kd.R_drew)); exact Kd.R_mono (Kd.R_far (p := ⟨gb128, 1, none⟩) (Kd.R_far (p := ⟨gb128, 0, none⟩) (Kd.R_mono HO_6.out (fun k_ hk => (⟨hk, hk.2⟩ : _ ∧ k_ ≠ gb128))) (fun _ hk => hk.2) (.int .i64 ((rd_T55 t121 x31_3).f0))) (fun _ hk => hk.2) (.int .i64 ((rd_T55 t121 x31_3).f1))) (fun _ hk => ⟨hk.1.1.1, ⟨hk.1.1.2.1, ⟨hk.1.1.2.2, hk.1.2⟩⟩⟩)⟩, ⟨by (with_reducible repeat (first | apply Kd.R_alloc | apply Kd.R_drewN | apply Kd.R_drew)); exact Kd.R_mono (Kd.R_far (p := ⟨gb128, 1, none⟩) (Kd.R_far (p := ⟨gb128, 0, none⟩) (Kd.R_mono HO_21.out (fun k_ hk => (⟨hk, hk.2⟩ : _ ∧ k_ ≠ gb128))) (fun _ hk => hk.2) (.int .i64 ((rd_T55 t121 x31_3).f0))) (fun _ hk => hk.2) (.int .i64 ((rd_T55 t121 x31_3).f1))) (fun _ hk => ⟨hk.1.1.1, ⟨hk.1.1.2.1, ⟨hk.1.1.2.2, hk.1.2⟩⟩⟩)⟩, ⟨by (with_reducible repeat (first | apply Kd.R_alloc | apply Kd.R_drewN | apply Kd.R_drew)); exact Kd.R_mono (Kd.R_far (p := ⟨gb128, 1, none⟩) (Kd.R_far (p := ⟨gb128, 0, none⟩) (Kd.R_mono HO_29.out (fun k_ hk => (⟨hk, hk.2⟩ : _ ∧ k_ ≠ gb128))) (fun _ hk => hk.2) (.int .i64 ((rd_T55 t121 x31_3).f0))) (fun _ hk => hk.2) (.int .i64 ((rd_T55 t121 x31_3).f1))) (fun _ hk => ⟨hk.1.1.1, ⟨hk.1.1.2.1, ⟨hk.1.1.2.2, hk.1.2⟩⟩⟩)⟩, ⟨by (with_reducible repeat (first | refine blk_drewN ?_ _ | refine blk_drew ?_ | refine blk_alloc ?_ _)); refine blk_far ?_ NB117_128.out _; (with_reducible repeat (first | refine blk_drewN ?_ _ | refine blk_drew ?_ | refine blk_alloc ?_ _)); refine blk_far ?_ NB117_128.out _; (with_reducible repeat (first | refine blk_drewN ?_ _ | refine blk_drew ?_ | refine blk_alloc ?_ _)); exact BK117.out⟩, ⟨by (with_reducible repeat (first | refine blk_drewN ?_ _ | refine blk_drew ?_ | refine blk_alloc ?_ _)); refine blk_put (cs := #[.int .i64 ((rd_T55 t121 x31_3).f0), .int .i64 0]) ?_ 1 _ rfl; (with_reducible repeat (first | refine blk_drewN ?_ _ | refine blk_drew ?_ | refine blk_alloc ?_ _)); refine blk_put (cs := #[.int .i64 0, .int .i64 0]) ?_ 0 _ rfl; (with_reducible repeat (first | refine blk_drewN ?_ _ | refine blk_drew ?_ | refine blk_alloc ?_ _)); exact BK128.out⟩, ⟨by repeat (first | (with_reducible first | exact HB.out | apply below_alloc | apply pw_below_drewN | apply below_drew1 | refine below_set ?_ GE117.out | refine below_set ?_ GE128.out) | exact HB.out)⟩⟩
               ·rw [if_neg c35] at H
                have c35b0 : decide (((rd_T55 t121 x31_3).f1) < x118000_3) = false := decide_eq_false c35
                clear c35
                (first | rw [c35b0] | (simp only [i64_w, i32_w]; rw [c35b0]) | skip)
                have H' := Aside0.mk H
                clear H
                have hnb39 := NB128_117.out
                have hnc39 := NB117_128.out
                have hcz40_0 : w32.cell? ⟨gb128, 0, none⟩ = some (.int .i64 0) := (blk_cell BK128.out 0).trans rfl
                have hcz40_1 : w32.cell? ⟨gb128, 1, none⟩ = some (.int .i64 0) := (blk_cell BK128.out 1).trans rfl
                have hfz40_0 := blk_frozen BK128.out 0
                have hfz40_1 := blk_frozen BK128.out 1
                have hcz41_0 : w32.cell? ⟨gb117, 0, none⟩ = some (.int .i64 x118000_3) := (blk_cell BK117.out 0).trans rfl
                have hcz41_1 : w32.cell? ⟨gb117, 1, none⟩ = some (.int .i64 ((rd_T55 t106 x23_2).f1)) := (blk_cell BK117.out 1).trans rfl
                have hfz41_0 := blk_frozen BK117.out 0
                have hfz41_1 := blk_frozen BK117.out 1
                go_wp2
                go_meet
                case rel => exact ⟨_, (decide (((rd_T55 t121 x31_3).f0) > ((rd_T55 t106 x23_2).f1))), (by first | rfl | (simp; done) | (simp [*]; done)), H', ⟨by have := HJ2.out; have := HK2.out; have := HK3.out; first | omega | exact Nat.le_refl _⟩, ⟨by (with_reducible repeat (first | apply Kd.R_alloc | apply Kd.R_drewN | apply Kd.R_drew)); exact Kd.R_mono (Kd.R_far (p := ⟨gb128, 1, none⟩) (Kd.R_far (p := ⟨gb128, 0, none⟩) (Kd.R_mono HO_6.out (fun k_ hk => (⟨hk, hk.2⟩ : _ ∧ k_ ≠ gb128))) (fun _ hk => hk.2) (.int .i64 ((rd_T55 t121 x31_3).f0))) (fun _ hk => hk.2) (.int .i64 ((rd_T55 t121 x31_3).f1))) (fun _ hk => ⟨hk.1.1.1, ⟨hk.1.1.2.1, ⟨hk.1.1.2.2, hk.1.2⟩⟩⟩)⟩, ⟨by (with_reducible repeat (first | apply Kd.R_alloc | apply Kd.R_drewN | apply Kd.R_drew)); exact Kd.R_mono (Kd.R_far (p := ⟨gb128, 1, none⟩) (Kd.R_far (p := ⟨gb128, 0, none⟩) (Kd.R_mono HO_21.out (fun k_ hk => (⟨hk, hk.2⟩ : _ ∧ k_ ≠ gb128))) (fun _ hk => hk.2) (.int .i64 ((rd_T55 t121 x31_3).f0))) (fun _ hk => hk.2) (.int .i64 ((rd_T55 t121 x31_3).f1))) (fun _ hk => ⟨hk.1.1.1, ⟨hk.1.1.2.1, ⟨hk.1.1.2.2, hk.1.2⟩⟩⟩)⟩, ⟨by (with_reducible repeat (first | apply Kd.R_alloc | apply Kd.R_drewN | apply Kd.R_drew)); exact Kd.R_mono (Kd.R_far (p := ⟨gb128, 1, none⟩) (Kd.R_far (p := ⟨gb128, 0, none⟩) (Kd.R_mono HO_29.out (fun k_ hk => (⟨hk, hk.2⟩ : _ ∧ k_ ≠ gb128))) (fun _ hk => hk.2) (.int .i64 ((rd_T55 t121 x31_3).f0))) (fun _ hk => hk.2) (.int .i64 ((rd_T55 t121 x31_3).f1))) (fun _ hk => ⟨hk.1.1.1, ⟨hk.1.1.2.1, ⟨hk.1.1.2.2, hk.1.2⟩⟩⟩)⟩, ⟨by (with_reducible repeat (first | refine blk_drewN ?_ _ | refine blk_drew ?_ | refine blk_alloc ?_ _)); refine blk_far ?_ NB117_128.out _; (with_reducible repeat (first | refine blk_drewN ?_ _ | refine blk_drew ?_ | refine blk_alloc ?_ _)); refine blk_far ?_ NB117_128.out _; (with_reducible repeat (first | refine blk_drewN ?_ _ | refine blk_drew ?_ | refine blk_alloc ?_ _)); exact BK117.out⟩, ⟨by (with_reducible repeat (first | refine blk_drewN ?_ _ | refine blk_drew ?_ | refine blk_alloc ?_ _)); refine blk_put (cs := #[.int .i64 ((rd_T55 t121 x31_3).f0), .int .i64 0]) ?_ 1 _ rfl; (with_reducible repeat (first | refine blk_drewN ?_ _ | refine blk_drew ?_ | refine blk_alloc ?_ _)); refine blk_put (cs := #[.int .i64 0, .int .i64 0]) ?_ 0 _ rfl; (with_reducible repeat (first | refine blk_drewN ?_ _ | refine blk_drew ?_ | refine blk_alloc ?_ _)); exact BK128.out⟩, ⟨by repeat (first | (with_reducible first | exact HB.out | apply below_alloc | apply pw_below_drewN | apply below_drew1 | refine below_set ?_ GE117.out | refine below_set ?_ GE128.out) | exact HB.out)⟩⟩
              case rest =>
               clear HC31
               try clear c1
               try clear p1
               try clear q1
               try clear hx1
               try clear c2
               try clear p2
               try clear c3
               try clear c4
               try clear c5
               try clear c10
               try clear p11
               try clear q11
               try clear hx11
               try clear p12
               try clear q12
               try clear hx12
               try clear c16
               try clear c17
               try clear c17b0
               try clear c18
               try clear c18b0
               try clear c19
               try clear c19b0
               try clear c27
               try clear c28
               try clear c28b0
               try clear c29
               try clear c29b0
               try clear c30
               try clear c30b0
               try clear c33
               try clear c35
               try clear c35b0
               try clear c36
               try clear c39
               try clear c40
               try clear hcz23_0
               try clear hcz23_1
               try clear hcz34_0
               try clear hcz34_1
               try clear hcz37_0
               try clear hcz37_1
               try clear hcz38_0
               try clear hcz38_1
               try clear hcz40_0
               try clear hcz40_1
               try clear hcz41_0
               try clear hcz41_1
               try clear hfz23_0
               try clear hfz23_1
               try clear hfz34_0
               try clear hfz34_1
               try clear hfz37_0
               try clear hfz37_1
               try clear hfz38_0
               try clear hfz38_1
               try clear hfz40_0
               try clear hfz40_1
               try clear hfz41_0
               try clear hfz41_1
               try clear hx116_0
               try clear hx116_1
               try clear hx127_0
               try clear hx127_1
               try clear p1
               try clear p11
               try clear p116
               try clear p127
               try clear p2
               try clear q1
               try clear q11
               try clear q116
               try clear q127
               obtain ⟨kq, x46_30, rfl, HA, HJ30, HO_6, HO_21, HO_29, BK117, BK128, HB⟩ := hcut
               cases kq with
               | zero => exact absurd HA.out (by simp [impl_SetLess.j3])
               | succ kj30 =>
                have H := HA.out
                clear HA
                simp only [impl_SetLess.j3] at H
                by_cases c42 : x46_30 = true
                ·subst c42
                 have H1 : (impl_SetLess.l1 kj30 l1 x6_3 t106 (t106.length : Int) x23_2 t121 (t121.length : Int) (wrap64 (x31_3 + 1)) x118000_3 ((rd_T55 t106 x23_2).f1)) = some (r1, r2) := by rw [if_pos rfl] at H; exact H
                 clear H
                 have H := H1
                 clear H1
                 have H' := Aside0.mk H
                 clear H
                 go_wp2
                 go_roundg kj30
                 case measure => have := HJ2.out; have := HK2.out; have := HK3.out; have := HJ30.out; omega
                 case rel => exact ⟨(x6_3), (wrap64 (x31_3 + 1)), (x118000_3), (by first | rfl | (simp; done) | (simp [*]; done)), H', ⟨by have := HJ2.out; have := HK2.out; have := HK3.out; have := HJ30.out; omega⟩, ⟨by (with_reducible repeat (first | apply Kd.R_alloc | apply Kd.R_drewN | apply Kd.R_drew)); exact Kd.R_mono HO_6.out (fun _ hk => ⟨hk.1, ⟨hk.2.1, hk.2.2.1⟩⟩)⟩, ⟨by (with_reducible repeat (first | apply Kd.R_alloc | apply Kd.R_drewN | apply Kd.R_drew)); exact Kd.R_mono HO_21.out (fun _ hk => ⟨hk.1, ⟨hk.2.1, hk.2.2.1⟩⟩)⟩, ⟨by (with_reducible repeat (first | apply Kd.R_alloc | apply Kd.R_drewN | apply Kd.R_drew)); exact Kd.R_mono HO_29.out (fun _ hk => ⟨hk.1, ⟨hk.2.1, hk.2.2.1⟩⟩)⟩, ⟨by (with_reducible repeat (first | refine blk_drewN ?_ _ | refine blk_drew ?_ | refine blk_alloc ?_ _)); exact BK117.out⟩, ⟨by repeat (first | (with_reducible first | exact HB.out | apply below_alloc | apply pw_below_drewN | apply below_drew1 | refine below_set ?_ GE117.out | refine below_set ?_ GE128.out) | exact HB.out)⟩⟩
                ·replace c42 := Bool.eq_false_iff.mpr c42
                 subst c42
                 have H1 : (if x118000_3 < ((rd_T55 t121 x31_3).f0) then (if x6_3.length < 8796093022208 then (impl_SetLess.l1 kj30 l1 (x6_3 ++ [(⟨x118000_3, wrap64 (((rd_T55 t121 x31_3).f0) - 1)⟩ : S55)]) t106 (t106.length : Int) x23_2 t121 (t121.length : Int) (wrap64 (x31_3 + 1)) (wrap64 (((rd_T55 t121 x31_3).f1) + 1)) ((rd_T55 t106 x23_2).f1)) else (none)) else (impl_SetLess.l1 kj30 l1 x6_3 t106 (t106.length : Int) x23_2 t121 (t121.length : Int) (wrap64 (x31_3 + 1)) (wrap64 (((rd_T55 t121 x31_3).f1) + 1)) ((rd_T55 t106 x23_2).f1))) = some (r1, r2) := by rw [if_neg (show ¬ (false = true) by decide)] at H; exact H
                 clear H
                 have H := H1
                 clear H1
                 by_cases c43 : x118000_3 < ((rd_T55 t121 x31_3).f0)
                 ·rw [if_pos c43] at H
                  have c43b0 : decide (x118000_3 < ((rd_T55 t121 x31_3).f0)) = true := decide_eq_true c43
                  clear c43
                  by_cases c44 : x6_3.length < 8796093022208
                  ·rw [if_pos c44] at H
                   have LMc44 := Aside0.mk c44
                   clear c44
                   obtain ⟨y129, hy129⟩ : ∃ y_ : List (S55), y_ = (x6_3 ++ [(⟨x118000_3, wrap64 (((rd_T55 t121 x31_3).f0) - 1)⟩ : S55)]) := ⟨_, rfl⟩
                   replace H : (impl_SetLess.l1 kj30 l1 y129 t106 (t106.length : Int) x23_2 t121 (t121.length : Int) (wrap64 (x31_3 + 1)) (wrap64 (((rd_T55 t121 x31_3).f1) + 1)) ((rd_T55 t106 x23_2).f1)) = some (r1, r2) := by first | (rw [hy129]; with_reducible exact H) | (have H2_ := (Option.bind_some _ _).symm.trans H; rw [hy129]; with_reducible exact H2_) | (have H2_ := (Option.bind_some _ _).symm.trans H; with_reducible exact H2_) | with_reducible exact H | (rw [hy129]; exact H) | exact H
                   have Ny129 := Aside0.mk hy129
                   clear hy129
                   have H' := Aside0.mk H
                   clear H
                   have hnb45 := NB117_128.out
                   have hnc45 := NB128_117.out
                   have hcz46_0 : wc.cell? ⟨gb117, 0, none⟩ = some (.int .i64 x118000_3) := (blk_cell BK117.out 0).trans rfl
                   have hcz46_1 : wc.cell? ⟨gb117, 1, none⟩ = some (.int .i64 ((rd_T55 t106 x23_2).f1)) := (blk_cell BK117.out 1).trans rfl
                   have hfz46_0 := blk_frozen BK117.out 0
                   have hfz46_1 := blk_frozen BK117.out 1
                   have hcz47_0 : wc.cell? ⟨gb128, 0, none⟩ = some (.int .i64 ((rd_T55 t121 x31_3).f0)) := (blk_cell BK128.out 0).trans rfl
                   have hcz47_1 : wc.cell? ⟨gb128, 1, none⟩ = some (.int .i64 ((rd_T55 t121 x31_3).f1)) := (blk_cell BK128.out 1).trans rfl
                   have hfz47_0 := blk_frozen BK128.out 0
                   have hfz47_1 := blk_frozen BK128.out 1
                   go_wp2_with (first | ((with_reducible refine gate_builtin (b := .append) (xs := #[.tmp 52, .tmp 59]) rfl ?_); at_builtin; refine Kd.R_append k55 (w0 := w) w.heap.size rfl (.tmp 52) (.tmp 59) 48 55 (.agg #[(.int .i64 0), (.int .i64 0)]) 16 rfl Try.underlying48 info55 rfl (by decide) (by omega) u6 x6_3 (⟨x118000_3, wrap64 (((rd_T55 t121 x31_3).f0) - 1)⟩ : S55) [.int .i64 x118000_3, .int .i64 (wrap64 (((rd_T55 t121 x31_3).f0) - 1))] (fun k_ => some k_ ≠ (.slice (some ad116) t106.length co16 : Value).ownBlock ∧ some k_ ≠ (.slice (some ad127) t121.length co27 : Value).ownBlock ∧ k_ ≠ gb117 ∧ k_ ≠ gb128) (fun _ => False) rfl rfl ?aP (fun _ hk => hk.elim) ?aF ?aO ?aB ?aS ?aL ?_; (case aP => exact k55_mkM _ _ _ (⟨x118000_3, wrap64 (((rd_T55 t121 x31_3).f0) - 1)⟩ : S55)); (case aB => exact (by repeat (first | (with_reducible first | exact HB.out | apply below_alloc | apply pw_below_drewN | apply below_drew1 | refine below_set ?_ GE117.out | refine below_set ?_ GE128.out) | exact HB.out))); (case aF => exact (fun k_ hk => ⟨Kd.fresh' (Kd.R_lt (by (with_reducible repeat (first | apply Kd.R_alloc | apply Kd.R_drewN | apply Kd.R_drew)); exact HO_21.out)) k_ hk, Kd.fresh' (Kd.R_lt (by (with_reducible repeat (first | apply Kd.R_alloc | apply Kd.R_drewN | apply Kd.R_drew)); exact HO_29.out)) k_ hk, Kd.freshB (g := gb117) (o := .cells #[.int .i64 x118000_3, .int .i64 ((rd_T55 t106 x23_2).f1)] 55 (0, 0)) (by (with_reducible repeat (first | refine blk_drewN ?_ _ | refine blk_drew ?_ | refine blk_alloc ?_ _)); exact BK117.out) k_ hk, Kd.freshB (g := gb128) (o := .cells #[.int .i64 ((rd_T55 t121 x31_3).f0), .int .i64 ((rd_T55 t121 x31_3).f1)] 55 (0, 0)) (by (with_reducible repeat (first | refine blk_drewN ?_ _ | refine blk_drew ?_ | refine blk_alloc ?_ _)); exact BK128.out) k_ hk⟩)); (case aO => exact (by (with_reducible repeat (first | apply Kd.R_alloc | apply Kd.R_drewN | apply Kd.R_drew)); exact HO_6.out)); (case aS => exact (below_size (by repeat (first | (with_reducible first | exact HB.out | apply below_alloc | apply pw_below_drewN | apply below_drew1 | refine below_set ?_ GE117.out | refine below_set ?_ GE128.out) | exact HB.out)))); (case aL => have := LMc44.out; omega); intro v130 w48 ho hb hg hat; rw [← Ny129.out] at ho; have n0_ := Aside0.mk (Kd.R_after (ok := (fun k_ => some k_ ≠ (.slice (some ad127) t121.length co27 : Value).ownBlock ∧ k_ ≠ gb117 ∧ k_ ≠ gb128)) (by (with_reducible repeat (first | apply Kd.R_alloc | apply Kd.R_drewN | apply Kd.R_drew)); exact Kd.R_mono HO_21.out (fun _ hk => ⟨⟨hk.2.1, ⟨hk.2.2.1, hk.2.2.2⟩⟩, hk.1⟩)) hg hat); have n1_ := Aside0.mk (Kd.R_after (ok := (fun k_ => some k_ ≠ (.slice (some ad116) t106.length co16 : Value).ownBlock ∧ k_ ≠ gb117 ∧ k_ ≠ gb128)) (by (with_reducible repeat (first | apply Kd.R_alloc | apply Kd.R_drewN | apply Kd.R_drew)); exact Kd.R_mono HO_29.out (fun _ hk => ⟨⟨hk.2.1, ⟨hk.2.2.1, hk.2.2.2⟩⟩, hk.1⟩)) hg hat); have n2_ := Aside0.mk (blk_grown (g := gb117) (o := .cells #[.int .i64 x118000_3, .int .i64 ((rd_T55 t106 x23_2).f1)] 55 (0, 0)) (by (with_reducible repeat (first | refine blk_drewN ?_ _ | refine blk_drew ?_ | refine blk_alloc ?_ _)); exact BK117.out) hg (Kd.R_away HO_6.out (fun _ hk => hk.2.2.1))); have n3_ := Aside0.mk (blk_grown (g := gb128) (o := .cells #[.int .i64 ((rd_T55 t121 x31_3).f0), .int .i64 ((rd_T55 t121 x31_3).f1)] 55 (0, 0)) (by (with_reducible repeat (first | refine blk_drewN ?_ _ | refine blk_drew ?_ | refine blk_alloc ?_ _)); exact BK128.out) hg (Kd.R_away HO_6.out (fun _ hk => hk.2.2.2))); have n4_ := Aside0.mk (hb); have n5_ := Aside0.mk (ho); clear HO_21; clear HO_29; clear BK117; clear BK128; clear HB; clear HO_6; have HO_21 := n0_; have HO_29 := n1_; have BK117 := n2_; have BK128 := n3_; have HB := n4_; have HO131 := n5_; clear n0_ n1_ n2_ n3_ n4_ n5_; clear ho hb hg hat; have hcz49_0 : w48.cell? ⟨gb128, 0, none⟩ = some (.int .i64 ((rd_T55 t121 x31_3).f0)) := (blk_cell BK128.out 0).trans rfl; have hcz49_1 : w48.cell? ⟨gb128, 1, none⟩ = some (.int .i64 ((rd_T55 t121 x31_3).f1)) := (blk_cell BK128.out 1).trans rfl; have hfz49_0 := blk_frozen BK128.out 0; have hfz49_1 := blk_frozen BK128.out 1; have hcz50_0 : w48.cell? ⟨gb117, 0, none⟩ = some (.int .i64 x118000_3) := (blk_cell BK117.out 0).trans rfl; have hcz50_1 : w48.cell? ⟨gb117, 1, none⟩ = some (.int .i64 ((rd_T55 t106 x23_2).f1)) := (blk_cell BK117.out 1).trans rfl; have hfz50_0 := blk_frozen BK117.out 0; have hfz50_1 := blk_frozen BK117.out 1))
                   go_roundg kj30
                   case measure => have := HJ2.out; have := HK2.out; have := HK3.out; have := HJ30.out; omega
                   case rel => exact ⟨(y129), (wrap64 (x31_3 + 1)), (wrap64 (((rd_T55 t121 x31_3).f1) + 1)), (by first | rfl | (simp; done) | (simp [*]; done)), H', ⟨by have := HJ2.out; have := HK2.out; have := HK3.out; have := HJ30.out; omega⟩, ⟨by (with_reducible repeat (first | apply Kd.R_alloc | apply Kd.R_drewN | apply Kd.R_drew)); exact Kd.R_mono (Kd.R_far (p := ⟨gb117, 0, none⟩) (Kd.R_mono HO131.out (fun k_ hk => (⟨hk, hk.2.2.1⟩ : _ ∧ k_ ≠ gb117))) (fun _ hk => hk.2) (.int .i64 (wrap64 (((rd_T55 t121 x31_3).f1) + 1)))) (fun _ hk => ⟨hk.1.1, ⟨hk.1.2.1, hk.1.2.2.1⟩⟩)⟩, ⟨by (with_reducible repeat (first | apply Kd.R_alloc | apply Kd.R_drewN | apply Kd.R_drew)); exact Kd.R_mono (Kd.R_far (p := ⟨gb117, 0, none⟩) (Kd.R_mono HO_21.out (fun k_ hk => (⟨hk, hk.1.2.1⟩ : _ ∧ k_ ≠ gb117))) (fun _ hk => hk.2) (.int .i64 (wrap64 (((rd_T55 t121 x31_3).f1) + 1)))) (fun _ hk => ⟨hk.1.2, ⟨hk.1.1.1, hk.1.1.2.1⟩⟩)⟩, ⟨by (with_reducible repeat (first | apply Kd.R_alloc | apply Kd.R_drewN | apply Kd.R_drew)); exact Kd.R_mono (Kd.R_far (p := ⟨gb117, 0, none⟩) (Kd.R_mono HO_29.out (fun k_ hk => (⟨hk, hk.1.2.1⟩ : _ ∧ k_ ≠ gb117))) (fun _ hk => hk.2) (.int .i64 (wrap64 (((rd_T55 t121 x31_3).f1) + 1)))) (fun _ hk => ⟨hk.1.2, ⟨hk.1.1.1, hk.1.1.2.1⟩⟩)⟩, ⟨by (with_reducible repeat (first | refine blk_drewN ?_ _ | refine blk_drew ?_ | refine blk_alloc ?_ _)); refine blk_put (cs := #[.int .i64 x118000_3, .int .i64 ((rd_T55 t106 x23_2).f1)]) ?_ 0 _ rfl; (with_reducible repeat (first | refine blk_drewN ?_ _ | refine blk_drew ?_ | refine blk_alloc ?_ _)); exact BK117.out⟩, ⟨by repeat (first | (with_reducible first | exact HB.out | apply below_alloc | apply pw_below_drewN | apply below_drew1 | refine below_set ?_ GE117.out | refine below_set ?_ GE128.out) | exact HB.out)⟩⟩
                  ·rw [if_neg c44] at H
                   exact absurd H (by simp)
                 ·rw [if_neg c43] at H
                  have c43b0 : decide (x118000_3 < ((rd_T55 t121 x31_3).f0)) = false := decide_eq_false c43
                  clear c43
                  have H' := Aside0.mk H
                  clear H
                  have hnb51 := NB117_128.out
                  have hnc51 := NB128_117.out
                  have hcz52_0 : wc.cell? ⟨gb117, 0, none⟩ = some (.int .i64 x118000_3) := (blk_cell BK117.out 0).trans rfl
                  have hcz52_1 : wc.cell? ⟨gb117, 1, none⟩ = some (.int .i64 ((rd_T55 t106 x23_2).f1)) := (blk_cell BK117.out 1).trans rfl
                  have hfz52_0 := blk_frozen BK117.out 0
                  have hfz52_1 := blk_frozen BK117.out 1
                  have hcz53_0 : wc.cell? ⟨gb128, 0, none⟩ = some (.int .i64 ((rd_T55 t121 x31_3).f0)) := (blk_cell BK128.out 0).trans rfl
                  have hcz53_1 : wc.cell? ⟨gb128, 1, none⟩ = some (.int .i64 ((rd_T55 t121 x31_3).f1)) := (blk_cell BK128.out 1).trans rfl
                  have hfz53_0 := blk_frozen BK128.out 0
                  have hfz53_1 := blk_frozen BK128.out 1
                  go_wp2
                  go_roundg kj30
                  case measure => have := HJ2.out; have := HK2.out; have := HK3.out; have := HJ30.out; omega
                  case rel => exact ⟨(x6_3), (wrap64 (x31_3 + 1)), (wrap64 (((rd_T55 t121 x31_3).f1) + 1)), (by first | rfl | (simp; done) | (simp [*]; done)), H', ⟨by have := HJ2.out; have := HK2.out; have := HK3.out; have := HJ30.out; omega⟩, ⟨by (with_reducible repeat (first | apply Kd.R_alloc | apply Kd.R_drewN | apply Kd.R_drew)); exact Kd.R_mono (Kd.R_far (p := ⟨gb117, 0, none⟩) (Kd.R_mono HO_6.out (fun k_ hk => (⟨hk, hk.2.2.1⟩ : _ ∧ k_ ≠ gb117))) (fun _ hk => hk.2) (.int .i64 (wrap64 (((rd_T55 t121 x31_3).f1) + 1)))) (fun _ hk => ⟨hk.1.1, ⟨hk.1.2.1, hk.1.2.2.1⟩⟩)⟩, ⟨by (with_reducible repeat (first | apply Kd.R_alloc | apply Kd.R_drewN | apply Kd.R_drew)); exact Kd.R_mono (Kd.R_far (p := ⟨gb117, 0, none⟩) (Kd.R_mono HO_21.out (fun k_ hk => (⟨hk, hk.2.2.1⟩ : _ ∧ k_ ≠ gb117))) (fun _ hk => hk.2) (.int .i64 (wrap64 (((rd_T55 t121 x31_3).f1) + 1)))) (fun _ hk => ⟨hk.1.1, ⟨hk.1.2.1, hk.1.2.2.1⟩⟩)⟩, ⟨by (with_reducible repeat (first | apply Kd.R_alloc | apply Kd.R_drewN | apply Kd.R_drew)); exact Kd.R_mono (Kd.R_far (p := ⟨gb117, 0, none⟩) (Kd.R_mono HO_29.out (fun k_ hk => (⟨hk, hk.2.2.1⟩ : _ ∧ k_ ≠ gb117))) (fun _ hk => hk.2) (.int .i64 (wrap64 (((rd_T55 t121 x31_3).f1) + 1)))) (fun _ hk => ⟨hk.1.1, ⟨hk.1.2.1, hk.1.2.2.1⟩⟩)⟩, ⟨by (with_reducible repeat (first | refine blk_drewN ?_ _ | refine blk_drew ?_ | refine blk_alloc ?_ _)); refine blk_put (cs := #[.int .i64 x118000_3, .int .i64 ((rd_T55 t106 x23_2).f1)]) ?_ 0 _ rfl; (with_reducible repeat (first | refine blk_drewN ?_ _ | refine blk_drew ?_ | refine blk_alloc ?_ _)); exact BK117.out⟩, ⟨by repeat (first | (with_reducible first | exact HB.out | apply below_alloc | apply pw_below_drewN | apply below_drew1 | refine below_set ?_ GE117.out | refine below_set ?_ GE128.out) | exact HB.out)⟩⟩
             ·rw [if_neg c30] at H
              exact absurd H (by simp)
            ·rw [if_neg c29] at H
             exact absurd H (by simp)
           ·rw [if_neg c28] at H
            have c28b0 : decide (x31_3 < (t121.length : Int)) = false := decide_eq_false c28
            clear c28
            by_cases c54 : x118000_3 ≤ ((rd_T55 t106 x23_2).f1)
            ·rw [if_pos c54] at H
             have c54b0 : decide (x118000_3 ≤ ((rd_T55 t106 x23_2).f1)) = true := decide_eq_true c54
             clear c54
             by_cases c55 : x6_3.length < 8796093022208
             ·rw [if_pos c55] at H
              have LMc55 := Aside0.mk c55
              clear c55
              obtain ⟨y124, hy124⟩ : ∃ y_ : List (S55), y_ = (x6_3 ++ [(⟨x118000_3, ((rd_T55 t106 x23_2).f1)⟩ : S55)]) := ⟨_, rfl⟩
              replace H : (impl_SetLess.l0 k3 l1 y124 t106 (t106.length : Int) (wrap64 (x23_2 + 1))) = some (r1, r2) := by first | (rw [hy124]; with_reducible exact H) | (have H2_ := (Option.bind_some _ _).symm.trans H; rw [hy124]; with_reducible exact H2_) | (have H2_ := (Option.bind_some _ _).symm.trans H; with_reducible exact H2_) | with_reducible exact H | (rw [hy124]; exact H) | exact H
              have Ny124 := Aside0.mk hy124
              clear hy124
              have H' := Aside0.mk H
              clear H
              have hcz56_0 : wr.cell? ⟨gb117, 0, none⟩ = some (.int .i64 x118000_3) := (blk_cell BK117.out 0).trans rfl
              have hcz56_1 : wr.cell? ⟨gb117, 1, none⟩ = some (.int .i64 ((rd_T55 t106 x23_2).f1)) := (blk_cell BK117.out 1).trans rfl
              have hfz56_0 := blk_frozen BK117.out 0
              have hfz56_1 := blk_frozen BK117.out 1
              go_wp2_with (first | ((with_reducible refine gate_builtin (b := .append) (xs := #[.tmp 71, .tmp 73]) rfl ?_); at_builtin; refine Kd.R_append k55 (w0 := w) w.heap.size rfl (.tmp 71) (.tmp 73) 48 55 (.agg #[(.int .i64 0), (.int .i64 0)]) 16 rfl Try.underlying48 info55 rfl (by decide) (by omega) u6 x6_3 (⟨x118000_3, ((rd_T55 t106 x23_2).f1)⟩ : S55) [.int .i64 x118000_3, .int .i64 ((rd_T55 t106 x23_2).f1)] (fun k_ => some k_ ≠ (.slice (some ad116) t106.length co16 : Value).ownBlock ∧ some k_ ≠ (.slice Ao27 t121.length co27 : Value).ownBlock ∧ k_ ≠ gb117) (fun _ => False) rfl rfl ?aP (fun _ hk => hk.elim) ?aF ?aO ?aB ?aS ?aL ?_; (case aP => exact k55_mkM _ _ _ (⟨x118000_3, ((rd_T55 t106 x23_2).f1)⟩ : S55)); (case aB => exact (by repeat (first | (with_reducible first | exact HB.out | apply below_alloc | apply pw_below_drewN | apply below_drew1 | refine below_set ?_ GE117.out) | exact HB.out))); (case aF => exact (fun k_ hk => ⟨Kd.fresh' (Kd.R_lt (by (with_reducible repeat (first | apply Kd.R_alloc | apply Kd.R_drewN | apply Kd.R_drew)); exact HO_21.out)) k_ hk, Kd.fresh' (Kd.R_lt (by (with_reducible repeat (first | apply Kd.R_alloc | apply Kd.R_drewN | apply Kd.R_drew)); exact HO_29.out)) k_ hk, Kd.freshB (g := gb117) (o := .cells #[.int .i64 x118000_3, .int .i64 ((rd_T55 t106 x23_2).f1)] 55 (0, 0)) (by (with_reducible repeat (first | refine blk_drewN ?_ _ | refine blk_drew ?_ | refine blk_alloc ?_ _)); exact BK117.out) k_ hk⟩)); (case aO => exact (by (with_reducible repeat (first | apply Kd.R_alloc | apply Kd.R_drewN | apply Kd.R_drew)); exact HO_6.out)); (case aS => exact (below_size (by repeat (first | (with_reducible first | exact HB.out | apply below_alloc | apply pw_below_drewN | apply below_drew1 | refine below_set ?_ GE117.out) | exact HB.out)))); (case aL => have := LMc55.out; omega); intro v125 w57 ho hb hg hat; rw [← Ny124.out] at ho; have n0_ := Aside0.mk (Kd.R_after (ok := (fun k_ => some k_ ≠ (.slice Ao27 t121.length co27 : Value).ownBlock ∧ k_ ≠ gb117)) (by (with_reducible repeat (first | apply Kd.R_alloc | apply Kd.R_drewN | apply Kd.R_drew)); exact Kd.R_mono HO_21.out (fun _ hk => ⟨⟨hk.2.1, hk.2.2⟩, hk.1⟩)) hg hat); have n1_ := Aside0.mk (Kd.R_after (ok := (fun k_ => some k_ ≠ (.slice (some ad116) t106.length co16 : Value).ownBlock ∧ k_ ≠ gb117)) (by (with_reducible repeat (first | apply Kd.R_alloc | apply Kd.R_drewN | apply Kd.R_drew)); exact Kd.R_mono HO_29.out (fun _ hk => ⟨⟨hk.2.1, hk.2.2⟩, hk.1⟩)) hg hat); have n2_ := Aside0.mk (blk_grown (g := gb117) (o := .cells #[.int .i64 x118000_3, .int .i64 ((rd_T55 t106 x23_2).f1)] 55 (0, 0)) (by (with_reducible repeat (first | refine blk_drewN ?_ _ | refine blk_drew ?_ | refine blk_alloc ?_ _)); exact BK117.out) hg (Kd.R_away HO_6.out (fun _ hk => hk.2.2))); have n3_ := Aside0.mk (hb); have n4_ := Aside0.mk (ho); clear HO_21; clear HO_29; clear BK117; clear HB; clear HO_6; have HO_21 := n0_; have HO_29 := n1_; have BK117 := n2_; have HB := n3_; have HO126 := n4_; clear n0_ n1_ n2_ n3_ n4_; clear ho hb hg hat))
              go_roundg k3
              case measure => have := HJ2.out; have := HK2.out; have := HK3.out; omega
              case rel => exact ⟨(y124), (wrap64 (x23_2 + 1)), (by first | rfl | (simp; done) | (simp [*]; done)), H', ⟨by have := HJ2.out; have := HK2.out; have := HK3.out; omega⟩, ⟨by (with_reducible repeat (first | apply Kd.R_alloc | apply Kd.R_drewN | apply Kd.R_drew)); exact Kd.R_mono HO126.out (fun _ hk => hk.1)⟩, ⟨by (with_reducible repeat (first | apply Kd.R_alloc | apply Kd.R_drewN | apply Kd.R_drew)); exact Kd.R_mono HO_21.out (fun _ hk => hk.2)⟩, ⟨by repeat (first | (with_reducible first | exact HB.out | apply below_alloc | apply pw_below_drewN | apply below_drew1 | refine below_set ?_ GE117.out) | exact HB.out)⟩⟩
             ·rw [if_neg c55] at H
              exact absurd H (by simp)
            ·rw [if_neg c54] at H
             have c54b0 : decide (x118000_3 ≤ ((rd_T55 t106 x23_2).f1)) = false := decide_eq_false c54
             clear c54
             have H' := Aside0.mk H
             clear H
             have hcz58_0 : wr.cell? ⟨gb117, 0, none⟩ = some (.int .i64 x118000_3) := (blk_cell BK117.out 0).trans rfl
             have hcz58_1 : wr.cell? ⟨gb117, 1, none⟩ = some (.int .i64 ((rd_T55 t106 x23_2).f1)) := (blk_cell BK117.out 1).trans rfl
             have hfz58_0 := blk_frozen BK117.out 0
             have hfz58_1 := blk_frozen BK117.out 1
             go_wp2
             go_roundg k3
             case measure => have := HJ2.out; have := HK2.out; have := HK3.out; omega
             case rel => exact ⟨(x6_3), (wrap64 (x23_2 + 1)), (by first | rfl | (simp; done) | (simp [*]; done)), H', ⟨by have := HJ2.out; have := HK2.out; have := HK3.out; omega⟩, ⟨by (with_reducible repeat (first | apply Kd.R_alloc | apply Kd.R_drewN | apply Kd.R_drew)); exact Kd.R_mono HO_6.out (fun _ hk => hk.1)⟩, ⟨by (with_reducible repeat (first | apply Kd.R_alloc | apply Kd.R_drewN | apply Kd.R_drew)); exact Kd.R_mono HO_21.out (fun _ hk => hk.1)⟩, ⟨by repeat (first | (with_reducible first | exact HB.out | apply below_alloc | apply pw_below_drewN | apply below_drew1 | refine below_set ?_ GE117.out) | exact HB.out)⟩⟩
        ·rw [if_neg c19] at H
         exact absurd H (by simp)
       ·rw [if_neg c18] at H
        exact absurd H (by simp)
      ·rw [if_neg c17] at H
       have c17b0 : decide (x23_2 < (t106.length : Int)) = false := decide_eq_false c17
       clear c17
       replace H := Option.bind_eq_some_iff.mp H
       obtain ⟨t109, A590, H⟩ := H
       replace H : ((impl_limited.f t109).bind fun bt112 => (some (bt112.1, bt112.2))) = some (r1, r2) := H
       have A59 := Aside0.mk A590
       clear A590
       replace H := Option.bind_eq_some_iff.mp H
       obtain ⟨⟨t112, t115⟩, A600, H⟩ := H
       replace H : (some (t112, t115)) = some (r1, r2) := H
       have A60 := Aside0.mk A600
       clear A600
       simp only [Option.some.injEq, Prod.mk.injEq] at H
       obtain ⟨rfl, rfl⟩ := H
       obtain ⟨Ao61, co61, eo61⟩ := Kd.R_slice HO_6.out
       subst eo61
       go_wp2_with (first | ((with_reducible refine gate_callee (f := 39) rfl ?_); refine goesL_ (some 77) rfl rfl Try.func39 (by kernel_rfl) rfl #[.slice Ao61 x6_2.length co61] rfl (by (try simp only [List.map_toArray, List.map_cons, List.map_nil]); first | done | rfl | (simp only [List.length_drop, List.length_take]; rfl)) ?_; (with_reducible refine (impl_set.calls k2 _ _ x6_2 t109 _ ?side1 ?side2 A59.out).mono ?_); (case side1 => repeat (first | exact (Kd.R_reads' HO_6.out).2.2 | (with_reducible refine Kd.C_alloc ?_ _) | (with_reducible refine Kd.C_drewN ?_ _) | (with_reducible refine Kd.C_drew ?_))); (case side2 => exact (Kd.R_reads' HO_6.out).2.1); rintro e w62 ⟨v110, rfl, ho0, hb⟩; refine ⟨_, rfl, ?_⟩; have n0_ := Aside0.mk (Kd.R_below (by (with_reducible repeat (first | apply Kd.R_alloc | apply Kd.R_drewN | apply Kd.R_drew)); exact HO_6.out) hb); have n1_ := Aside0.mk (Kd.R_below (by (with_reducible repeat (first | apply Kd.R_alloc | apply Kd.R_drewN | apply Kd.R_drew)); exact HO_21.out) hb); have n2_ := Aside0.mk (Kd.R_lower ho0 (below_size (by repeat (first | (with_reducible first | exact HB.out | apply below_alloc | apply pw_below_drewN | apply below_drew1) | exact HB.out)))); have n3_ := Aside0.mk (below_step (by repeat (first | (with_reducible first | exact HB.out | apply below_alloc | apply pw_below_drewN | apply below_drew1) | exact HB.out)) hb); clear HO_6; clear HO_21; clear HB; have HO_6 := n0_; have HO_21 := n1_; have HO111 := n2_; have HB := n3_; clear n0_ n1_ n2_ n3_; (try clear hb); (try clear hb2); (try clear hk); (try clear hi); (try clear ho0); obtain ⟨Ao63, co63, eo63⟩ := Kd.R_slice HO111.out; subst eo63) | ((with_reducible refine gate_callee (f := 43) rfl ?_); refine goesL_ (some 78) rfl rfl Try.func43 (by kernel_rfl) rfl #[.slice Ao63 t109.length co63] rfl (by (try simp only [List.map_toArray, List.map_cons, List.map_nil]); first | done | rfl | (simp only [List.length_drop, List.length_take]; rfl)) ?_; (with_reducible refine (impl_limited.calls (fun k_ => some k_ = (.slice Ao63 t109.length co63 : Value).ownBlock) (.slice Ao63 t109.length co63) t109 t112 t115 w _ ?side1 ?side2 A60.out).mono ?_); (case side1 => repeat (first | (with_reducible first | exact HB.out | apply below_alloc | apply pw_below_drewN | apply below_drew1) | exact HB.out)); (case side2 => exact Kd.R_tight rfl HO111.out); rintro e w64 ⟨v113, rfl, ho0, hb, hkp⟩; refine ⟨_, rfl, ?_⟩; have n0_ := Aside0.mk (Kd.R_mono (ok' := fun k_ => some k_ ≠ (.slice Ao16 t106.length co16 : Value).ownBlock) (Kd.R_keptB ((Kd.R_apart' HO_6.out (Kd.R_typed HO111.out) (by decide))) hkp (fun k_ hk_ hs_ => (hk_.2) hs_)) (fun k_ hk_ => hk_.1.1)); have n1_ := Aside0.mk (Kd.R_mono (ok' := fun k_ => some k_ ≠ (.slice Ao61 x6_2.length co61 : Value).ownBlock) (Kd.R_keptB ((Kd.R_apart' HO_21.out (Kd.R_typed HO111.out) (by decide))) hkp (fun k_ hk_ hs_ => (hk_.2) hs_)) (fun k_ hk_ => hk_.1.1)); have n2_ := Aside0.mk (Kd.R_mono (ok' := fun k_ => True) ho0 (fun k_ hk_ => trivial)); have n3_ := Aside0.mk (hb); clear HO_6; clear HO_21; clear HB; clear HO111; have HO_6 := n0_; have HO_21 := n1_; have HO114 := n2_; have HB := n3_; clear n0_ n1_ n2_ n3_; (try clear hb); (try clear hkp); (try clear ho0)))
       go_ret2
       exact ⟨_, by first | rfl | (simp [errW_none, errW_some] <;> rfl) | (simp [*, errW_none, errW_some] <;> rfl), by (with_reducible repeat (first | apply Kd.R_alloc | apply Kd.R_drewN | apply Kd.R_drew)); exact HO114.out, by repeat (first | (with_reducible first | exact HB.out | apply below_alloc | apply pw_below_drewN | apply below_drew1) | exact HB.out)⟩
end Go.Proofs.Ytmdhedkgpgoneaa.Q

namespace Go.Proofs.Ytmdhedkgpgoneaa.Q
open Go.RowKit Go.Proofs.YtmdhedkgpgoneaaW.PrintWords Go.Proofs.YtmdhedkgpgoneaaW.PrintLast Go.Proofs.YtmdhedkgpgoneaaW.PrintMore
attribute [local go_sem] max2_int min2_int max_two min_two max_three min_three max_four min_four
set_option linter.unusedVariables false
set_option linter.unusedSimpArgs false
mutual
def laws_FnExactSetLess.j0 : Nat → List (S46) → List (S46) → List (S44) → Bool → List (S44) → List (S44) → List (S44) → Bool → Bool → Option (Bool)
 | 0, _, _, _, _, _, _, _, _, _ => none
 | k + 1, x0, x1, x6, x7, x8, x9, x10, x11, x53 => if x53 = true then (some false) else ((laws_toBlockS.f k x0).bind fun t124 => ((laws_eqBlockS.f k x8 t124).bind fun t127 => (if t127 = true then ((laws_toBlockS.f k x1).bind fun t128 => ((laws_eqBlockS.f k x9 t128).bind fun t131 => (if t131 = true then ((laws_markBlockS.f k x8 1).bind fun bt132 => ((laws_markBlockS.f k x9 bt132.1).bind fun bt134 => (if bt134.1 < 0 then (laws_FnExactSetLess.j1 k x0 x1 x6 x7 x10 true) else ((laws_eqBlockS.f k x10 x6).bind fun t136 => (if t136 = true then (laws_FnExactSetLess.j1 k x0 x1 x6 x7 x10 (x11 != x7)) else (laws_FnExactSetLess.j1 k x0 x1 x6 x7 x10 true)))))) else (some false)))) else (some false))))
def laws_FnExactSetLess.j1 : Nat → List (S46) → List (S46) → List (S44) → Bool → List (S44) → Bool → Option (Bool)
 | 0, _, _, _, _, _, _ => none
 | k + 1, x0, x1, x6, x7, x10, x82 => if x82 = true then (some false) else ((laws_markBlockS.f k x10 1).bind fun bt137 => ((laws_heldBlockS.f k bt137.2 1).bind fun t139 => (if t139 < 0 then (some false) else (if t139 = bt137.1 then ((laws_toBlockS.f k x0).bind fun t140 => ((laws_toBlockS.f k x1).bind fun t143 => ((impl_SetLess.f k t140 t143).bind fun bt146 => ((laws_eqBlockS.f k bt146.1 x6).bind fun t150 => (if t150 = true then (laws_FnExactSetLess.j2 k bt137.2 bt137.1 (bt146.2 != x7)) else (laws_FnExactSetLess.j2 k bt137.2 bt137.1 true)))))) else (some false)))))
def laws_FnExactSetLess.j2 : Nat → List (S44) → Int → Bool → Option (Bool)
 | 0, _, _, _ => none
 | k + 1, x10, x13, x110 => if x110 = true then (some false) else ((laws_heldBlockS.f k x10 1).bind fun t151 => (if t151 < 0 then (some false) else (if t151 = x13 then (some true) else (some false))))
end
def laws_FnExactSetLess.f (k : Nat) (l0 : List (S46)) (l1 : List (S46)) : Option (Bool) := (laws_szBlockS.f l0 1048576).bind fun t101 => (if t101 < 0 then (some true) else ((laws_szBlockS.f l1 t101).bind fun t102 => (if t102 < 0 then (some true) else ((laws_toBlockS.f k l0).bind fun t103 => ((laws_toBlockS.f k l1).bind fun t106 => ((spec_SetLess.f k t103 t106).bind fun bt109 => ((laws_toBlockS.f k l0).bind fun t113 => ((laws_toBlockS.f k l1).bind fun t116 => ((impl_SetLess.f k t113 t116).bind fun bt119 => ((laws_eqBlockS.f k bt119.1 bt109.1).bind fun t123 => (if t123 = true then (laws_FnExactSetLess.j0 k l0 l1 bt109.1 bt109.2 t113 t116 bt119.1 bt119.2 (bt119.2 != bt109.2)) else (laws_FnExactSetLess.j0 k l0 l1 bt109.1 bt109.2 t113 t116 bt119.1 bt119.2 true))))))))))))
set_option maxHeartbeats 8000000 in
set_option maxRecDepth 100000 in
theorem laws_FnExactSetLess.calls (k : Nat) (A0 : Option Addr) (c0 : Nat) (l0 : List (S46)) (A1 : Option Addr) (c1 : Nat) (l1 : List (S46)) (r : Bool) (w : World) (hr0 : Kd.C k46 w A0 l0.length l0) (hc0 : l0.length ≤ c0) (hr1 : Kd.C k46 w A1 l1.length l1) (hc1 : l1.length ≤ c1) (h : laws_FnExactSetLess.f k l0 l1 = some r) :
  Calls Try.prog 7 #[.slice A0 l0.length c0, .slice A1 l1.length c1] w fun e w' => e = .returned (.bool r) ∧ Below w.heap.size w w' := by
 have HR0 := Aside0.mk hr0
 have HC0 := Aside0.mk hc0
 clear hr0 hc0
 have HR1 := Aside0.mk hr1
 have HC1 := Aside0.mk hc1
 clear hr1 hc1
 have HB := Aside0.mk (Below.refl w.heap.size w)
 have H : ((laws_szBlockS.f l0 1048576).bind fun t101 => (if t101 < 0 then (some true) else ((laws_szBlockS.f l1 t101).bind fun t102 => (if t102 < 0 then (some true) else ((laws_toBlockS.f k l0).bind fun t103 => ((laws_toBlockS.f k l1).bind fun t106 => ((spec_SetLess.f k t103 t106).bind fun bt109 => ((laws_toBlockS.f k l0).bind fun t113 => ((laws_toBlockS.f k l1).bind fun t116 => ((impl_SetLess.f k t113 t116).bind fun bt119 => ((laws_eqBlockS.f k bt119.1 bt109.1).bind fun t123 => (if t123 = true then (laws_FnExactSetLess.j0 k l0 l1 bt109.1 bt109.2 t113 t116 bt119.1 bt119.2 (bt119.2 != bt109.2)) else (laws_FnExactSetLess.j0 k l0 l1 bt109.1 bt109.2 t113 t116 bt119.1 bt119.2 true))))))))))))) = some r := h
 clear h
 replace H := Option.bind_eq_some_iff.mp H
 obtain ⟨t101, A30, H⟩ := H
 replace H : (if t101 < 0 then (some true) else ((laws_szBlockS.f l1 t101).bind fun t102 => (if t102 < 0 then (some true) else ((laws_toBlockS.f k l0).bind fun t103 => ((laws_toBlockS.f k l1).bind fun t106 => ((spec_SetLess.f k t103 t106).bind fun bt109 => ((laws_toBlockS.f k l0).bind fun t113 => ((laws_toBlockS.f k l1).bind fun t116 => ((impl_SetLess.f k t113 t116).bind fun bt119 => ((laws_eqBlockS.f k bt119.1 bt109.1).bind fun t123 => (if t123 = true then (laws_FnExactSetLess.j0 k l0 l1 bt109.1 bt109.2 t113 t116 bt119.1 bt119.2 (bt119.2 != bt109.2)) else (laws_FnExactSetLess.j0 k l0 l1 bt109.1 bt109.2 t113 t116 bt119.1 bt119.2 true)))))))))))) = some r := H
 have A3 := Aside0.mk A30
 clear A30
 by_cases c4 : t101 < 0
 ·rw [if_pos c4] at H
  have c4b0 : decide (t101 < 0) = true := decide_eq_true c4
  clear c4
  obtain rfl := Option.some.inj H
  go_enter Try.func7, Try.ntmps7
  go_wp2_with (first | ((with_reducible refine gate_callee (f := 13) rfl ?_); refine goesL_ (some 19) rfl rfl Try.func13 (by kernel_rfl) rfl #[.slice A0 l0.length c0, .int .i64 1048576] rfl (by (try simp only [List.map_toArray, List.map_cons, List.map_nil]); first | done | rfl | (simp only [List.length_drop, List.length_take]; rfl)) ?_; (with_reducible refine (laws_szBlockS.calls _ _ l0 1048576 t101 _ ?side1 ?side2 A3.out).mono ?_); (case side1 => repeat (first | exact HR0.out | (with_reducible refine Kd.C_alloc ?_ _) | (with_reducible refine Kd.C_drewN ?_ _) | (with_reducible refine Kd.C_drew ?_))); (case side2 => exact HC0.out); rintro e w' ⟨rfl, ⟨nd, rfl⟩⟩; refine ⟨_, rfl, ?_⟩))
  go_ret
  exact ⟨by first | rfl | (simp [errW_none, errW_some] <;> rfl) | (simp [*, errW_none, errW_some] <;> rfl), by repeat (first | (with_reducible first | exact HB.out | apply below_alloc | apply pw_below_drewN | apply below_drew1) | exact HB.out)⟩
 ·rw [if_neg c4] at H
  have c4b0 : decide (t101 < 0) = false := decide_eq_false c4
  clear c4
  replace H := Option.bind_eq_some_iff.mp H
  obtain ⟨t102, A50, H⟩ := H
  replace H : (if t102 < 0 then (some true) else ((laws_toBlockS.f k l0).bind fun t103 => ((laws_toBlockS.f k l1).bind fun t106 => ((spec_SetLess.f k t103 t106).bind fun bt109 => ((laws_toBlockS.f k l0).bind fun t113 => ((laws_toBlockS.f k l1).bind fun t116 => ((impl_SetLess.f k t113 t116).bind fun bt119 => ((laws_eqBlockS.f k bt119.1 bt109.1).bind fun t123 => (if t123 = true then (laws_FnExactSetLess.j0 k l0 l1 bt109.1 bt109.2 t113 t116 bt119.1 bt119.2 (bt119.2 != bt109.2)) else (laws_FnExactSetLess.j0 k l0 l1 bt109.1 bt109.2 t113 t116 bt119.1 bt119.2 true)))))))))) = some r := H
  have A5 := Aside0.mk A50
  clear A50
  by_cases c6 : t102 < 0
  ·rw [if_pos c6] at H
   have c6b0 : decide (t102 < 0) = true := decide_eq_true c6
   clear c6
   obtain rfl := Option.some.inj H
   go_enter Try.func7, Try.ntmps7
   go_wp2_with (first | ((with_reducible refine gate_callee (f := 13) rfl ?_); refine goesL_ (some 19) rfl rfl Try.func13 (by kernel_rfl) rfl #[.slice A0 l0.length c0, .int .i64 1048576] rfl (by (try simp only [List.map_toArray, List.map_cons, List.map_nil]); first | done | rfl | (simp only [List.length_drop, List.length_take]; rfl)) ?_; (with_reducible refine (laws_szBlockS.calls _ _ l0 1048576 t101 _ ?side1 ?side2 A3.out).mono ?_); (case side1 => repeat (first | exact HR0.out | (with_reducible refine Kd.C_alloc ?_ _) | (with_reducible refine Kd.C_drewN ?_ _) | (with_reducible refine Kd.C_drew ?_))); (case side2 => exact HC0.out); rintro e w' ⟨rfl, ⟨nd, rfl⟩⟩; refine ⟨_, rfl, ?_⟩) | ((with_reducible refine gate_callee (f := 13) rfl ?_); refine goesL_ (some 24) rfl rfl Try.func13 (by kernel_rfl) rfl #[.slice A1 l1.length c1, .int .i64 t101] rfl (by (try simp only [List.map_toArray, List.map_cons, List.map_nil]); first | done | rfl | (simp only [List.length_drop, List.length_take]; rfl)) ?_; (with_reducible refine (laws_szBlockS.calls _ _ l1 t101 t102 _ ?side1 ?side2 A5.out).mono ?_); (case side1 => repeat (first | exact HR1.out | (with_reducible refine Kd.C_alloc ?_ _) | (with_reducible refine Kd.C_drewN ?_ _) | (with_reducible refine Kd.C_drew ?_))); (case side2 => exact HC1.out); rintro e w' ⟨rfl, ⟨nd, rfl⟩⟩; refine ⟨_, rfl, ?_⟩))
   go_ret
   exact ⟨by first | rfl | (simp [errW_none, errW_some] <;> rfl) | (simp [*, errW_none, errW_some] <;> rfl), by repeat (first | (with_reducible first | exact HB.out | apply below_alloc | apply pw_below_drewN | apply below_drew1) | exact HB.out)⟩
  ·rw [if_neg c6] at H
   have c6b0 : decide (t102 < 0) = false := decide_eq_false c6
   clear c6
   replace H := Option.bind_eq_some_iff.mp H
   obtain ⟨t103, A70, H⟩ := H
   replace H : ((laws_toBlockS.f k l1).bind fun t106 => ((spec_SetLess.f k t103 t106).bind fun bt109 => ((laws_toBlockS.f k l0).bind fun t113 => ((laws_toBlockS.f k l1).bind fun t116 => ((impl_SetLess.f k t113 t116).bind fun bt119 => ((laws_eqBlockS.f k bt119.1 bt109.1).bind fun t123 => (if t123 = true then (laws_FnExactSetLess.j0 k l0 l1 bt109.1 bt109.2 t113 t116 bt119.1 bt119.2 (bt119.2 != bt109.2)) else (laws_FnExactSetLess.j0 k l0 l1 bt109.1 bt109.2 t113 t116 bt119.1 bt119.2 true)))))))) = some r := H
   have A7 := Aside0.mk A70
   clear A70
   replace H := Option.bind_eq_some_iff.mp H
   obtain ⟨t106, A80, H⟩ := H
   replace H : ((spec_SetLess.f k t103 t106).bind fun bt109 => ((laws_toBlockS.f k l0).bind fun t113 => ((laws_toBlockS.f k l1).bind fun t116 => ((impl_SetLess.f k t113 t116).bind fun bt119 => ((laws_eqBlockS.f k bt119.1 bt109.1).bind fun t123 => (if t123 = true then (laws_FnExactSetLess.j0 k l0 l1 bt109.1 bt109.2 t113 t116 bt119.1 bt119.2 (bt119.2 != bt109.2)) else (laws_FnExactSetLess.j0 k l0 l1 bt109.1 bt109.2 t113 t116 bt119.1 bt119.2 true))))))) = some r := H
   have A8 := Aside0.mk A80
   clear A80
   replace H := Option.bind_eq_some_iff.mp H
   obtain ⟨⟨t109, t110⟩, A90, H⟩ := H
   replace H : ((laws_toBlockS.f k l0).bind fun t113 => ((laws_toBlockS.f k l1).bind fun t116 => ((impl_SetLess.f k t113 t116).bind fun bt119 => ((laws_eqBlockS.f k bt119.1 t109).bind fun t123 => (if t123 = true then (laws_FnExactSetLess.j0 k l0 l1 t109 t110 t113 t116 bt119.1 bt119.2 (bt119.2 != t110)) else (laws_FnExactSetLess.j0 k l0 l1 t109 t110 t113 t116 bt119.1 bt119.2 true)))))) = some r := H
   have A9 := Aside0.mk A90
   clear A90
   replace H := Option.bind_eq_some_iff.mp H
   obtain ⟨t113, A100, H⟩ := H
   replace H : ((laws_toBlockS.f k l1).bind fun t116 => ((impl_SetLess.f k t113 t116).bind fun bt119 => ((laws_eqBlockS.f k bt119.1 t109).bind fun t123 => (if t123 = true then (laws_FnExactSetLess.j0 k l0 l1 t109 t110 t113 t116 bt119.1 bt119.2 (bt119.2 != t110)) else (laws_FnExactSetLess.j0 k l0 l1 t109 t110 t113 t116 bt119.1 bt119.2 true))))) = some r := H
   have A10 := Aside0.mk A100
   clear A100
   replace H := Option.bind_eq_some_iff.mp H
   obtain ⟨t116, A110, H⟩ := H
   replace H : ((impl_SetLess.f k t113 t116).bind fun bt119 => ((laws_eqBlockS.f k bt119.1 t109).bind fun t123 => (if t123 = true then (laws_FnExactSetLess.j0 k l0 l1 t109 t110 t113 t116 bt119.1 bt119.2 (bt119.2 != t110)) else (laws_FnExactSetLess.j0 k l0 l1 t109 t110 t113 t116 bt119.1 bt119.2 true)))) = some r := H
   have A11 := Aside0.mk A110
   clear A110
   replace H := Option.bind_eq_some_iff.mp H
   obtain ⟨⟨t119, t120⟩, A120, H⟩ := H
   replace H : ((laws_eqBlockS.f k t119 t109).bind fun t123 => (if t123 = true then (laws_FnExactSetLess.j0 k l0 l1 t109 t110 t113 t116 t119 t120 (t120 != t110)) else (laws_FnExactSetLess.j0 k l0 l1 t109 t110 t113 t116 t119 t120 true))) = some r := H
   have A12 := Aside0.mk A120
   clear A120
   have HC13 := Aside0.mk H
   clear H
   go_enter Try.func7, Try.ntmps7
   go_upto_region 12 with (first | ((with_reducible refine gate_callee (f := 13) rfl ?_); refine goesL_ (some 19) rfl rfl Try.func13 (by kernel_rfl) rfl #[.slice A0 l0.length c0, .int .i64 1048576] rfl (by (try simp only [List.map_toArray, List.map_cons, List.map_nil]); first | done | rfl | (simp only [List.length_drop, List.length_take]; rfl)) ?_; (with_reducible refine (laws_szBlockS.calls _ _ l0 1048576 t101 _ ?side1 ?side2 A3.out).mono ?_); (case side1 => repeat (first | exact HR0.out | (with_reducible refine Kd.C_alloc ?_ _) | (with_reducible refine Kd.C_drewN ?_ _) | (with_reducible refine Kd.C_drew ?_))); (case side2 => exact HC0.out); rintro e w' ⟨rfl, ⟨nd, rfl⟩⟩; refine ⟨_, rfl, ?_⟩) | ((with_reducible refine gate_callee (f := 13) rfl ?_); refine goesL_ (some 24) rfl rfl Try.func13 (by kernel_rfl) rfl #[.slice A1 l1.length c1, .int .i64 t101] rfl (by (try simp only [List.map_toArray, List.map_cons, List.map_nil]); first | done | rfl | (simp only [List.length_drop, List.length_take]; rfl)) ?_; (with_reducible refine (laws_szBlockS.calls _ _ l1 t101 t102 _ ?side1 ?side2 A5.out).mono ?_); (case side1 => repeat (first | exact HR1.out | (with_reducible refine Kd.C_alloc ?_ _) | (with_reducible refine Kd.C_drewN ?_ _) | (with_reducible refine Kd.C_drew ?_))); (case side2 => exact HC1.out); rintro e w' ⟨rfl, ⟨nd, rfl⟩⟩; refine ⟨_, rfl, ?_⟩) | ((with_reducible refine gate_callee (f := 15) rfl ?_); refine goesL_ (some 29) rfl rfl Try.func15 (by kernel_rfl) rfl #[.slice A0 l0.length c0] rfl (by (try simp only [List.map_toArray, List.map_cons, List.map_nil]); first | done | rfl | (simp only [List.length_drop, List.length_take]; rfl)) ?_; (with_reducible refine (laws_toBlockS.calls k _ _ l0 t103 _ ?side1 ?side2 A7.out).mono ?_); (case side1 => repeat (first | exact HR0.out | (with_reducible refine Kd.C_alloc ?_ _) | (with_reducible refine Kd.C_drewN ?_ _) | (with_reducible refine Kd.C_drew ?_))); (case side2 => exact HC0.out); rintro e w14 ⟨v104, rfl, ho0, hb⟩; refine ⟨_, rfl, ?_⟩; have n0_ := Aside0.mk (Kd.R_lower ho0 (below_size (by repeat (first | (with_reducible first | exact HB.out | apply below_alloc | apply pw_below_drewN | apply below_drew1) | exact HB.out)))); have n1_ := Aside0.mk (below_step (by repeat (first | (with_reducible first | exact HB.out | apply below_alloc | apply pw_below_drewN | apply below_drew1) | exact HB.out)) hb); clear HB; have HO105 := n0_; have HB := n1_; clear n0_ n1_; (try clear hb); (try clear hb2); (try clear hk); (try clear hi); (try clear ho0)) | ((with_reducible refine gate_callee (f := 15) rfl ?_); refine goesL_ (some 31) rfl rfl Try.func15 (by kernel_rfl) rfl #[.slice A1 l1.length c1] rfl (by (try simp only [List.map_toArray, List.map_cons, List.map_nil]); first | done | rfl | (simp only [List.length_drop, List.length_take]; rfl)) ?_; (with_reducible refine (laws_toBlockS.calls k _ _ l1 t106 _ ?side1 ?side2 A8.out).mono ?_); (case side1 => repeat (first | exact (Kd.C_below HR1.out HB.out) | (with_reducible refine Kd.C_alloc ?_ _) | (with_reducible refine Kd.C_drewN ?_ _) | (with_reducible refine Kd.C_drew ?_))); (case side2 => exact HC1.out); rintro e w15 ⟨v107, rfl, ho0, hb⟩; refine ⟨_, rfl, ?_⟩; have n0_ := Aside0.mk (Kd.R_elder' (by (with_reducible repeat (first | apply Kd.R_alloc | apply Kd.R_drewN | apply Kd.R_drew)); exact HO105.out) (Kd.R_base ho0) hb); have n1_ := Aside0.mk (Kd.R_lower (Kd.R_new' ho0 (Kd.R_lt (by (with_reducible repeat (first | apply Kd.R_alloc | apply Kd.R_drewN | apply Kd.R_drew)); exact HO105.out))) (below_size (by repeat (first | (with_reducible first | exact HB.out | apply below_alloc | apply pw_below_drewN | apply below_drew1) | exact HB.out)))); have n2_ := Aside0.mk (below_step (by repeat (first | (with_reducible first | exact HB.out | apply below_alloc | apply pw_below_drewN | apply below_drew1) | exact HB.out)) hb); clear HO105; clear HB; have HO105 := n0_; have HO108 := n1_; have HB := n2_; clear n0_ n1_ n2_; (try clear hb); (try clear hb2); (try clear hk); (try clear hi); (try clear ho0); obtain ⟨Ao16, co16, eo16⟩ := Kd.R_slice HO105.out; subst eo16; obtain ⟨Ao17, co17, eo17⟩ := Kd.R_slice HO108.out; subst eo17) | ((with_reducible refine gate_callee (f := 26) rfl ?_); refine goesL_ (some 32) rfl rfl Try.func26 (by kernel_rfl) rfl #[.slice Ao16 t103.length co16, .slice Ao17 t106.length co17] rfl (by (try simp only [List.map_toArray, List.map_cons, List.map_nil]); first | done | rfl | (simp only [List.length_drop, List.length_take]; rfl)) ?_; (with_reducible refine (spec_SetLess.calls k _ _ t103 _ _ t106 t109 t110 _ ?side1 ?side2 ?side3 ?side4 A9.out).mono ?_); (case side1 => repeat (first | exact (Kd.R_reads' HO105.out).2.2 | (with_reducible refine Kd.C_alloc ?_ _) | (with_reducible refine Kd.C_drewN ?_ _) | (with_reducible refine Kd.C_drew ?_))); (case side2 => exact (Kd.R_reads' HO105.out).2.1); (case side3 => repeat (first | exact (Kd.R_reads' HO108.out).2.2 | (with_reducible refine Kd.C_alloc ?_ _) | (with_reducible refine Kd.C_drewN ?_ _) | (with_reducible refine Kd.C_drew ?_))); (case side4 => exact (Kd.R_reads' HO108.out).2.1); rintro e w18 ⟨v111, rfl, ho0, hb⟩; refine ⟨_, rfl, ?_⟩; have n0_ := Aside0.mk (Kd.R_elder' (by (with_reducible repeat (first | apply Kd.R_alloc | apply Kd.R_drewN | apply Kd.R_drew)); exact HO105.out) (Kd.R_base ho0) hb); have n1_ := Aside0.mk (Kd.R_elder' (by (with_reducible repeat (first | apply Kd.R_alloc | apply Kd.R_drewN | apply Kd.R_drew)); exact HO108.out) (Kd.R_base ho0) hb); have n2_ := Aside0.mk (Kd.R_lower (Kd.R_new' (Kd.R_new' ho0 (Kd.R_lt (by (with_reducible repeat (first | apply Kd.R_alloc | apply Kd.R_drewN | apply Kd.R_drew)); exact HO105.out))) (Kd.R_lt (by (with_reducible repeat (first | apply Kd.R_alloc | apply Kd.R_drewN | apply Kd.R_drew)); exact HO108.out))) (below_size (by repeat (first | (with_reducible first | exact HB.out | apply below_alloc | apply pw_below_drewN | apply below_drew1) | exact HB.out)))); have n3_ := Aside0.mk (below_step (by repeat (first | (with_reducible first | exact HB.out | apply below_alloc | apply pw_below_drewN | apply below_drew1) | exact HB.out)) hb); clear HO105; clear HO108; clear HB; have HO105 := n0_; have HO108 := n1_; have HO112 := n2_; have HB := n3_; clear n0_ n1_ n2_ n3_; (try clear hb); (try clear hb2); (try clear hk); (try clear hi); (try clear ho0)) | ((with_reducible refine gate_callee (f := 15) rfl ?_); refine goesL_ (some 36) rfl rfl Try.func15 (by kernel_rfl) rfl #[.slice A0 l0.length c0] rfl (by (try simp only [List.map_toArray, List.map_cons, List.map_nil]); first | done | rfl | (simp only [List.length_drop, List.length_take]; rfl)) ?_; (with_reducible refine (laws_toBlockS.calls k _ _ l0 t113 _ ?side1 ?side2 A10.out).mono ?_); (case side1 => repeat (first | exact (Kd.C_below HR0.out HB.out) | (with_reducible refine Kd.C_alloc ?_ _) | (with_reducible refine Kd.C_drewN ?_ _) | (with_reducible refine Kd.C_drew ?_))); (case side2 => exact HC0.out); rintro e w19 ⟨v114, rfl, ho0, hb⟩; refine ⟨_, rfl, ?_⟩; have n0_ := Aside0.mk (Kd.R_elder' (by (with_reducible repeat (first | apply Kd.R_alloc | apply Kd.R_drewN | apply Kd.R_drew)); exact HO105.out) (Kd.R_base ho0) hb); have n1_ := Aside0.mk (Kd.R_elder' (by (with_reducible repeat (first | apply Kd.R_alloc | apply Kd.R_drewN | apply Kd.R_drew)); exact HO108.out) (Kd.R_base ho0) hb); have n2_ := Aside0.mk (Kd.R_elder' (by (with_reducible repeat (first | apply Kd.R_alloc | apply Kd.R_drewN | apply Kd.R_drew)); exact HO112.out) (Kd.R_base ho0) hb); have n3_ := Aside0.mk (Kd.R_lower (Kd.R_new' (Kd.R_new' (Kd.R_new' ho0 (Kd.R_lt (by (with_reducible repeat (first | apply Kd.R_alloc | apply Kd.R_drewN | apply Kd.R_drew)); exact HO105.out))) (Kd.R_lt (by (with_reducible repeat (first | apply Kd.R_alloc | apply Kd.R_drewN | apply Kd.R_drew)); exact HO108.out))) (Kd.R_lt (by (with_reducible repeat (first | apply Kd.R_alloc | apply Kd.R_drewN | apply Kd.R_drew)); exact HO112.out))) (below_size (by repeat (first | (with_reducible first | exact HB.out | apply below_alloc | apply pw_below_drewN | apply below_drew1) | exact HB.out)))); have n4_ := Aside0.mk (below_step (by repeat (first | (with_reducible first | exact HB.out | apply below_alloc | apply pw_below_drewN | apply below_drew1) | exact HB.out)) hb); clear HO105; clear HO108; clear HO112; clear HB; have HO105 := n0_; have HO108 := n1_; have HO112 := n2_; have HO115 := n3_; have HB := n4_; clear n0_ n1_ n2_ n3_ n4_; (try clear hb); (try clear hb2); (try clear hk); (try clear hi); (try clear ho0)) | ((with_reducible refine gate_callee (f := 15) rfl ?_); refine goesL_ (some 38) rfl rfl Try.func15 (by kernel_rfl) rfl #[.slice A1 l1.length c1] rfl (by (try simp only [List.map_toArray, List.map_cons, List.map_nil]); first | done | rfl | (simp only [List.length_drop, List.length_take]; rfl)) ?_; (with_reducible refine (laws_toBlockS.calls k _ _ l1 t116 _ ?side1 ?side2 A11.out).mono ?_); (case side1 => repeat (first | exact (Kd.C_below HR1.out HB.out) | (with_reducible refine Kd.C_alloc ?_ _) | (with_reducible refine Kd.C_drewN ?_ _) | (with_reducible refine Kd.C_drew ?_))); (case side2 => exact HC1.out); rintro e w20 ⟨v117, rfl, ho0, hb⟩; refine ⟨_, rfl, ?_⟩; have n0_ := Aside0.mk (Kd.R_elder' (by (with_reducible repeat (first | apply Kd.R_alloc | apply Kd.R_drewN | apply Kd.R_drew)); exact HO105.out) (Kd.R_base ho0) hb); have n1_ := Aside0.mk (Kd.R_elder' (by (with_reducible repeat (first | apply Kd.R_alloc | apply Kd.R_drewN | apply Kd.R_drew)); exact HO108.out) (Kd.R_base ho0) hb); have n2_ := Aside0.mk (Kd.R_elder' (by (with_reducible repeat (first | apply Kd.R_alloc | apply Kd.R_drewN | apply Kd.R_drew)); exact HO112.out) (Kd.R_base ho0) hb); have n3_ := Aside0.mk (Kd.R_elder' (by (with_reducible repeat (first | apply Kd.R_alloc | apply Kd.R_drewN | apply Kd.R_drew)); exact HO115.out) (Kd.R_base ho0) hb); have n4_ := Aside0.mk (Kd.R_lower (Kd.R_new' (Kd.R_new' (Kd.R_new' (Kd.R_new' ho0 (Kd.R_lt (by (with_reducible repeat (first | apply Kd.R_alloc | apply Kd.R_drewN | apply Kd.R_drew)); exact HO105.out))) (Kd.R_lt (by (with_reducible repeat (first | apply Kd.R_alloc | apply Kd.R_drewN | apply Kd.R_drew)); exact HO108.out))) (Kd.R_lt (by (with_reducible repeat (first | apply Kd.R_alloc | apply Kd.R_drewN | apply Kd.R_drew)); exact HO112.out))) (Kd.R_lt (by (with_reducible repeat (first | apply Kd.R_alloc | apply Kd.R_drewN | apply Kd.R_drew)); exact HO115.out))) (below_size (by repeat (first | (with_reducible first | exact HB.out | apply below_alloc | apply pw_below_drewN | apply below_drew1) | exact HB.out)))); have n5_ := Aside0.mk (below_step (by repeat (first | (with_reducible first | exact HB.out | apply below_alloc | apply pw_below_drewN | apply below_drew1) | exact HB.out)) hb); clear HO105; clear HO108; clear HO112; clear HO115; clear HB; have HO105 := n0_; have HO108 := n1_; have HO112 := n2_; have HO115 := n3_; have HO118 := n4_; have HB := n5_; clear n0_ n1_ n2_ n3_ n4_ n5_; (try clear hb); (try clear hb2); (try clear hk); (try clear hi); (try clear ho0); obtain ⟨Ao21, co21, eo21⟩ := Kd.R_slice HO115.out; subst eo21; obtain ⟨Ao22, co22, eo22⟩ := Kd.R_slice HO118.out; subst eo22) | ((with_reducible refine gate_callee (f := 27) rfl ?_); refine goesL_ (some 42) rfl rfl Try.func27 (by kernel_rfl) rfl #[.slice Ao21 t113.length co21, .slice Ao22 t116.length co22] rfl (by (try simp only [List.map_toArray, List.map_cons, List.map_nil]); first | done | rfl | (simp only [List.length_drop, List.length_take]; rfl)) ?_; (with_reducible refine (impl_SetLess.calls k _ _ t113 _ _ t116 t119 t120 _ ?side1 ?side2 ?side3 ?side4 A12.out).mono ?_); (case side1 => repeat (first | exact (Kd.R_reads' HO115.out).2.2 | (with_reducible refine Kd.C_alloc ?_ _) | (with_reducible refine Kd.C_drewN ?_ _) | (with_reducible refine Kd.C_drew ?_))); (case side2 => exact (Kd.R_reads' HO115.out).2.1); (case side3 => repeat (first | exact (Kd.R_reads' HO118.out).2.2 | (with_reducible refine Kd.C_alloc ?_ _) | (with_reducible refine Kd.C_drewN ?_ _) | (with_reducible refine Kd.C_drew ?_))); (case side4 => exact (Kd.R_reads' HO118.out).2.1); rintro e w23 ⟨v121, rfl, ho0, hb⟩; refine ⟨_, rfl, ?_⟩; have n0_ := Aside0.mk (Kd.R_elder' (by (with_reducible repeat (first | apply Kd.R_alloc | apply Kd.R_drewN | apply Kd.R_drew)); exact HO105.out) (Kd.R_base ho0) hb); have n1_ := Aside0.mk (Kd.R_elder' (by (with_reducible repeat (first | apply Kd.R_alloc | apply Kd.R_drewN | apply Kd.R_drew)); exact HO108.out) (Kd.R_base ho0) hb); have n2_ := Aside0.mk (Kd.R_elder' (by (with_reducible repeat (first | apply Kd.R_alloc | apply Kd.R_drewN | apply Kd.R_drew)); exact HO112.out) (Kd.R_base ho0) hb); have n3_ := Aside0.mk (Kd.R_elder' (by (with_reducible repeat (first | apply Kd.R_alloc | apply Kd.R_drewN | apply Kd.R_drew)); exact HO115.out) (Kd.R_base ho0) hb); have n4_ := Aside0.mk (Kd.R_elder' (by (with_reducible repeat (first | apply Kd.R_alloc | apply Kd.R_drewN | apply Kd.R_drew)); exact HO118.out) (Kd.R_base ho0) hb); have n5_ := Aside0.mk (Kd.R_lower (Kd.R_new' (Kd.R_new' (Kd.R_new' (Kd.R_new' (Kd.R_new' ho0 (Kd.R_lt (by (with_reducible repeat (first | apply Kd.R_alloc | apply Kd.R_drewN | apply Kd.R_drew)); exact HO105.out))) (Kd.R_lt (by (with_reducible repeat (first | apply Kd.R_alloc | apply Kd.R_drewN | apply Kd.R_drew)); exact HO108.out))) (Kd.R_lt (by (with_reducible repeat (first | apply Kd.R_alloc | apply Kd.R_drewN | apply Kd.R_drew)); exact HO112.out))) (Kd.R_lt (by (with_reducible repeat (first | apply Kd.R_alloc | apply Kd.R_drewN | apply Kd.R_drew)); exact HO115.out))) (Kd.R_lt (by (with_reducible repeat (first | apply Kd.R_alloc | apply Kd.R_drewN | apply Kd.R_drew)); exact HO118.out))) (below_size (by repeat (first | (with_reducible first | exact HB.out | apply below_alloc | apply pw_below_drewN | apply below_drew1) | exact HB.out)))); have n6_ := Aside0.mk (below_step (by repeat (first | (with_reducible first | exact HB.out | apply below_alloc | apply pw_below_drewN | apply below_drew1) | exact HB.out)) hb); clear HO105; clear HO108; clear HO112; clear HO115; clear HO118; clear HB; have HO105 := n0_; have HO108 := n1_; have HO112 := n2_; have HO115 := n3_; have HO118 := n4_; have HO122 := n5_; have HB := n6_; clear n0_ n1_ n2_ n3_ n4_ n5_ n6_; (try clear hb); (try clear hb2); (try clear hk); (try clear hi); (try clear ho0)))
   (try simp only [Act.put, List.setIfInBounds_toArray, List.set_cons_zero, List.set_cons_succ])
   go_cut [53] (fun v53 wc => ∃ (kq : Nat) (x53_12 : Bool), v53 = .bool x53_12 ∧ Aside0 (laws_FnExactSetLess.j0 kq l0 l1 t109 t110 t113 t116 t119 t120 x53_12 = some r) ∧ Aside0 (kq ≤ k) ∧ Aside0 (Kd.R k44 44 wc w.heap.size (fun k_ => some k_ ≠ ((.slice Ao21 t113.length co21) : Value).ownBlock ∧ some k_ ≠ ((.slice Ao22 t116.length co22) : Value).ownBlock ∧ some k_ ≠ (v121 : Value).ownBlock) v111 t109) ∧ Aside0 (Kd.R k44 44 wc w.heap.size (fun k_ => some k_ ≠ (v111 : Value).ownBlock ∧ some k_ ≠ ((.slice Ao22 t116.length co22) : Value).ownBlock ∧ some k_ ≠ (v121 : Value).ownBlock) (.slice Ao21 t113.length co21) t113) ∧ Aside0 (Kd.R k44 44 wc w.heap.size (fun k_ => some k_ ≠ (v111 : Value).ownBlock ∧ some k_ ≠ ((.slice Ao21 t113.length co21) : Value).ownBlock ∧ some k_ ≠ (v121 : Value).ownBlock) (.slice Ao22 t116.length co22) t116) ∧ Aside0 (Kd.R k44 44 wc w.heap.size (fun k_ => some k_ ≠ (v111 : Value).ownBlock ∧ some k_ ≠ ((.slice Ao21 t113.length co21) : Value).ownBlock ∧ some k_ ≠ ((.slice Ao22 t116.length co22) : Value).ownBlock) v121 t119) ∧ Aside0 (Below w.heap.size w wc))
   case first =>
    have H := HC13.out
    clear HC13
    replace H := Option.bind_eq_some_iff.mp H
    obtain ⟨t123, A240, H⟩ := H
    replace H : (if t123 = true then (laws_FnExactSetLess.j0 k l0 l1 t109 t110 t113 t116 t119 t120 (t120 != t110)) else (laws_FnExactSetLess.j0 k l0 l1 t109 t110 t113 t116 t119 t120 true)) = some r := H
    have A24 := Aside0.mk A240
    clear A240
    by_cases c25 : t123 = true
    ·subst c25
     have H1 : (laws_FnExactSetLess.j0 k l0 l1 t109 t110 t113 t116 t119 t120 (t120 != t110)) = some r := by rw [if_pos rfl] at H; exact H
     clear H
     have H := H1
     clear H1
     have H' := Aside0.mk H
     clear H
     obtain ⟨Ao26, co26, eo26⟩ := Kd.R_slice HO122.out
     subst eo26
     obtain ⟨Ao27, co27, eo27⟩ := Kd.R_slice HO112.out
     subst eo27
     go_wp2_with (first | ((with_reducible refine gate_callee (f := 17) rfl ?_); refine goesL_ (some 47) rfl rfl Try.func17 (by kernel_rfl) rfl #[.slice Ao26 t119.length co26, .slice Ao27 t109.length co27] rfl (by (try simp only [List.map_toArray, List.map_cons, List.map_nil]); first | done | rfl | (simp only [List.length_drop, List.length_take]; rfl)) ?_; (with_reducible refine (laws_eqBlockS.calls k _ _ t119 _ _ t109 true _ ?side1 ?side2 ?side3 ?side4 A24.out).mono ?_); (case side1 => repeat (first | exact (Kd.R_reads' HO122.out).2.2 | (with_reducible refine Kd.C_alloc ?_ _) | (with_reducible refine Kd.C_drewN ?_ _) | (with_reducible refine Kd.C_drew ?_))); (case side2 => exact (Kd.R_reads' HO122.out).2.1); (case side3 => repeat (first | exact (Kd.R_reads' HO112.out).2.2 | (with_reducible refine Kd.C_alloc ?_ _) | (with_reducible refine Kd.C_drewN ?_ _) | (with_reducible refine Kd.C_drew ?_))); (case side4 => exact (Kd.R_reads' HO112.out).2.1); rintro e w28 ⟨rfl, hb⟩; refine ⟨_, rfl, ?_⟩; have n0_ := Aside0.mk (Kd.R_below (by (with_reducible repeat (first | apply Kd.R_alloc | apply Kd.R_drewN | apply Kd.R_drew)); exact HO105.out) hb); have n1_ := Aside0.mk (Kd.R_below (by (with_reducible repeat (first | apply Kd.R_alloc | apply Kd.R_drewN | apply Kd.R_drew)); exact HO108.out) hb); have n2_ := Aside0.mk (Kd.R_below (by (with_reducible repeat (first | apply Kd.R_alloc | apply Kd.R_drewN | apply Kd.R_drew)); exact HO112.out) hb); have n3_ := Aside0.mk (Kd.R_below (by (with_reducible repeat (first | apply Kd.R_alloc | apply Kd.R_drewN | apply Kd.R_drew)); exact HO115.out) hb); have n4_ := Aside0.mk (Kd.R_below (by (with_reducible repeat (first | apply Kd.R_alloc | apply Kd.R_drewN | apply Kd.R_drew)); exact HO118.out) hb); have n5_ := Aside0.mk (Kd.R_below (by (with_reducible repeat (first | apply Kd.R_alloc | apply Kd.R_drewN | apply Kd.R_drew)); exact HO122.out) hb); have n6_ := Aside0.mk (below_step (by repeat (first | (with_reducible first | exact HB.out | apply below_alloc | apply pw_below_drewN | apply below_drew1) | exact HB.out)) hb); clear HO105; clear HO108; clear HO112; clear HO115; clear HO118; clear HO122; clear HB; have HO105 := n0_; have HO108 := n1_; have HO112 := n2_; have HO115 := n3_; have HO118 := n4_; have HO122 := n5_; have HB := n6_; clear n0_ n1_ n2_ n3_ n4_ n5_ n6_; (try clear hb); (try clear hb2); (try clear hk); (try clear hi)))
     go_meet
     case rel => exact ⟨_, ((t120 != t110)), (by first | rfl | (simp; done) | (simp [*]; done)), H', ⟨by first | omega | exact Nat.le_refl _⟩, ⟨by (with_reducible repeat (first | apply Kd.R_alloc | apply Kd.R_drewN | apply Kd.R_drew)); exact Kd.R_mono HO112.out (fun _ hk => ⟨hk.1.1.2, ⟨hk.1.2, hk.2⟩⟩)⟩, ⟨by (with_reducible repeat (first | apply Kd.R_alloc | apply Kd.R_drewN | apply Kd.R_drew)); exact Kd.R_mono HO115.out (fun _ hk => ⟨hk.1.1.2, ⟨hk.1.2, hk.2⟩⟩)⟩, ⟨by (with_reducible repeat (first | apply Kd.R_alloc | apply Kd.R_drewN | apply Kd.R_drew)); exact Kd.R_mono HO118.out (fun _ hk => ⟨hk.1.1.2, ⟨hk.1.2, hk.2⟩⟩)⟩, ⟨by (with_reducible repeat (first | apply Kd.R_alloc | apply Kd.R_drewN | apply Kd.R_drew)); exact Kd.R_mono HO122.out (fun _ hk => ⟨hk.1.1.2, ⟨hk.1.2, hk.2⟩⟩)⟩, ⟨by repeat (first | (with_reducible first | exact HB.out | apply below_alloc | apply pw_below_drewN | apply below_drew1) | exact HB.out)⟩⟩
    ·replace c25 := Bool.eq_false_iff.mpr c25
     subst c25
     have H1 : (laws_FnExactSetLess.j0 k l0 l1 t109 t110 t113 t116 t119 t120 true) = some r := by rw [if_neg (show ¬ (false = true) by decide)] at H; exact H
     clear H
     have H := H1
     clear H1
     have H' := Aside0.mk H
     clear H
     obtain ⟨Ao29, co29, eo29⟩ := Kd.R_slice HO122.out
     subst eo29
     obtain ⟨Ao30, co30, eo30⟩ := Kd.R_slice HO112.out
     subst eo30
     go_wp2_with (first | ((with_reducible refine gate_callee (f := 17) rfl ?_); refine goesL_ (some 47) rfl rfl Try.func17 (by kernel_rfl) rfl #[.slice Ao29 t119.length co29, .slice Ao30 t109.length co30] rfl (by (try simp only [List.map_toArray, List.map_cons, List.map_nil]); first | done | rfl | (simp only [List.length_drop, List.length_take]; rfl)) ?_; (with_reducible refine (laws_eqBlockS.calls k _ _ t119 _ _ t109 false _ ?side1 ?side2 ?side3 ?side4 A24.out).mono ?_); (case side1 => repeat (first | exact (Kd.R_reads' HO122.out).2.2 | (with_reducible refine Kd.C_alloc ?_ _) | (with_reducible refine Kd.C_drewN ?_ _) | (with_reducible refine Kd.C_drew ?_))); (case side2 => exact (Kd.R_reads' HO122.out).2.1); (case side3 => repeat (first | exact (Kd.R_reads' HO112.out).2.2 | (with_reducible refine Kd.C_alloc ?_ _) | (with_reducible refine Kd.C_drewN ?_ _) | (with_reducible refine Kd.C_drew ?_))); (case side4 => exact (Kd.R_reads' HO112.out).2.1); rintro e w31 ⟨rfl, hb⟩; refine ⟨_, rfl, ?_⟩; have n0_ := Aside0.mk (Kd.R_below (by (with_reducible repeat (first | apply Kd.R_alloc | apply Kd.R_drewN | apply Kd.R_drew)); exact HO105.out) hb); have n1_ := Aside0.mk (Kd.R_below (by (with_reducible repeat (first | apply Kd.R_alloc | apply Kd.R_drewN | apply Kd.R_drew)); exact HO108.out) hb); have n2_ := Aside0.mk (Kd.R_below (by (with_reducible repeat (first | apply Kd.R_alloc | apply Kd.R_drewN | apply Kd.R_drew)); exact HO112.out) hb); have n3_ := Aside0.mk (Kd.R_below (by (with_reducible repeat (first | apply Kd.R_alloc | apply Kd.R_drewN | apply Kd.R_drew)); exact HO115.out) hb); have n4_ := Aside0.mk (Kd.R_below (by (with_reducible repeat (first | apply Kd.R_alloc | apply Kd.R_drewN | apply Kd.R_drew)); exact HO118.out) hb); have n5_ := Aside0.mk (Kd.R_below (by (with_reducible repeat (first | apply Kd.R_alloc | apply Kd.R_drewN | apply Kd.R_drew)); exact HO122.out) hb); have n6_ := Aside0.mk (below_step (by repeat (first | (with_reducible first | exact HB.out | apply below_alloc | apply pw_below_drewN | apply below_drew1) | exact HB.out)) hb); clear HO105; clear HO108; clear HO112; clear HO115; clear HO118; clear HO122; clear HB; have HO105 := n0_; have HO108 := n1_; have HO112 := n2_; have HO115 := n3_; have HO118 := n4_; have HO122 := n5_; have HB := n6_; clear n0_ n1_ n2_ n3_ n4_ n5_ n6_; (try clear hb); (try clear hb2); (try clear hk); (try clear hi)))
     go_meet
     case rel => exact ⟨_, (true), (by first | rfl | (simp; done) | (simp [*]; done)), H', ⟨by first | omega | exact Nat.le_refl _⟩, ⟨by (with_reducible repeat (first | apply Kd.R_alloc | apply Kd.R_drewN | apply Kd.R_drew)); exact Kd.R_mono HO112.out (fun _ hk => ⟨hk.1.1.2, ⟨hk.1.2, hk.2⟩⟩)⟩, ⟨by (with_reducible repeat (first | apply Kd.R_alloc | apply Kd.R_drewN | apply Kd.R_drew)); exact Kd.R_mono HO115.out (fun _ hk => ⟨hk.1.1.2, ⟨hk.1.2, hk.2⟩⟩)⟩, ⟨by (with_reducible repeat (first | apply Kd.R_alloc | apply Kd.R_drewN | apply Kd.R_drew)); exact Kd.R_mono HO118.out (fun _ hk => ⟨hk.1.1.2, ⟨hk.1.2, hk.2⟩⟩)⟩, ⟨by (with_reducible repeat (first | apply Kd.R_alloc | apply Kd.R_drewN | apply Kd.R_drew)); exact Kd.R_mono HO122.out (fun _ hk => ⟨hk.1.1.2, ⟨hk.1.2, hk.2⟩⟩)⟩, ⟨by repeat (first | (with_reducible first | exact HB.out | apply below_alloc | apply pw_below_drewN | apply below_drew1) | exact HB.out)⟩⟩
   case rest =>
    clear HC13
    try clear c1
    try clear c2
    try clear p2
    try clear c4
    try clear c4b0
    try clear c6
    try clear c6b0
    try clear c7
    try clear c13
    try clear c15
    try clear c17
    try clear c25
    try clear c26
    try clear c27
    obtain ⟨kq, x53_12, rfl, HA, HJ12, HO_6, HO_8, HO_9, HO_10, HB⟩ := hcut
    cases kq with
    | zero => exact absurd HA.out (by simp [laws_FnExactSetLess.j0])
    | succ kj12 =>
     have H := HA.out
     clear HA
     simp only [laws_FnExactSetLess.j0] at H
     by_cases c32 : x53_12 = true
     ·subst c32
      have H1 : (some false) = some r := by rw [if_pos rfl] at H; exact H
      clear H
      have H := H1
      clear H1
      obtain rfl := Option.some.inj H
      go_wp2
      go_ret
      exact ⟨by first | rfl | (simp [errW_none, errW_some] <;> rfl) | (simp [*, errW_none, errW_some] <;> rfl), by repeat (first | (with_reducible first | exact HB.out | apply below_alloc | apply pw_below_drewN | apply below_drew1) | exact HB.out)⟩
     ·replace c32 := Bool.eq_false_iff.mpr c32
      subst c32
      have H1 : ((laws_toBlockS.f kj12 l0).bind fun t124 => ((laws_eqBlockS.f kj12 t113 t124).bind fun t127 => (if t127 = true then ((laws_toBlockS.f kj12 l1).bind fun t128 => ((laws_eqBlockS.f kj12 t116 t128).bind fun t131 => (if t131 = true then ((laws_markBlockS.f kj12 t113 1).bind fun bt132 => ((laws_markBlockS.f kj12 t116 bt132.1).bind fun bt134 => (if bt134.1 < 0 then (laws_FnExactSetLess.j1 kj12 l0 l1 t109 t110 t119 true) else ((laws_eqBlockS.f kj12 t119 t109).bind fun t136 => (if t136 = true then (laws_FnExactSetLess.j1 kj12 l0 l1 t109 t110 t119 (t120 != t110)) else (laws_FnExactSetLess.j1 kj12 l0 l1 t109 t110 t119 true)))))) else (some false)))) else (some false)))) = some r := by rw [if_neg (show ¬ (false = true) by decide)] at H; exact H
      clear H
      have H := H1
      clear H1
      replace H := Option.bind_eq_some_iff.mp H
      obtain ⟨t124, A330, H⟩ := H
      replace H : ((laws_eqBlockS.f kj12 t113 t124).bind fun t127 => (if t127 = true then ((laws_toBlockS.f kj12 l1).bind fun t128 => ((laws_eqBlockS.f kj12 t116 t128).bind fun t131 => (if t131 = true then ((laws_markBlockS.f kj12 t113 1).bind fun bt132 => ((laws_markBlockS.f kj12 t116 bt132.1).bind fun bt134 => (if bt134.1 < 0 then (laws_FnExactSetLess.j1 kj12 l0 l1 t109 t110 t119 true) else ((laws_eqBlockS.f kj12 t119 t109).bind fun t136 => (if t136 = true then (laws_FnExactSetLess.j1 kj12 l0 l1 t109 t110 t119 (t120 != t110)) else (laws_FnExactSetLess.j1 kj12 l0 l1 t109 t110 t119 true)))))) else (some false)))) else (some false))) = some r := H
      have A33 := Aside0.mk A330
      clear A330
      replace H := Option.bind_eq_some_iff.mp H
      obtain ⟨t127, A340, H⟩ := H
      replace H : (if t127 = true then ((laws_toBlockS.f kj12 l1).bind fun t128 => ((laws_eqBlockS.f kj12 t116 t128).bind fun t131 => (if t131 = true then ((laws_markBlockS.f kj12 t113 1).bind fun bt132 => ((laws_markBlockS.f kj12 t116 bt132.1).bind fun bt134 => (if bt134.1 < 0 then (laws_FnExactSetLess.j1 kj12 l0 l1 t109 t110 t119 true) else ((laws_eqBlockS.f kj12 t119 t109).bind fun t136 => (if t136 = true then (laws_FnExactSetLess.j1 kj12 l0 l1 t109 t110 t119 (t120 != t110)) else (laws_FnExactSetLess.j1 kj12 l0 l1 t109 t110 t119 true)))))) else (some false)))) else (some false)) = some r := H
      have A34 := Aside0.mk A340
      clear A340
      by_cases c35 : t127 = true
      ·subst c35
       have H1 : ((laws_toBlockS.f kj12 l1).bind fun t128 => ((laws_eqBlockS.f kj12 t116 t128).bind fun t131 => (if t131 = true then ((laws_markBlockS.f kj12 t113 1).bind fun bt132 => ((laws_markBlockS.f kj12 t116 bt132.1).bind fun bt134 => (if bt134.1 < 0 then (laws_FnExactSetLess.j1 kj12 l0 l1 t109 t110 t119 true) else ((laws_eqBlockS.f kj12 t119 t109).bind fun t136 => (if t136 = true then (laws_FnExactSetLess.j1 kj12 l0 l1 t109 t110 t119 (t120 != t110)) else (laws_FnExactSetLess.j1 kj12 l0 l1 t109 t110 t119 true)))))) else (some false)))) = some r := by rw [if_pos rfl] at H; exact H
       clear H
       have H := H1
       clear H1
       replace H := Option.bind_eq_some_iff.mp H
       obtain ⟨t128, A360, H⟩ := H
       replace H : ((laws_eqBlockS.f kj12 t116 t128).bind fun t131 => (if t131 = true then ((laws_markBlockS.f kj12 t113 1).bind fun bt132 => ((laws_markBlockS.f kj12 t116 bt132.1).bind fun bt134 => (if bt134.1 < 0 then (laws_FnExactSetLess.j1 kj12 l0 l1 t109 t110 t119 true) else ((laws_eqBlockS.f kj12 t119 t109).bind fun t136 => (if t136 = true then (laws_FnExactSetLess.j1 kj12 l0 l1 t109 t110 t119 (t120 != t110)) else (laws_FnExactSetLess.j1 kj12 l0 l1 t109 t110 t119 true)))))) else (some false))) = some r := H
       have A36 := Aside0.mk A360
       clear A360
       replace H := Option.bind_eq_some_iff.mp H
       obtain ⟨t131, A370, H⟩ := H
       replace H : (if t131 = true then ((laws_markBlockS.f kj12 t113 1).bind fun bt132 => ((laws_markBlockS.f kj12 t116 bt132.1).bind fun bt134 => (if bt134.1 < 0 then (laws_FnExactSetLess.j1 kj12 l0 l1 t109 t110 t119 true) else ((laws_eqBlockS.f kj12 t119 t109).bind fun t136 => (if t136 = true then (laws_FnExactSetLess.j1 kj12 l0 l1 t109 t110 t119 (t120 != t110)) else (laws_FnExactSetLess.j1 kj12 l0 l1 t109 t110 t119 true)))))) else (some false)) = some r := H
       have A37 := Aside0.mk A370
       clear A370
       by_cases c38 : t131 = true
       ·subst c38
        have H1 : ((laws_markBlockS.f kj12 t113 1).bind fun bt132 => ((laws_markBlockS.f kj12 t116 bt132.1).bind fun bt134 => (if bt134.1 < 0 then (laws_FnExactSetLess.j1 kj12 l0 l1 t109 t110 t119 true) else ((laws_eqBlockS.f kj12 t119 t109).bind fun t136 => (if t136 = true then (laws_FnExactSetLess.j1 kj12 l0 l1 t109 t110 t119 (t120 != t110)) else (laws_FnExactSetLess.j1 kj12 l0 l1 t109 t110 t119 true)))))) = some r := by rw [if_pos rfl] at H; exact H
        clear H
        have H := H1
        clear H1
        replace H := Option.bind_eq_some_iff.mp H
        obtain ⟨⟨t132, t133⟩, A390, H⟩ := H
        replace H : ((laws_markBlockS.f kj12 t116 t132).bind fun bt134 => (if bt134.1 < 0 then (laws_FnExactSetLess.j1 kj12 l0 l1 t109 t110 t119 true) else ((laws_eqBlockS.f kj12 t119 t109).bind fun t136 => (if t136 = true then (laws_FnExactSetLess.j1 kj12 l0 l1 t109 t110 t119 (t120 != t110)) else (laws_FnExactSetLess.j1 kj12 l0 l1 t109 t110 t119 true))))) = some r := H
        have A39 := Aside0.mk A390
        clear A390
        replace H := Option.bind_eq_some_iff.mp H
        obtain ⟨⟨t134, t135⟩, A400, H⟩ := H
        replace H : (if t134 < 0 then (laws_FnExactSetLess.j1 kj12 l0 l1 t109 t110 t119 true) else ((laws_eqBlockS.f kj12 t119 t109).bind fun t136 => (if t136 = true then (laws_FnExactSetLess.j1 kj12 l0 l1 t109 t110 t119 (t120 != t110)) else (laws_FnExactSetLess.j1 kj12 l0 l1 t109 t110 t119 true)))) = some r := H
        have A40 := Aside0.mk A400
        clear A400
        have HC41 := Aside0.mk H
        clear H
        go_upto_region 21 with (first | ((with_reducible refine gate_callee (f := 15) rfl ?_); refine goesL_ (some 56) rfl rfl Try.func15 (by kernel_rfl) rfl #[.slice A0 l0.length c0] rfl (by (try simp only [List.map_toArray, List.map_cons, List.map_nil]); first | done | rfl | (simp only [List.length_drop, List.length_take]; rfl)) ?_; (with_reducible refine (laws_toBlockS.calls kj12 _ _ l0 t124 _ ?side1 ?side2 A33.out).mono ?_); (case side1 => repeat (first | exact (Kd.C_below HR0.out HB.out) | (with_reducible refine Kd.C_alloc ?_ _) | (with_reducible refine Kd.C_drewN ?_ _) | (with_reducible refine Kd.C_drew ?_))); (case side2 => exact HC0.out); rintro e w42 ⟨v125, rfl, ho0, hb⟩; refine ⟨_, rfl, ?_⟩; have n0_ := Aside0.mk (Kd.R_elder' (by (with_reducible repeat (first | apply Kd.R_alloc | apply Kd.R_drewN | apply Kd.R_drew)); exact HO_6.out) (Kd.R_base ho0) hb); have n1_ := Aside0.mk (Kd.R_elder' (by (with_reducible repeat (first | apply Kd.R_alloc | apply Kd.R_drewN | apply Kd.R_drew)); exact HO_8.out) (Kd.R_base ho0) hb); have n2_ := Aside0.mk (Kd.R_elder' (by (with_reducible repeat (first | apply Kd.R_alloc | apply Kd.R_drewN | apply Kd.R_drew)); exact HO_9.out) (Kd.R_base ho0) hb); have n3_ := Aside0.mk (Kd.R_elder' (by (with_reducible repeat (first | apply Kd.R_alloc | apply Kd.R_drewN | apply Kd.R_drew)); exact HO_10.out) (Kd.R_base ho0) hb); have n4_ := Aside0.mk (Kd.R_lower (Kd.R_new' (Kd.R_new' (Kd.R_new' (Kd.R_new' ho0 (Kd.R_lt (by (with_reducible repeat (first | apply Kd.R_alloc | apply Kd.R_drewN | apply Kd.R_drew)); exact HO_6.out))) (Kd.R_lt (by (with_reducible repeat (first | apply Kd.R_alloc | apply Kd.R_drewN | apply Kd.R_drew)); exact HO_8.out))) (Kd.R_lt (by (with_reducible repeat (first | apply Kd.R_alloc | apply Kd.R_drewN | apply Kd.R_drew)); exact HO_9.out))) (Kd.R_lt (by (with_reducible repeat (first | apply Kd.R_alloc | apply Kd.R_drewN | apply Kd.R_drew)); exact HO_10.out))) (below_size (by repeat (first | (with_reducible first | exact HB.out | apply below_alloc | apply pw_below_drewN | apply below_drew1) | exact HB.out)))); have n5_ := Aside0.mk (below_step (by repeat (first | (with_reducible first | exact HB.out | apply below_alloc | apply pw_below_drewN | apply below_drew1) | exact HB.out)) hb); clear HO_6; clear HO_8; clear HO_9; clear HO_10; clear HB; have HO_6 := n0_; have HO_8 := n1_; have HO_9 := n2_; have HO_10 := n3_; have HO126 := n4_; have HB := n5_; clear n0_ n1_ n2_ n3_ n4_ n5_; (try clear hb); (try clear hb2); (try clear hk); (try clear hi); (try clear ho0); obtain ⟨Ao43, co43, eo43⟩ := Kd.R_slice HO126.out; subst eo43) | ((with_reducible refine gate_callee (f := 17) rfl ?_); refine goesL_ (some 57) rfl rfl Try.func17 (by kernel_rfl) rfl #[.slice Ao21 t113.length co21, .slice Ao43 t124.length co43] rfl (by (try simp only [List.map_toArray, List.map_cons, List.map_nil]); first | done | rfl | (simp only [List.length_drop, List.length_take]; rfl)) ?_; (with_reducible refine (laws_eqBlockS.calls kj12 _ _ t113 _ _ t124 true _ ?side1 ?side2 ?side3 ?side4 A34.out).mono ?_); (case side1 => repeat (first | exact (Kd.R_reads' HO_8.out).2.2 | (with_reducible refine Kd.C_alloc ?_ _) | (with_reducible refine Kd.C_drewN ?_ _) | (with_reducible refine Kd.C_drew ?_))); (case side2 => exact (Kd.R_reads' HO_8.out).2.1); (case side3 => repeat (first | exact (Kd.R_reads' HO126.out).2.2 | (with_reducible refine Kd.C_alloc ?_ _) | (with_reducible refine Kd.C_drewN ?_ _) | (with_reducible refine Kd.C_drew ?_))); (case side4 => exact (Kd.R_reads' HO126.out).2.1); rintro e w44 ⟨rfl, hb⟩; refine ⟨_, rfl, ?_⟩; have n0_ := Aside0.mk (Kd.R_below (by (with_reducible repeat (first | apply Kd.R_alloc | apply Kd.R_drewN | apply Kd.R_drew)); exact HO_6.out) hb); have n1_ := Aside0.mk (Kd.R_below (by (with_reducible repeat (first | apply Kd.R_alloc | apply Kd.R_drewN | apply Kd.R_drew)); exact HO_8.out) hb); have n2_ := Aside0.mk (Kd.R_below (by (with_reducible repeat (first | apply Kd.R_alloc | apply Kd.R_drewN | apply Kd.R_drew)); exact HO_9.out) hb); have n3_ := Aside0.mk (Kd.R_below (by (with_reducible repeat (first | apply Kd.R_alloc | apply Kd.R_drewN | apply Kd.R_drew)); exact HO_10.out) hb); have n4_ := Aside0.mk (Kd.R_below (by (with_reducible repeat (first | apply Kd.R_alloc | apply Kd.R_drewN | apply Kd.R_drew)); exact HO126.out) hb); have n5_ := Aside0.mk (below_step (by repeat (first | (with_reducible first | exact HB.out | apply below_alloc | apply pw_below_drewN | apply below_drew1) | exact HB.out)) hb); clear HO_6; clear HO_8; clear HO_9; clear HO_10; clear HO126; clear HB; have HO_6 := n0_; have HO_8 := n1_; have HO_9 := n2_; have HO_10 := n3_; have HO126 := n4_; have HB := n5_; clear n0_ n1_ n2_ n3_ n4_ n5_; (try clear hb); (try clear hb2); (try clear hk); (try clear hi)) | ((with_reducible refine gate_callee (f := 15) rfl ?_); refine goesL_ (some 61) rfl rfl Try.func15 (by kernel_rfl) rfl #[.slice A1 l1.length c1] rfl (by (try simp only [List.map_toArray, List.map_cons, List.map_nil]); first | done | rfl | (simp only [List.length_drop, List.length_take]; rfl)) ?_; (with_reducible refine (laws_toBlockS.calls kj12 _ _ l1 t128 _ ?side1 ?side2 A36.out).mono ?_); (case side1 => repeat (first | exact (Kd.C_below HR1.out HB.out) | (with_reducible refine Kd.C_alloc ?_ _) | (with_reducible refine Kd.C_drewN ?_ _) | (with_reducible refine Kd.C_drew ?_))); (case side2 => exact HC1.out); rintro e w45 ⟨v129, rfl, ho0, hb⟩; refine ⟨_, rfl, ?_⟩; have n0_ := Aside0.mk (Kd.R_elder' (by (with_reducible repeat (first | apply Kd.R_alloc | apply Kd.R_drewN | apply Kd.R_drew)); exact HO_6.out) (Kd.R_base ho0) hb); have n1_ := Aside0.mk (Kd.R_elder' (by (with_reducible repeat (first | apply Kd.R_alloc | apply Kd.R_drewN | apply Kd.R_drew)); exact HO_8.out) (Kd.R_base ho0) hb); have n2_ := Aside0.mk (Kd.R_elder' (by (with_reducible repeat (first | apply Kd.R_alloc | apply Kd.R_drewN | apply Kd.R_drew)); exact HO_9.out) (Kd.R_base ho0) hb); have n3_ := Aside0.mk (Kd.R_elder' (by (with_reducible repeat (first | apply Kd.R_alloc | apply Kd.R_drewN | apply Kd.R_drew)); exact HO_10.out) (Kd.R_base ho0) hb); have n4_ := Aside0.mk (Kd.R_elder' (by (with_reducible repeat (first | apply Kd.R_alloc | apply Kd.R_drewN | apply Kd.R_drew)); exact HO126.out) (Kd.R_base ho0) hb); have n5_ := Aside0.mk (Kd.R_lower (Kd.R_new' (Kd.R_new' (Kd.R_new' (Kd.R_new' (Kd.R_new' ho0 (Kd.R_lt (by (with_reducible repeat (first | apply Kd.R_alloc | apply Kd.R_drewN | apply Kd.R_drew)); exact HO_6.out))) (Kd.R_lt (by (with_reducible repeat (first | apply Kd.R_alloc | apply Kd.R_drewN | apply Kd.R_drew)); exact HO_8.out))) (Kd.R_lt (by (with_reducible repeat (first | apply Kd.R_alloc | apply Kd.R_drewN | apply Kd.R_drew)); exact HO_9.out))) (Kd.R_lt (by (with_reducible repeat (first | apply Kd.R_alloc | apply Kd.R_drewN | apply Kd.R_drew)); exact HO_10.out))) (Kd.R_lt (by (with_reducible repeat (first | apply Kd.R_alloc | apply Kd.R_drewN | apply Kd.R_drew)); exact HO126.out))) (below_size (by repeat (first | (with_reducible first | exact HB.out | apply below_alloc | apply pw_below_drewN | apply below_drew1) | exact HB.out)))); have n6_ := Aside0.mk (below_step (by repeat (first | (with_reducible first | exact HB.out | apply below_alloc | apply pw_below_drewN | apply below_drew1) | exact HB.out)) hb); clear HO_6; clear HO_8; clear HO_9; clear HO_10; clear HO126; clear HB; have HO_6 := n0_; have HO_8 := n1_; have HO_9 := n2_; have HO_10 := n3_; have HO126 := n4_; have HO130 := n5_; have HB := n6_; clear n0_ n1_ n2_ n3_ n4_ n5_ n6_; (try clear hb); (try clear hb2); (try clear hk); (try clear hi); (try clear ho0); obtain ⟨Ao46, co46, eo46⟩ := Kd.R_slice HO130.out; subst eo46) | ((with_reducible refine gate_callee (f := 17) rfl ?_); refine goesL_ (some 62) rfl rfl Try.func17 (by kernel_rfl) rfl #[.slice Ao22 t116.length co22, .slice Ao46 t128.length co46] rfl (by (try simp only [List.map_toArray, List.map_cons, List.map_nil]); first | done | rfl | (simp only [List.length_drop, List.length_take]; rfl)) ?_; (with_reducible refine (laws_eqBlockS.calls kj12 _ _ t116 _ _ t128 true _ ?side1 ?side2 ?side3 ?side4 A37.out).mono ?_); (case side1 => repeat (first | exact (Kd.R_reads' HO_9.out).2.2 | (with_reducible refine Kd.C_alloc ?_ _) | (with_reducible refine Kd.C_drewN ?_ _) | (with_reducible refine Kd.C_drew ?_))); (case side2 => exact (Kd.R_reads' HO_9.out).2.1); (case side3 => repeat (first | exact (Kd.R_reads' HO130.out).2.2 | (with_reducible refine Kd.C_alloc ?_ _) | (with_reducible refine Kd.C_drewN ?_ _) | (with_reducible refine Kd.C_drew ?_))); (case side4 => exact (Kd.R_reads' HO130.out).2.1); rintro e w47 ⟨rfl, hb⟩; refine ⟨_, rfl, ?_⟩; have n0_ := Aside0.mk (Kd.R_below (by (with_reducible repeat (first | apply Kd.R_alloc | apply Kd.R_drewN | apply Kd.R_drew)); exact HO_6.out) hb); have n1_ := Aside0.mk (Kd.R_below (by (with_reducible repeat (first | apply Kd.R_alloc | apply Kd.R_drewN | apply Kd.R_drew)); exact HO_8.out) hb); have n2_ := Aside0.mk (Kd.R_below (by (with_reducible repeat (first | apply Kd.R_alloc | apply Kd.R_drewN | apply Kd.R_drew)); exact HO_9.out) hb); have n3_ := Aside0.mk (Kd.R_below (by (with_reducible repeat (first | apply Kd.R_alloc | apply Kd.R_drewN | apply Kd.R_drew)); exact HO_10.out) hb); have n4_ := Aside0.mk (Kd.R_below (by (with_reducible repeat (first | apply Kd.R_alloc | apply Kd.R_drewN | apply Kd.R_drew)); exact HO126.out) hb); have n5_ := Aside0.mk (Kd.R_below (by (with_reducible repeat (first | apply Kd.R_alloc | apply Kd.R_drewN | apply Kd.R_drew)); exact HO130.out) hb); have n6_ := Aside0.mk (below_step (by repeat (first | (with_reducible first | exact HB.out | apply below_alloc | apply pw_below_drewN | apply below_drew1) | exact HB.out)) hb); clear HO_6; clear HO_8; clear HO_9; clear HO_10; clear HO126; clear HO130; clear HB; have HO_6 := n0_; have HO_8 := n1_; have HO_9 := n2_; have HO_10 := n3_; have HO126 := n4_; have HO130 := n5_; have HB := n6_; clear n0_ n1_ n2_ n3_ n4_ n5_ n6_; (try clear hb); (try clear hb2); (try clear hk); (try clear hi)) | ((with_reducible refine gate_callee (f := 20) rfl ?_); refine goesL_ (some 66) rfl rfl Try.func20 (by kernel_rfl) rfl #[.slice Ao21 t113.length co21, .int .i64 1] rfl (by (try simp only [List.map_toArray, List.map_cons, List.map_nil]); first | done | rfl | (simp only [List.length_drop, List.length_take]; rfl)) ?_; (with_reducible refine (laws_markBlockS.calls kj12 (fun k_ => some k_ = (.slice Ao21 t113.length co21 : Value).ownBlock) (.slice Ao21 t113.length co21) t113 1 t132 t133 w _ ?side1 ?side2 A39.out).mono ?_); (case side1 => repeat (first | (with_reducible first | exact HB.out | apply below_alloc | apply pw_below_drewN | apply below_drew1) | exact HB.out)); (case side2 => exact Kd.R_tight rfl HO_8.out); rintro e w48 ⟨rfl, hy0, hb, hkp⟩; refine ⟨_, rfl, ?_⟩; have n0_ := Aside0.mk (Kd.R_mono (ok' := fun k_ => some k_ ≠ (.slice Ao21 t113.length co21 : Value).ownBlock ∧ some k_ ≠ (.slice Ao22 t116.length co22 : Value).ownBlock ∧ some k_ ≠ (v121 : Value).ownBlock ∧ some k_ ≠ (.slice Ao43 t124.length co43 : Value).ownBlock ∧ some k_ ≠ (.slice Ao46 t128.length co46 : Value).ownBlock) (Kd.R_keptB (HO_6.out) hkp (fun k_ hk_ hs_ => (hk_.1.1.1) hs_)) (fun k_ hk_ => ⟨hk_.1.1.1.1, hk_.1.1.1.2.1, hk_.1.1.1.2.2, hk_.1.1.2, hk_.1.2⟩)); have n1_ := Aside0.mk (Kd.R_reok rfl hy0 (fun k_ e_ => HO_8.out.1 k_ e_)); have n2_ := Aside0.mk (Kd.R_mono (ok' := fun k_ => some k_ ≠ (v111 : Value).ownBlock ∧ some k_ ≠ (.slice Ao21 t113.length co21 : Value).ownBlock ∧ some k_ ≠ (v121 : Value).ownBlock ∧ some k_ ≠ (.slice Ao43 t124.length co43 : Value).ownBlock ∧ some k_ ≠ (.slice Ao46 t128.length co46 : Value).ownBlock) (Kd.R_keptB (HO_9.out) hkp (fun k_ hk_ hs_ => (hk_.1.1.2.1) hs_)) (fun k_ hk_ => ⟨hk_.1.1.1.1, hk_.1.1.1.2.1, hk_.1.1.1.2.2, hk_.1.1.2, hk_.1.2⟩)); have n3_ := Aside0.mk (Kd.R_mono (ok' := fun k_ => some k_ ≠ (v111 : Value).ownBlock ∧ some k_ ≠ (.slice Ao21 t113.length co21 : Value).ownBlock ∧ some k_ ≠ (.slice Ao22 t116.length co22 : Value).ownBlock ∧ some k_ ≠ (.slice Ao43 t124.length co43 : Value).ownBlock ∧ some k_ ≠ (.slice Ao46 t128.length co46 : Value).ownBlock) (Kd.R_keptB (HO_10.out) hkp (fun k_ hk_ hs_ => (hk_.1.1.2.1) hs_)) (fun k_ hk_ => ⟨hk_.1.1.1.1, hk_.1.1.1.2.1, hk_.1.1.1.2.2, hk_.1.1.2, hk_.1.2⟩)); have n4_ := Aside0.mk (Kd.R_mono (ok' := fun k_ => some k_ ≠ (v111 : Value).ownBlock ∧ some k_ ≠ (.slice Ao21 t113.length co21 : Value).ownBlock ∧ some k_ ≠ (.slice Ao22 t116.length co22 : Value).ownBlock ∧ some k_ ≠ (v121 : Value).ownBlock ∧ some k_ ≠ (.slice Ao46 t128.length co46 : Value).ownBlock) (Kd.R_keptB (HO126.out) hkp (fun k_ hk_ hs_ => (hk_.1.1.1.2) hs_)) (fun k_ hk_ => ⟨hk_.1.1.1.1.1.2, hk_.1.1.1.1.2, hk_.1.1.1.2, hk_.1.1.2, hk_.1.2⟩)); have n5_ := Aside0.mk (Kd.R_mono (ok' := fun k_ => some k_ ≠ (v111 : Value).ownBlock ∧ some k_ ≠ (.slice Ao21 t113.length co21 : Value).ownBlock ∧ some k_ ≠ (.slice Ao22 t116.length co22 : Value).ownBlock ∧ some k_ ≠ (v121 : Value).ownBlock ∧ some k_ ≠ (.slice Ao43 t124.length co43 : Value).ownBlock) (Kd.R_keptB (HO130.out) hkp (fun k_ hk_ hs_ => (hk_.1.1.1.2) hs_)) (fun k_ hk_ => ⟨hk_.1.1.1.1.1.2, hk_.1.1.1.1.2, hk_.1.1.1.2, hk_.1.1.2, hk_.1.2⟩)); have n6_ := Aside0.mk (hb); clear HO_6; clear HO_8; clear HO_9; clear HO_10; clear HO126; clear HO130; clear HB; have HO_6 := n0_; have HO_8 := n1_; have HO_9 := n2_; have HO_10 := n3_; have HO126 := n4_; have HO130 := n5_; have HB := n6_; clear n0_ n1_ n2_ n3_ n4_ n5_ n6_; (try clear hb); (try clear hkp); (try clear hy0)) | ((with_reducible refine gate_callee (f := 20) rfl ?_); refine goesL_ (some 69) rfl rfl Try.func20 (by kernel_rfl) rfl #[.slice Ao22 t116.length co22, .int .i64 t132] rfl (by (try simp only [List.map_toArray, List.map_cons, List.map_nil]); first | done | rfl | (simp only [List.length_drop, List.length_take]; rfl)) ?_; (with_reducible refine (laws_markBlockS.calls kj12 (fun k_ => some k_ = (.slice Ao22 t116.length co22 : Value).ownBlock) (.slice Ao22 t116.length co22) t116 t132 t134 t135 w _ ?side1 ?side2 A40.out).mono ?_); (case side1 => repeat (first | (with_reducible first | exact HB.out | apply below_alloc | apply pw_below_drewN | apply below_drew1) | exact HB.out)); (case side2 => exact Kd.R_tight rfl HO_9.out); rintro e w49 ⟨rfl, hy0, hb, hkp⟩; refine ⟨_, rfl, ?_⟩; have n0_ := Aside0.mk (Kd.R_mono (ok' := fun k_ => some k_ ≠ (.slice Ao21 t113.length co21 : Value).ownBlock ∧ some k_ ≠ (.slice Ao22 t116.length co22 : Value).ownBlock ∧ some k_ ≠ (v121 : Value).ownBlock ∧ some k_ ≠ (.slice Ao43 t124.length co43 : Value).ownBlock ∧ some k_ ≠ (.slice Ao46 t128.length co46 : Value).ownBlock) (Kd.R_keptB (HO_6.out) hkp (fun k_ hk_ hs_ => (hk_.2.1) hs_)) (fun k_ hk_ => ⟨hk_.1.1, hk_.1.2.1, hk_.1.2.2.1, hk_.1.2.2.2.1, hk_.1.2.2.2.2⟩)); have n1_ := Aside0.mk (Kd.R_mono (ok' := fun k_ => some k_ ≠ (v111 : Value).ownBlock ∧ some k_ ≠ (.slice Ao22 t116.length co22 : Value).ownBlock ∧ some k_ ≠ (v121 : Value).ownBlock ∧ some k_ ≠ (.slice Ao43 t124.length co43 : Value).ownBlock ∧ some k_ ≠ (.slice Ao46 t128.length co46 : Value).ownBlock) (Kd.R_keptB (HO_8.out) hkp (fun k_ hk_ hs_ => (hk_.1.1.2.1) hs_)) (fun k_ hk_ => ⟨hk_.1.1.1.1, hk_.1.1.1.2.1, hk_.1.1.1.2.2, hk_.1.1.2, hk_.1.2⟩)); have n2_ := Aside0.mk (Kd.R_reok rfl hy0 (fun k_ e_ => HO_9.out.1 k_ e_)); have n3_ := Aside0.mk (Kd.R_mono (ok' := fun k_ => some k_ ≠ (v111 : Value).ownBlock ∧ some k_ ≠ (.slice Ao21 t113.length co21 : Value).ownBlock ∧ some k_ ≠ (.slice Ao22 t116.length co22 : Value).ownBlock ∧ some k_ ≠ (.slice Ao43 t124.length co43 : Value).ownBlock ∧ some k_ ≠ (.slice Ao46 t128.length co46 : Value).ownBlock) (Kd.R_keptB (HO_10.out) hkp (fun k_ hk_ hs_ => (hk_.2.2.1) hs_)) (fun k_ hk_ => ⟨hk_.1.1, hk_.1.2.1, hk_.1.2.2.1, hk_.1.2.2.2.1, hk_.1.2.2.2.2⟩)); have n4_ := Aside0.mk (Kd.R_mono (ok' := fun k_ => some k_ ≠ (v111 : Value).ownBlock ∧ some k_ ≠ (.slice Ao21 t113.length co21 : Value).ownBlock ∧ some k_ ≠ (.slice Ao22 t116.length co22 : Value).ownBlock ∧ some k_ ≠ (v121 : Value).ownBlock ∧ some k_ ≠ (.slice Ao46 t128.length co46 : Value).ownBlock) (Kd.R_keptB (HO126.out) hkp (fun k_ hk_ hs_ => (hk_.2.2.1) hs_)) (fun k_ hk_ => ⟨hk_.1.1, hk_.1.2.1, hk_.1.2.2.1, hk_.1.2.2.2.1, hk_.1.2.2.2.2⟩)); have n5_ := Aside0.mk (Kd.R_mono (ok' := fun k_ => some k_ ≠ (v111 : Value).ownBlock ∧ some k_ ≠ (.slice Ao21 t113.length co21 : Value).ownBlock ∧ some k_ ≠ (.slice Ao22 t116.length co22 : Value).ownBlock ∧ some k_ ≠ (v121 : Value).ownBlock ∧ some k_ ≠ (.slice Ao43 t124.length co43 : Value).ownBlock) (Kd.R_keptB (HO130.out) hkp (fun k_ hk_ hs_ => (hk_.2.2.1) hs_)) (fun k_ hk_ => ⟨hk_.1.1, hk_.1.2.1, hk_.1.2.2.1, hk_.1.2.2.2.1, hk_.1.2.2.2.2⟩)); have n6_ := Aside0.mk (hb); clear HO_6; clear HO_8; clear HO_9; clear HO_10; clear HO126; clear HO130; clear HB; have HO_6 := n0_; have HO_8 := n1_; have HO_9 := n2_; have HO_10 := n3_; have HO126 := n4_; have HO130 := n5_; have HB := n6_; clear n0_ n1_ n2_ n3_ n4_ n5_ n6_; (try clear hb); (try clear hkp); (try clear hy0)))
        (try simp only [Act.put, List.setIfInBounds_toArray, List.set_cons_zero, List.set_cons_succ])
        go_cut [82] (fun v82 wc => ∃ (kq : Nat) (x82_40 : Bool), v82 = .bool x82_40 ∧ Aside0 (laws_FnExactSetLess.j1 kq l0 l1 t109 t110 t119 x82_40 = some r) ∧ Aside0 (kq ≤ kj12) ∧ Aside0 (Kd.R k44 44 wc w.heap.size (fun k_ => some k_ ≠ (v121 : Value).ownBlock) v111 t109) ∧ Aside0 (Kd.R k44 44 wc w.heap.size (fun k_ => some k_ ≠ (v111 : Value).ownBlock) v121 t119) ∧ Aside0 (Below w.heap.size w wc))
        case first =>
         have H := HC41.out
         clear HC41
         by_cases c50 : t134 < 0
         ·rw [if_pos c50] at H
          have c50b0 : decide (t134 < 0) = true := decide_eq_true c50
          clear c50
          (first | rw [c50b0] | (simp only [i64_w, i32_w]; rw [c50b0]) | skip)
          have H' := Aside0.mk H
          clear H
          go_wp2
          go_meet
          case rel => exact ⟨_, (true), (by first | rfl | (simp; done) | (simp [*]; done)), H', ⟨by have := HJ12.out; first | omega | exact Nat.le_refl _⟩, ⟨by (with_reducible repeat (first | apply Kd.R_alloc | apply Kd.R_drewN | apply Kd.R_drew)); exact Kd.R_mono HO_6.out (fun _ hk => hk.2.2.1)⟩, ⟨by (with_reducible repeat (first | apply Kd.R_alloc | apply Kd.R_drewN | apply Kd.R_drew)); exact Kd.R_mono HO_10.out (fun _ hk => hk.1)⟩, ⟨by repeat (first | (with_reducible first | exact HB.out | apply below_alloc | apply pw_below_drewN | apply below_drew1) | exact HB.out)⟩⟩
         ·rw [if_neg c50] at H
          have c50b0 : decide (t134 < 0) = false := decide_eq_false c50
          clear c50
          (first | rw [c50b0] | (simp only [i64_w, i32_w]; rw [c50b0]) | skip)
          replace H := Option.bind_eq_some_iff.mp H
          obtain ⟨t136, A510, H⟩ := H
          replace H : (if t136 = true then (laws_FnExactSetLess.j1 kj12 l0 l1 t109 t110 t119 (t120 != t110)) else (laws_FnExactSetLess.j1 kj12 l0 l1 t109 t110 t119 true)) = some r := H
          have A51 := Aside0.mk A510
          clear A510
          by_cases c52 : t136 = true
          ·subst c52
           have H1 : (laws_FnExactSetLess.j1 kj12 l0 l1 t109 t110 t119 (t120 != t110)) = some r := by rw [if_pos rfl] at H; exact H
           clear H
           have H := H1
           clear H1
           have H' := Aside0.mk H
           clear H
           obtain ⟨Ao53, co53, eo53⟩ := Kd.R_slice HO_10.out
           subst eo53
           obtain ⟨Ao54, co54, eo54⟩ := Kd.R_slice HO_6.out
           subst eo54
           go_wp2_with (first | (go_at_call 17; (with_reducible refine (laws_eqBlockS.calls kj12 _ _ t119 _ _ t109 true _ ?side1 ?side2 ?side3 ?side4 A51.out).mono ?_); (case side1 => repeat (first | exact (Kd.R_reads' HO_10.out).2.2 | (with_reducible refine Kd.C_alloc ?_ _) | (with_reducible refine Kd.C_drewN ?_ _) | (with_reducible refine Kd.C_drew ?_))); (case side2 => exact (Kd.R_reads' HO_10.out).2.1); (case side3 => repeat (first | exact (Kd.R_reads' HO_6.out).2.2 | (with_reducible refine Kd.C_alloc ?_ _) | (with_reducible refine Kd.C_drewN ?_ _) | (with_reducible refine Kd.C_drew ?_))); (case side4 => exact (Kd.R_reads' HO_6.out).2.1); rintro e w55 ⟨rfl, hb⟩; have n0_ := Aside0.mk (Kd.R_below (by (with_reducible repeat (first | apply Kd.R_alloc | apply Kd.R_drewN | apply Kd.R_drew)); exact HO_6.out) hb); have n1_ := Aside0.mk (Kd.R_below (by (with_reducible repeat (first | apply Kd.R_alloc | apply Kd.R_drewN | apply Kd.R_drew)); exact HO_8.out) hb); have n2_ := Aside0.mk (Kd.R_below (by (with_reducible repeat (first | apply Kd.R_alloc | apply Kd.R_drewN | apply Kd.R_drew)); exact HO_9.out) hb); have n3_ := Aside0.mk (Kd.R_below (by (with_reducible repeat (first | apply Kd.R_alloc | apply Kd.R_drewN | apply Kd.R_drew)); exact HO_10.out) hb); have n4_ := Aside0.mk (Kd.R_below (by (with_reducible repeat (first | apply Kd.R_alloc | apply Kd.R_drewN | apply Kd.R_drew)); exact HO126.out) hb); have n5_ := Aside0.mk (Kd.R_below (by (with_reducible repeat (first | apply Kd.R_alloc | apply Kd.R_drewN | apply Kd.R_drew)); exact HO130.out) hb); have n6_ := Aside0.mk (below_step (by repeat (first | (with_reducible first | exact HB.out | apply below_alloc | apply pw_below_drewN | apply below_drew1) | exact HB.out)) hb); clear HO_6; clear HO_8; clear HO_9; clear HO_10; clear HO126; clear HO130; clear HB; have HO_6 := n0_; have HO_8 := n1_; have HO_9 := n2_; have HO_10 := n3_; have HO126 := n4_; have HO130 := n5_; have HB := n6_; clear n0_ n1_ n2_ n3_ n4_ n5_ n6_; (try clear hb); (try clear hb2); (try clear hk); (try clear hi)))
           go_meet
           case rel => exact ⟨_, ((t120 != t110)), (by first | rfl | (simp; done) | (simp [*]; done)), H', ⟨by have := HJ12.out; first | omega | exact Nat.le_refl _⟩, ⟨by (with_reducible repeat (first | apply Kd.R_alloc | apply Kd.R_drewN | apply Kd.R_drew)); exact Kd.R_mono HO_6.out (fun _ hk => hk.2.2.1)⟩, ⟨by (with_reducible repeat (first | apply Kd.R_alloc | apply Kd.R_drewN | apply Kd.R_drew)); exact Kd.R_mono HO_10.out (fun _ hk => hk.1)⟩, ⟨by repeat (first | (with_reducible first | exact HB.out | apply below_alloc | apply pw_below_drewN | apply below_drew1) | exact HB.out)⟩⟩
          ·replace c52 := Bool.eq_false_iff.mpr c52
           subst c52
           have H1 : (laws_FnExactSetLess.j1 kj12 l0 l1 t109 t110 t119 true) = some r := by rw [if_neg (show ¬ (false = true) by decide)] at H; exact H
           clear H
           have H := H1
           clear H1
           have H' := Aside0.mk H
           clear H
           obtain ⟨Ao56, co56, eo56⟩ := Kd.R_slice HO_10.out
           subst eo56
           obtain ⟨Ao57, co57, eo57⟩ := Kd.R_slice HO_6.out
           subst eo57
           go_wp2_with (first | (go_at_call 17; (with_reducible refine (laws_eqBlockS.calls kj12 _ _ t119 _ _ t109 false _ ?side1 ?side2 ?side3 ?side4 A51.out).mono ?_); (case side1 => repeat (first | exact (Kd.R_reads' HO_10.out).2.2 | (with_reducible refine Kd.C_alloc ?_ _) | (with_reducible refine Kd.C_drewN ?_ _) | (with_reducible refine Kd.C_drew ?_))); (case side2 => exact (Kd.R_reads' HO_10.out).2.1); (case side3 => repeat (first | exact (Kd.R_reads' HO_6.out).2.2 | (with_reducible refine Kd.C_alloc ?_ _) | (with_reducible refine Kd.C_drewN ?_ _) | (with_reducible refine Kd.C_drew ?_))); (case side4 => exact (Kd.R_reads' HO_6.out).2.1); rintro e w58 ⟨rfl, hb⟩; have n0_ := Aside0.mk (Kd.R_below (by (with_reducible repeat (first | apply Kd.R_alloc | apply Kd.R_drewN | apply Kd.R_drew)); exact HO_6.out) hb); have n1_ := Aside0.mk (Kd.R_below (by (with_reducible repeat (first | apply Kd.R_alloc | apply Kd.R_drewN | apply Kd.R_drew)); exact HO_8.out) hb); have n2_ := Aside0.mk (Kd.R_below (by (with_reducible repeat (first | apply Kd.R_alloc | apply Kd.R_drewN | apply Kd.R_drew)); exact HO_9.out) hb); have n3_ := Aside0.mk (Kd.R_below (by (with_reducible repeat (first | apply Kd.R_alloc | apply Kd.R_drewN | apply Kd.R_drew)); exact HO_10.out) hb); have n4_ := Aside0.mk (Kd.R_below (by (with_reducible repeat (first | apply Kd.R_alloc | apply Kd.R_drewN | apply Kd.R_drew)); exact HO126.out) hb); have n5_ := Aside0.mk (Kd.R_below (by (with_reducible repeat (first | apply Kd.R_alloc | apply Kd.R_drewN | apply Kd.R_drew)); exact HO130.out) hb); have n6_ := Aside0.mk (below_step (by repeat (first | (with_reducible first | exact HB.out | apply below_alloc | apply pw_below_drewN | apply below_drew1) | exact HB.out)) hb); clear HO_6; clear HO_8; clear HO_9; clear HO_10; clear HO126; clear HO130; clear HB; have HO_6 := n0_; have HO_8 := n1_; have HO_9 := n2_; have HO_10 := n3_; have HO126 := n4_; have HO130 := n5_; have HB := n6_; clear n0_ n1_ n2_ n3_ n4_ n5_ n6_; (try clear hb); (try clear hb2); (try clear hk); (try clear hi)))
           go_meet
           case rel => exact ⟨_, (true), (by first | rfl | (simp; done) | (simp [*]; done)), H', ⟨by have := HJ12.out; first | omega | exact Nat.le_refl _⟩, ⟨by (with_reducible repeat (first | apply Kd.R_alloc | apply Kd.R_drewN | apply Kd.R_drew)); exact Kd.R_mono HO_6.out (fun _ hk => hk.2.2.1)⟩, ⟨by (with_reducible repeat (first | apply Kd.R_alloc | apply Kd.R_drewN | apply Kd.R_drew)); exact Kd.R_mono HO_10.out (fun _ hk => hk.1)⟩, ⟨by repeat (first | (with_reducible first | exact HB.out | apply below_alloc | apply pw_below_drewN | apply below_drew1) | exact HB.out)⟩⟩
        case rest =>
         clear HC41
         try clear c1
         try clear c2
         try clear p2
         try clear c3
         try clear c4
         try clear c4b0
         try clear c5
         try clear c6
         try clear c6b0
         try clear c7
         try clear c13
         try clear c15
         try clear c17
         try clear c20
         try clear c25
         try clear c26
         try clear c27
         try clear c32
         try clear c35
         try clear c38
         try clear c50
         try clear c50b0
         try clear c52
         try clear p2
         obtain ⟨kq, x82_40, rfl, HA, HJ40, HO_6, HO_10, HB⟩ := hcut
         cases kq with
         | zero => exact absurd HA.out (by simp [laws_FnExactSetLess.j1])
         | succ kj40 =>
          have H := HA.out
          clear HA
          simp only [laws_FnExactSetLess.j1] at H
          by_cases c59 : x82_40 = true
          ·subst c59
           have H1 : (some false) = some r := by rw [if_pos rfl] at H; exact H
           clear H
           have H := H1
           clear H1
           obtain rfl := Option.some.inj H
           go_wp2
           go_ret
           exact ⟨by first | rfl | (simp [errW_none, errW_some] <;> rfl) | (simp [*, errW_none, errW_some] <;> rfl), by repeat (first | (with_reducible first | exact HB.out | apply below_alloc | apply pw_below_drewN | apply below_drew1) | exact HB.out)⟩
          ·replace c59 := Bool.eq_false_iff.mpr c59
           subst c59
           have H1 : ((laws_markBlockS.f kj40 t119 1).bind fun bt137 => ((laws_heldBlockS.f kj40 bt137.2 1).bind fun t139 => (if t139 < 0 then (some false) else (if t139 = bt137.1 then ((laws_toBlockS.f kj40 l0).bind fun t140 => ((laws_toBlockS.f kj40 l1).bind fun t143 => ((impl_SetLess.f kj40 t140 t143).bind fun bt146 => ((laws_eqBlockS.f kj40 bt146.1 t109).bind fun t150 => (if t150 = true then (laws_FnExactSetLess.j2 kj40 bt137.2 bt137.1 (bt146.2 != t110)) else (laws_FnExactSetLess.j2 kj40 bt137.2 bt137.1 true)))))) else (some false))))) = some r := by rw [if_neg (show ¬ (false = true) by decide)] at H; exact H
           clear H
           have H := H1
           clear H1
           replace H := Option.bind_eq_some_iff.mp H
           obtain ⟨⟨t137, t138⟩, A600, H⟩ := H
           replace H : ((laws_heldBlockS.f kj40 t138 1).bind fun t139 => (if t139 < 0 then (some false) else (if t139 = t137 then ((laws_toBlockS.f kj40 l0).bind fun t140 => ((laws_toBlockS.f kj40 l1).bind fun t143 => ((impl_SetLess.f kj40 t140 t143).bind fun bt146 => ((laws_eqBlockS.f kj40 bt146.1 t109).bind fun t150 => (if t150 = true then (laws_FnExactSetLess.j2 kj40 t138 t137 (bt146.2 != t110)) else (laws_FnExactSetLess.j2 kj40 t138 t137 true)))))) else (some false)))) = some r := H
           have A60 := Aside0.mk A600
           clear A600
           replace H := Option.bind_eq_some_iff.mp H
           obtain ⟨t139, A610, H⟩ := H
           replace H : (if t139 < 0 then (some false) else (if t139 = t137 then ((laws_toBlockS.f kj40 l0).bind fun t140 => ((laws_toBlockS.f kj40 l1).bind fun t143 => ((impl_SetLess.f kj40 t140 t143).bind fun bt146 => ((laws_eqBlockS.f kj40 bt146.1 t109).bind fun t150 => (if t150 = true then (laws_FnExactSetLess.j2 kj40 t138 t137 (bt146.2 != t110)) else (laws_FnExactSetLess.j2 kj40 t138 t137 true)))))) else (some false))) = some r := H
           have A61 := Aside0.mk A610
           clear A610
           by_cases c62 : t139 < 0
           ·rw [if_pos c62] at H
            have c62b0 : decide (t139 < 0) = true := decide_eq_true c62
            clear c62
            obtain rfl := Option.some.inj H
            obtain ⟨Ao63, co63, eo63⟩ := Kd.R_slice HO_10.out
            subst eo63
            go_wp2_with (first | ((with_reducible refine gate_callee (f := 20) rfl ?_); refine goesL_ (some 85) rfl rfl Try.func20 (by kernel_rfl) rfl #[.slice Ao63 t119.length co63, .int .i64 1] rfl (by (try simp only [List.map_toArray, List.map_cons, List.map_nil]); first | done | rfl | (simp only [List.length_drop, List.length_take]; rfl)) ?_; (with_reducible refine (laws_markBlockS.calls kj40 (fun k_ => some k_ = (.slice Ao63 t119.length co63 : Value).ownBlock) (.slice Ao63 t119.length co63) t119 1 t137 t138 w _ ?side1 ?side2 A60.out).mono ?_); (case side1 => repeat (first | (with_reducible first | exact HB.out | apply below_alloc | apply pw_below_drewN | apply below_drew1) | exact HB.out)); (case side2 => exact Kd.R_tight rfl HO_10.out); rintro e w64 ⟨rfl, hy0, hb, hkp⟩; refine ⟨_, rfl, ?_⟩; have n0_ := Aside0.mk (Kd.R_mono (ok' := fun k_ => some k_ ≠ (.slice Ao63 t119.length co63 : Value).ownBlock) (Kd.R_keptB (HO_6.out) hkp (fun k_ hk_ hs_ => (hk_) hs_)) (fun k_ hk_ => hk_.1)); have n1_ := Aside0.mk (Kd.R_reok rfl hy0 (fun k_ e_ => HO_10.out.1 k_ e_)); have n2_ := Aside0.mk (hb); clear HO_6; clear HO_10; clear HB; have HO_6 := n0_; have HO_10 := n1_; have HB := n2_; clear n0_ n1_ n2_; (try clear hb); (try clear hkp); (try clear hy0)) | ((with_reducible refine gate_callee (f := 21) rfl ?_); refine goesL_ (some 88) rfl rfl Try.func21 (by kernel_rfl) rfl #[.slice Ao63 t138.length co63, .int .i64 1] rfl (by (try simp only [List.map_toArray, List.map_cons, List.map_nil]); first | done | (rw [show t138.length = t119.length from (Kd.R_reads' HO_10.out).1.symm] <;> rfl) | rfl | (simp only [List.length_drop, List.length_take]; rfl)) ?_; (with_reducible refine (laws_heldBlockS.calls kj40 _ _ t138 1 t139 _ ?side1 ?side2 A61.out).mono ?_); (case side1 => repeat (first | exact (Kd.R_reads' HO_10.out).2.2 | (with_reducible refine Kd.C_alloc ?_ _) | (with_reducible refine Kd.C_drewN ?_ _) | (with_reducible refine Kd.C_drew ?_))); (case side2 => rw [show t138.length = t119.length from (Kd.R_reads' HO_10.out).1.symm]; exact (Kd.R_reads' HO_10.out).2.1); rintro e w' ⟨rfl, ⟨nd, rfl⟩⟩; refine ⟨_, rfl, ?_⟩))
            go_ret
            exact ⟨by first | rfl | (simp [errW_none, errW_some] <;> rfl) | (simp [*, errW_none, errW_some] <;> rfl), by repeat (first | (with_reducible first | exact HB.out | apply below_alloc | apply pw_below_drewN | apply below_drew1) | exact HB.out)⟩
           ·rw [if_neg c62] at H
            have c62b0 : decide (t139 < 0) = false := decide_eq_false c62
            clear c62
            by_cases c65 : t139 = t137
            ·rw [if_pos c65] at H
             have c65b0 : (t139 == t137) = true := beq_iff_eq.mpr c65
             have c65b1 : (t139 != t137) = false := bne_eq_false_iff_eq.mpr c65
             clear c65
             replace H := Option.bind_eq_some_iff.mp H
             obtain ⟨t140, A660, H⟩ := H
             replace H : ((laws_toBlockS.f kj40 l1).bind fun t143 => ((impl_SetLess.f kj40 t140 t143).bind fun bt146 => ((laws_eqBlockS.f kj40 bt146.1 t109).bind fun t150 => (if t150 = true then (laws_FnExactSetLess.j2 kj40 t138 t137 (bt146.2 != t110)) else (laws_FnExactSetLess.j2 kj40 t138 t137 true))))) = some r := H
             have A66 := Aside0.mk A660
             clear A660
             replace H := Option.bind_eq_some_iff.mp H
             obtain ⟨t143, A670, H⟩ := H
             replace H : ((impl_SetLess.f kj40 t140 t143).bind fun bt146 => ((laws_eqBlockS.f kj40 bt146.1 t109).bind fun t150 => (if t150 = true then (laws_FnExactSetLess.j2 kj40 t138 t137 (bt146.2 != t110)) else (laws_FnExactSetLess.j2 kj40 t138 t137 true)))) = some r := H
             have A67 := Aside0.mk A670
             clear A670
             replace H := Option.bind_eq_some_iff.mp H
             obtain ⟨⟨t146, t147⟩, A680, H⟩ := H
             replace H : ((laws_eqBlockS.f kj40 t146 t109).bind fun t150 => (if t150 = true then (laws_FnExactSetLess.j2 kj40 t138 t137 (t147 != t110)) else (laws_FnExactSetLess.j2 kj40 t138 t137 true))) = some r := H
             have A68 := Aside0.mk A680
             clear A680
             have HC69 := Aside0.mk H
             clear H
             obtain ⟨Ao70, co70, eo70⟩ := Kd.R_slice HO_10.out
             subst eo70
             go_upto_region 32 with (first | ((with_reducible refine gate_callee (f := 20) rfl ?_); refine goesL_ (some 85) rfl rfl Try.func20 (by kernel_rfl) rfl #[.slice Ao70 t119.length co70, .int .i64 1] rfl (by (try simp only [List.map_toArray, List.map_cons, List.map_nil]); first | done | rfl | (simp only [List.length_drop, List.length_take]; rfl)) ?_; (with_reducible refine (laws_markBlockS.calls kj40 (fun k_ => some k_ = (.slice Ao70 t119.length co70 : Value).ownBlock) (.slice Ao70 t119.length co70) t119 1 t137 t138 w _ ?side1 ?side2 A60.out).mono ?_); (case side1 => repeat (first | (with_reducible first | exact HB.out | apply below_alloc | apply pw_below_drewN | apply below_drew1) | exact HB.out)); (case side2 => exact Kd.R_tight rfl HO_10.out); rintro e w71 ⟨rfl, hy0, hb, hkp⟩; refine ⟨_, rfl, ?_⟩; have n0_ := Aside0.mk (Kd.R_mono (ok' := fun k_ => some k_ ≠ (.slice Ao70 t119.length co70 : Value).ownBlock) (Kd.R_keptB (HO_6.out) hkp (fun k_ hk_ hs_ => (hk_) hs_)) (fun k_ hk_ => hk_.1)); have n1_ := Aside0.mk (Kd.R_reok rfl hy0 (fun k_ e_ => HO_10.out.1 k_ e_)); have n2_ := Aside0.mk (hb); clear HO_6; clear HO_10; clear HB; have HO_6 := n0_; have HO_10 := n1_; have HB := n2_; clear n0_ n1_ n2_; (try clear hb); (try clear hkp); (try clear hy0)) | ((with_reducible refine gate_callee (f := 21) rfl ?_); refine goesL_ (some 88) rfl rfl Try.func21 (by kernel_rfl) rfl #[.slice Ao70 t138.length co70, .int .i64 1] rfl (by (try simp only [List.map_toArray, List.map_cons, List.map_nil]); first | done | (rw [show t138.length = t119.length from (Kd.R_reads' HO_10.out).1.symm] <;> rfl) | rfl | (simp only [List.length_drop, List.length_take]; rfl)) ?_; (with_reducible refine (laws_heldBlockS.calls kj40 _ _ t138 1 t139 _ ?side1 ?side2 A61.out).mono ?_); (case side1 => repeat (first | exact (Kd.R_reads' HO_10.out).2.2 | (with_reducible refine Kd.C_alloc ?_ _) | (with_reducible refine Kd.C_drewN ?_ _) | (with_reducible refine Kd.C_drew ?_))); (case side2 => rw [show t138.length = t119.length from (Kd.R_reads' HO_10.out).1.symm]; exact (Kd.R_reads' HO_10.out).2.1); rintro e w' ⟨rfl, ⟨nd, rfl⟩⟩; refine ⟨_, rfl, ?_⟩) | ((with_reducible refine gate_callee (f := 15) rfl ?_); refine goesL_ (some 96) rfl rfl Try.func15 (by kernel_rfl) rfl #[.slice A0 l0.length c0] rfl (by (try simp only [List.map_toArray, List.map_cons, List.map_nil]); first | done | rfl | (simp only [List.length_drop, List.length_take]; rfl)) ?_; (with_reducible refine (laws_toBlockS.calls kj40 _ _ l0 t140 _ ?side1 ?side2 A66.out).mono ?_); (case side1 => repeat (first | exact (Kd.C_below HR0.out (by repeat (first | (with_reducible first | exact HB.out | apply below_alloc | apply pw_below_drewN | apply below_drew1) | exact HB.out))) | (with_reducible refine Kd.C_alloc ?_ _) | (with_reducible refine Kd.C_drewN ?_ _) | (with_reducible refine Kd.C_drew ?_))); (case side2 => exact HC0.out); rintro e w72 ⟨v141, rfl, ho0, hb⟩; refine ⟨_, rfl, ?_⟩; have n0_ := Aside0.mk (Kd.R_elder' (by (with_reducible repeat (first | apply Kd.R_alloc | apply Kd.R_drewN | apply Kd.R_drew)); exact HO_6.out) (Kd.R_base ho0) hb); have n1_ := Aside0.mk (Kd.R_elder' (by (with_reducible repeat (first | apply Kd.R_alloc | apply Kd.R_drewN | apply Kd.R_drew)); exact HO_10.out) (Kd.R_base ho0) hb); have n2_ := Aside0.mk (Kd.R_lower (Kd.R_new' (Kd.R_new' ho0 (Kd.R_lt (by (with_reducible repeat (first | apply Kd.R_alloc | apply Kd.R_drewN | apply Kd.R_drew)); exact HO_6.out))) (Kd.R_lt (by (with_reducible repeat (first | apply Kd.R_alloc | apply Kd.R_drewN | apply Kd.R_drew)); exact HO_10.out))) (below_size (by repeat (first | (with_reducible first | exact HB.out | apply below_alloc | apply pw_below_drewN | apply below_drew1) | exact HB.out)))); have n3_ := Aside0.mk (below_step (by repeat (first | (with_reducible first | exact HB.out | apply below_alloc | apply pw_below_drewN | apply below_drew1) | exact HB.out)) hb); clear HO_6; clear HO_10; clear HB; have HO_6 := n0_; have HO_10 := n1_; have HO142 := n2_; have HB := n3_; clear n0_ n1_ n2_ n3_; (try clear hb); (try clear hb2); (try clear hk); (try clear hi); (try clear ho0)) | ((with_reducible refine gate_callee (f := 15) rfl ?_); refine goesL_ (some 98) rfl rfl Try.func15 (by kernel_rfl) rfl #[.slice A1 l1.length c1] rfl (by (try simp only [List.map_toArray, List.map_cons, List.map_nil]); first | done | rfl | (simp only [List.length_drop, List.length_take]; rfl)) ?_; (with_reducible refine (laws_toBlockS.calls kj40 _ _ l1 t143 _ ?side1 ?side2 A67.out).mono ?_); (case side1 => repeat (first | exact (Kd.C_below HR1.out HB.out) | (with_reducible refine Kd.C_alloc ?_ _) | (with_reducible refine Kd.C_drewN ?_ _) | (with_reducible refine Kd.C_drew ?_))); (case side2 => exact HC1.out); rintro e w73 ⟨v144, rfl, ho0, hb⟩; refine ⟨_, rfl, ?_⟩; have n0_ := Aside0.mk (Kd.R_elder' (by (with_reducible repeat (first | apply Kd.R_alloc | apply Kd.R_drewN | apply Kd.R_drew)); exact HO_6.out) (Kd.R_base ho0) hb); have n1_ := Aside0.mk (Kd.R_elder' (by (with_reducible repeat (first | apply Kd.R_alloc | apply Kd.R_drewN | apply Kd.R_drew)); exact HO_10.out) (Kd.R_base ho0) hb); have n2_ := Aside0.mk (Kd.R_elder' (by (with_reducible repeat (first | apply Kd.R_alloc | apply Kd.R_drewN | apply Kd.R_drew)); exact HO142.out) (Kd.R_base ho0) hb); have n3_ := Aside0.mk (Kd.R_lower (Kd.R_new' (Kd.R_new' (Kd.R_new' ho0 (Kd.R_lt (by (with_reducible repeat (first | apply Kd.R_alloc | apply Kd.R_drewN | apply Kd.R_drew)); exact HO_6.out))) (Kd.R_lt (by (with_reducible repeat (first | apply Kd.R_alloc | apply Kd.R_drewN | apply Kd.R_drew)); exact HO_10.out))) (Kd.R_lt (by (with_reducible repeat (first | apply Kd.R_alloc | apply Kd.R_drewN | apply Kd.R_drew)); exact HO142.out))) (below_size (by repeat (first | (with_reducible first | exact HB.out | apply below_alloc | apply pw_below_drewN | apply below_drew1) | exact HB.out)))); have n4_ := Aside0.mk (below_step (by repeat (first | (with_reducible first | exact HB.out | apply below_alloc | apply pw_below_drewN | apply below_drew1) | exact HB.out)) hb); clear HO_6; clear HO_10; clear HO142; clear HB; have HO_6 := n0_; have HO_10 := n1_; have HO142 := n2_; have HO145 := n3_; have HB := n4_; clear n0_ n1_ n2_ n3_ n4_; (try clear hb); (try clear hb2); (try clear hk); (try clear hi); (try clear ho0); obtain ⟨Ao74, co74, eo74⟩ := Kd.R_slice HO142.out; subst eo74; obtain ⟨Ao75, co75, eo75⟩ := Kd.R_slice HO145.out; subst eo75) | ((with_reducible refine gate_callee (f := 27) rfl ?_); refine goesL_ (some 99) rfl rfl Try.func27 (by kernel_rfl) rfl #[.slice Ao74 t140.length co74, .slice Ao75 t143.length co75] rfl (by (try simp only [List.map_toArray, List.map_cons, List.map_nil]); first | done | rfl | (simp only [List.length_drop, List.length_take]; rfl)) ?_; (with_reducible refine (impl_SetLess.calls kj40 _ _ t140 _ _ t143 t146 t147 _ ?side1 ?side2 ?side3 ?side4 A68.out).mono ?_); (case side1 => repeat (first | exact (Kd.R_reads' HO142.out).2.2 | (with_reducible refine Kd.C_alloc ?_ _) | (with_reducible refine Kd.C_drewN ?_ _) | (with_reducible refine Kd.C_drew ?_))); (case side2 => exact (Kd.R_reads' HO142.out).2.1); (case side3 => repeat (first | exact (Kd.R_reads' HO145.out).2.2 | (with_reducible refine Kd.C_alloc ?_ _) | (with_reducible refine Kd.C_drewN ?_ _) | (with_reducible refine Kd.C_drew ?_))); (case side4 => exact (Kd.R_reads' HO145.out).2.1); rintro e w76 ⟨v148, rfl, ho0, hb⟩; refine ⟨_, rfl, ?_⟩; have n0_ := Aside0.mk (Kd.R_elder' (by (with_reducible repeat (first | apply Kd.R_alloc | apply Kd.R_drewN | apply Kd.R_drew)); exact HO_6.out) (Kd.R_base ho0) hb); have n1_ := Aside0.mk (Kd.R_elder' (by (with_reducible repeat (first | apply Kd.R_alloc | apply Kd.R_drewN | apply Kd.R_drew)); exact HO_10.out) (Kd.R_base ho0) hb); have n2_ := Aside0.mk (Kd.R_elder' (by (with_reducible repeat (first | apply Kd.R_alloc | apply Kd.R_drewN | apply Kd.R_drew)); exact HO142.out) (Kd.R_base ho0) hb); have n3_ := Aside0.mk (Kd.R_elder' (by (with_reducible repeat (first | apply Kd.R_alloc | apply Kd.R_drewN | apply Kd.R_drew)); exact HO145.out) (Kd.R_base ho0) hb); have n4_ := Aside0.mk (Kd.R_lower (Kd.R_new' (Kd.R_new' (Kd.R_new' (Kd.R_new' ho0 (Kd.R_lt (by (with_reducible repeat (first | apply Kd.R_alloc | apply Kd.R_drewN | apply Kd.R_drew)); exact HO_6.out))) (Kd.R_lt (by (with_reducible repeat (first | apply Kd.R_alloc | apply Kd.R_drewN | apply Kd.R_drew)); exact HO_10.out))) (Kd.R_lt (by (with_reducible repeat (first | apply Kd.R_alloc | apply Kd.R_drewN | apply Kd.R_drew)); exact HO142.out))) (Kd.R_lt (by (with_reducible repeat (first | apply Kd.R_alloc | apply Kd.R_drewN | apply Kd.R_drew)); exact HO145.out))) (below_size (by repeat (first | (with_reducible first | exact HB.out | apply below_alloc | apply pw_below_drewN | apply below_drew1) | exact HB.out)))); have n5_ := Aside0.mk (below_step (by repeat (first | (with_reducible first | exact HB.out | apply below_alloc | apply pw_below_drewN | apply below_drew1) | exact HB.out)) hb); clear HO_6; clear HO_10; clear HO142; clear HO145; clear HB; have HO_6 := n0_; have HO_10 := n1_; have HO142 := n2_; have HO145 := n3_; have HO149 := n4_; have HB := n5_; clear n0_ n1_ n2_ n3_ n4_ n5_; (try clear hb); (try clear hb2); (try clear hk); (try clear hi); (try clear ho0)))
             (try simp only [Act.put, List.setIfInBounds_toArray, List.set_cons_zero, List.set_cons_succ])
             go_cut [110] (fun v110 wc => ∃ (kq : Nat) (x110_68 : Bool), v110 = .bool x110_68 ∧ Aside0 (laws_FnExactSetLess.j2 kq t138 t137 x110_68 = some r) ∧ Aside0 (kq ≤ kj40) ∧ Aside0 (Kd.R k44 44 wc w.heap.size (fun _ => True) (.slice Ao70 t119.length co70) t138) ∧ Aside0 (Below w.heap.size w wc))
             case first =>
              have H := HC69.out
              clear HC69
              replace H := Option.bind_eq_some_iff.mp H
              obtain ⟨t150, A770, H⟩ := H
              replace H : (if t150 = true then (laws_FnExactSetLess.j2 kj40 t138 t137 (t147 != t110)) else (laws_FnExactSetLess.j2 kj40 t138 t137 true)) = some r := H
              have A77 := Aside0.mk A770
              clear A770
              by_cases c78 : t150 = true
              ·subst c78
               have H1 : (laws_FnExactSetLess.j2 kj40 t138 t137 (t147 != t110)) = some r := by rw [if_pos rfl] at H; exact H
               clear H
               have H := H1
               clear H1
               have H' := Aside0.mk H
               clear H
               obtain ⟨Ao79, co79, eo79⟩ := Kd.R_slice HO149.out
               subst eo79
               obtain ⟨Ao80, co80, eo80⟩ := Kd.R_slice HO_6.out
               subst eo80
               go_wp2_with (first | ((with_reducible refine gate_callee (f := 17) rfl ?_); refine goesL_ (some 104) rfl rfl Try.func17 (by kernel_rfl) rfl #[.slice Ao79 t146.length co79, .slice Ao80 t109.length co80] rfl (by (try simp only [List.map_toArray, List.map_cons, List.map_nil]); first | done | rfl | (simp only [List.length_drop, List.length_take]; rfl)) ?_; (with_reducible refine (laws_eqBlockS.calls kj40 _ _ t146 _ _ t109 true _ ?side1 ?side2 ?side3 ?side4 A77.out).mono ?_); (case side1 => repeat (first | exact (Kd.R_reads' HO149.out).2.2 | (with_reducible refine Kd.C_alloc ?_ _) | (with_reducible refine Kd.C_drewN ?_ _) | (with_reducible refine Kd.C_drew ?_))); (case side2 => exact (Kd.R_reads' HO149.out).2.1); (case side3 => repeat (first | exact (Kd.R_reads' HO_6.out).2.2 | (with_reducible refine Kd.C_alloc ?_ _) | (with_reducible refine Kd.C_drewN ?_ _) | (with_reducible refine Kd.C_drew ?_))); (case side4 => exact (Kd.R_reads' HO_6.out).2.1); rintro e w81 ⟨rfl, hb⟩; refine ⟨_, rfl, ?_⟩; have n0_ := Aside0.mk (Kd.R_below (by (with_reducible repeat (first | apply Kd.R_alloc | apply Kd.R_drewN | apply Kd.R_drew)); exact HO_6.out) hb); have n1_ := Aside0.mk (Kd.R_below (by (with_reducible repeat (first | apply Kd.R_alloc | apply Kd.R_drewN | apply Kd.R_drew)); exact HO_10.out) hb); have n2_ := Aside0.mk (Kd.R_below (by (with_reducible repeat (first | apply Kd.R_alloc | apply Kd.R_drewN | apply Kd.R_drew)); exact HO142.out) hb); have n3_ := Aside0.mk (Kd.R_below (by (with_reducible repeat (first | apply Kd.R_alloc | apply Kd.R_drewN | apply Kd.R_drew)); exact HO145.out) hb); have n4_ := Aside0.mk (Kd.R_below (by (with_reducible repeat (first | apply Kd.R_alloc | apply Kd.R_drewN | apply Kd.R_drew)); exact HO149.out) hb); have n5_ := Aside0.mk (below_step (by repeat (first | (with_reducible first | exact HB.out | apply below_alloc | apply pw_below_drewN | apply below_drew1) | exact HB.out)) hb); clear HO_6; clear HO_10; clear HO142; clear HO145; clear HO149; clear HB; have HO_6 := n0_; have HO_10 := n1_; have HO142 := n2_; have HO145 := n3_; have HO149 := n4_; have HB := n5_; clear n0_ n1_ n2_ n3_ n4_ n5_; (try clear hb); (try clear hb2); (try clear hk); (try clear hi)))
               go_meet
               case rel => exact ⟨_, ((t147 != t110)), (by first | rfl | (simp; done) | (simp [*]; done)), H', ⟨by have := HJ12.out; have := HJ40.out; first | omega | exact Nat.le_refl _⟩, ⟨by (with_reducible repeat (first | apply Kd.R_alloc | apply Kd.R_drewN | apply Kd.R_drew)); exact Kd.R_mono HO_10.out (fun _ hk => trivial)⟩, ⟨by repeat (first | (with_reducible first | exact HB.out | apply below_alloc | apply pw_below_drewN | apply below_drew1) | exact HB.out)⟩⟩
              ·replace c78 := Bool.eq_false_iff.mpr c78
               subst c78
               have H1 : (laws_FnExactSetLess.j2 kj40 t138 t137 true) = some r := by rw [if_neg (show ¬ (false = true) by decide)] at H; exact H
               clear H
               have H := H1
               clear H1
               have H' := Aside0.mk H
               clear H
               obtain ⟨Ao82, co82, eo82⟩ := Kd.R_slice HO149.out
               subst eo82
               obtain ⟨Ao83, co83, eo83⟩ := Kd.R_slice HO_6.out
               subst eo83
               go_wp2_with (first | ((with_reducible refine gate_callee (f := 17) rfl ?_); refine goesL_ (some 104) rfl rfl Try.func17 (by kernel_rfl) rfl #[.slice Ao82 t146.length co82, .slice Ao83 t109.length co83] rfl (by (try simp only [List.map_toArray, List.map_cons, List.map_nil]); first | done | rfl | (simp only [List.length_drop, List.length_take]; rfl)) ?_; (with_reducible refine (laws_eqBlockS.calls kj40 _ _ t146 _ _ t109 false _ ?side1 ?side2 ?side3 ?side4 A77.out).mono ?_); (case side1 => repeat (first | exact (Kd.R_reads' HO149.out).2.2 | (with_reducible refine Kd.C_alloc ?_ _) | (with_reducible refine Kd.C_drewN ?_ _) | (with_reducible refine Kd.C_drew ?_))); (case side2 => exact (Kd.R_reads' HO149.out).2.1); (case side3 => repeat (first | exact (Kd.R_reads' HO_6.out).2.2 | (with_reducible refine Kd.C_alloc ?_ _) | (with_reducible refine Kd.C_drewN ?_ _) | (with_reducible refine Kd.C_drew ?_))); (case side4 => exact (Kd.R_reads' HO_6.out).2.1); rintro e w84 ⟨rfl, hb⟩; refine ⟨_, rfl, ?_⟩; have n0_ := Aside0.mk (Kd.R_below (by (with_reducible repeat (first | apply Kd.R_alloc | apply Kd.R_drewN | apply Kd.R_drew)); exact HO_6.out) hb); have n1_ := Aside0.mk (Kd.R_below (by (with_reducible repeat (first | apply Kd.R_alloc | apply Kd.R_drewN | apply Kd.R_drew)); exact HO_10.out) hb); have n2_ := Aside0.mk (Kd.R_below (by (with_reducible repeat (first | apply Kd.R_alloc | apply Kd.R_drewN | apply Kd.R_drew)); exact HO142.out) hb); have n3_ := Aside0.mk (Kd.R_below (by (with_reducible repeat (first | apply Kd.R_alloc | apply Kd.R_drewN | apply Kd.R_drew)); exact HO145.out) hb); have n4_ := Aside0.mk (Kd.R_below (by (with_reducible repeat (first | apply Kd.R_alloc | apply Kd.R_drewN | apply Kd.R_drew)); exact HO149.out) hb); have n5_ := Aside0.mk (below_step (by repeat (first | (with_reducible first | exact HB.out | apply below_alloc | apply pw_below_drewN | apply below_drew1) | exact HB.out)) hb); clear HO_6; clear HO_10; clear HO142; clear HO145; clear HO149; clear HB; have HO_6 := n0_; have HO_10 := n1_; have HO142 := n2_; have HO145 := n3_; have HO149 := n4_; have HB := n5_; clear n0_ n1_ n2_ n3_ n4_ n5_; (try clear hb); (try clear hb2); (try clear hk); (try clear hi)))
               go_meet
               case rel => exact ⟨_, (true), (by first | rfl | (simp; done) | (simp [*]; done)), H', ⟨by have := HJ12.out; have := HJ40.out; first | omega | exact Nat.le_refl _⟩, ⟨by (with_reducible repeat (first | apply Kd.R_alloc | apply Kd.R_drewN | apply Kd.R_drew)); exact Kd.R_mono HO_10.out (fun _ hk => trivial)⟩, ⟨by repeat (first | (with_reducible first | exact HB.out | apply below_alloc | apply pw_below_drewN | apply below_drew1) | exact HB.out)⟩⟩
             case rest =>
              clear HC69
              try clear c1
              try clear c2
              try clear p2
              try clear c3
              try clear c4
              try clear c4b0
              try clear c5
              try clear c6
              try clear c6b0
              try clear c7
              try clear c13
              try clear c15
              try clear c17
              try clear c20
              try clear c21
              try clear c25
              try clear c26
              try clear c27
              try clear c32
              try clear c35
              try clear c38
              try clear c50
              try clear c50b0
              try clear c52
              try clear c59
              try clear c62
              try clear c62b0
              try clear c65
              try clear c65b0
              try clear c65b1
              try clear c78
              try clear p2
              obtain ⟨kq, x110_68, rfl, HA, HJ68, HO_10, HB⟩ := hcut
              have hl10_68 := (Kd.R_reads' HO_10.out).1
              rw [hl10_68] at HO_10
              (try simp only [hl10_68])
              cases kq with
              | zero => exact absurd HA.out (by simp [laws_FnExactSetLess.j2])
              | succ kj68 =>
               have H := HA.out
               clear HA
               simp only [laws_FnExactSetLess.j2] at H
               by_cases c85 : x110_68 = true
               ·subst c85
                have H1 : (some false) = some r := by rw [if_pos rfl] at H; exact H
                clear H
                have H := H1
                clear H1
                obtain rfl := Option.some.inj H
                go_wp2
                go_ret
                exact ⟨by first | rfl | (simp [errW_none, errW_some] <;> rfl) | (simp [*, errW_none, errW_some] <;> rfl), by repeat (first | (with_reducible first | exact HB.out | apply below_alloc | apply pw_below_drewN | apply below_drew1) | exact HB.out)⟩
               ·replace c85 := Bool.eq_false_iff.mpr c85
                subst c85
                have H1 : ((laws_heldBlockS.f kj68 t138 1).bind fun t151 => (if t151 < 0 then (some false) else (if t151 = t137 then (some true) else (some false)))) = some r := by rw [if_neg (show ¬ (false = true) by decide)] at H; exact H
                clear H
                have H := H1
                clear H1
                replace H := Option.bind_eq_some_iff.mp H
                obtain ⟨t151, A860, H⟩ := H
                replace H : (if t151 < 0 then (some false) else (if t151 = t137 then (some true) else (some false))) = some r := H
                have A86 := Aside0.mk A860
                clear A860
                by_cases c87 : t151 < 0
                ·rw [if_pos c87] at H
                 have c87b0 : decide (t151 < 0) = true := decide_eq_true c87
                 clear c87
                 obtain rfl := Option.some.inj H
                 go_wp2_with (first | ((with_reducible refine gate_callee (f := 21) rfl ?_); refine goesL_ (some 113) rfl rfl Try.func21 (by kernel_rfl) rfl #[.slice Ao70 t138.length co70, .int .i64 1] rfl (by (try simp only [List.map_toArray, List.map_cons, List.map_nil]); first | done | rfl | (simp only [List.length_drop, List.length_take]; rfl)) ?_; (with_reducible refine (laws_heldBlockS.calls kj68 _ _ t138 1 t151 _ ?side1 ?side2 A86.out).mono ?_); (case side1 => repeat (first | exact (Kd.R_reads' HO_10.out).2.2 | (with_reducible refine Kd.C_alloc ?_ _) | (with_reducible refine Kd.C_drewN ?_ _) | (with_reducible refine Kd.C_drew ?_))); (case side2 => exact (Kd.R_reads' HO_10.out).2.1); rintro e w' ⟨rfl, ⟨nd, rfl⟩⟩; refine ⟨_, rfl, ?_⟩))
                 go_ret
                 exact ⟨by first | rfl | (simp [errW_none, errW_some] <;> rfl) | (simp [*, errW_none, errW_some] <;> rfl), by repeat (first | (with_reducible first | exact HB.out | apply below_alloc | apply pw_below_drewN | apply below_drew1) | exact HB.out)⟩
                ·rw [if_neg c87] at H
                 have c87b0 : decide (t151 < 0) = false := decide_eq_false c87
                 clear c87
                 by_cases c88 : t151 = t137
                 ·rw [if_pos c88] at H
                  have c88b0 : (t151 == t137) = true := beq_iff_eq.mpr c88
                  have c88b1 : (t151 != t137) = false := bne_eq_false_iff_eq.mpr c88
                  clear c88
                  obtain rfl := Option.some.inj H
                  go_wp2_with (first | ((with_reducible refine gate_callee (f := 21) rfl ?_); refine goesL_ (some 113) rfl rfl Try.func21 (by kernel_rfl) rfl #[.slice Ao70 t138.length co70, .int .i64 1] rfl (by (try simp only [List.map_toArray, List.map_cons, List.map_nil]); first | done | rfl | (simp only [List.length_drop, List.length_take]; rfl)) ?_; (with_reducible refine (laws_heldBlockS.calls kj68 _ _ t138 1 t151 _ ?side1 ?side2 A86.out).mono ?_); (case side1 => repeat (first | exact (Kd.R_reads' HO_10.out).2.2 | (with_reducible refine Kd.C_alloc ?_ _) | (with_reducible refine Kd.C_drewN ?_ _) | (with_reducible refine Kd.C_drew ?_))); (case side2 => exact (Kd.R_reads' HO_10.out).2.1); rintro e w' ⟨rfl, ⟨nd, rfl⟩⟩; refine ⟨_, rfl, ?_⟩))
                  go_ret
                  exact ⟨by first | rfl | (simp [errW_none, errW_some] <;> rfl) | (simp [*, errW_none, errW_some] <;> rfl), by repeat (first | (with_reducible first | exact HB.out | apply below_alloc | apply pw_below_drewN | apply below_drew1) | exact HB.out)⟩
                 ·rw [if_neg c88] at H
                  have c88b0 : (t151 == t137) = false := beq_eq_false_iff_ne.mpr c88
                  have c88b1 : (t151 != t137) = true := bne_iff_ne.mpr c88
                  obtain rfl := Option.some.inj H
                  go_wp2_with (first | ((with_reducible refine gate_callee (f := 21) rfl ?_); refine goesL_ (some 113) rfl rfl Try.func21 (by kernel_rfl) rfl #[.slice Ao70 t138.length co70, .int .i64 1] rfl (by (try simp only [List.map_toArray, List.map_cons, List.map_nil]); first | done | rfl | (simp only [List.length_drop, List.length_take]; rfl)) ?_; (with_reducible refine (laws_heldBlockS.calls kj68 _ _ t138 1 t151 _ ?side1 ?side2 A86.out).mono ?_); (case side1 => repeat (first | exact (Kd.R_reads' HO_10.out).2.2 | (with_reducible refine Kd.C_alloc ?_ _) | (with_reducible refine Kd.C_drewN ?_ _) | (with_reducible refine Kd.C_drew ?_))); (case side2 => exact (Kd.R_reads' HO_10.out).2.1); rintro e w' ⟨rfl, ⟨nd, rfl⟩⟩; refine ⟨_, rfl, ?_⟩))
                  go_ret
                  exact ⟨by first | rfl | (simp [errW_none, errW_some] <;> rfl) | (simp [*, errW_none, errW_some] <;> rfl), by repeat (first | (with_reducible first | exact HB.out | apply below_alloc | apply pw_below_drewN | apply below_drew1) | exact HB.out)⟩
            ·rw [if_neg c65] at H
             have c65b0 : (t139 == t137) = false := beq_eq_false_iff_ne.mpr c65
             have c65b1 : (t139 != t137) = true := bne_iff_ne.mpr c65
             obtain rfl := Option.some.inj H
             obtain ⟨Ao89, co89, eo89⟩ := Kd.R_slice HO_10.out
             subst eo89
             go_wp2_with (first | ((with_reducible refine gate_callee (f := 20) rfl ?_); refine goesL_ (some 85) rfl rfl Try.func20 (by kernel_rfl) rfl #[.slice Ao89 t119.length co89, .int .i64 1] rfl (by (try simp only [List.map_toArray, List.map_cons, List.map_nil]); first | done | rfl | (simp only [List.length_drop, List.length_take]; rfl)) ?_; (with_reducible refine (laws_markBlockS.calls kj40 (fun k_ => some k_ = (.slice Ao89 t119.length co89 : Value).ownBlock) (.slice Ao89 t119.length co89) t119 1 t137 t138 w _ ?side1 ?side2 A60.out).mono ?_); (case side1 => repeat (first | (with_reducible first | exact HB.out | apply below_alloc | apply pw_below_drewN | apply below_drew1) | exact HB.out)); (case side2 => exact Kd.R_tight rfl HO_10.out); rintro e w90 ⟨rfl, hy0, hb, hkp⟩; refine ⟨_, rfl, ?_⟩; have n0_ := Aside0.mk (Kd.R_mono (ok' := fun k_ => some k_ ≠ (.slice Ao89 t119.length co89 : Value).ownBlock) (Kd.R_keptB (HO_6.out) hkp (fun k_ hk_ hs_ => (hk_) hs_)) (fun k_ hk_ => hk_.1)); have n1_ := Aside0.mk (Kd.R_reok rfl hy0 (fun k_ e_ => HO_10.out.1 k_ e_)); have n2_ := Aside0.mk (hb); clear HO_6; clear HO_10; clear HB; have HO_6 := n0_; have HO_10 := n1_; have HB := n2_; clear n0_ n1_ n2_; (try clear hb); (try clear hkp); (try clear hy0)) | ((with_reducible refine gate_callee (f := 21) rfl ?_); refine goesL_ (some 88) rfl rfl Try.func21 (by kernel_rfl) rfl #[.slice Ao89 t138.length co89, .int .i64 1] rfl (by (try simp only [List.map_toArray, List.map_cons, List.map_nil]); first | done | (rw [show t138.length = t119.length from (Kd.R_reads' HO_10.out).1.symm] <;> rfl) | rfl | (simp only [List.length_drop, List.length_take]; rfl)) ?_; (with_reducible refine (laws_heldBlockS.calls kj40 _ _ t138 1 t139 _ ?side1 ?side2 A61.out).mono ?_); (case side1 => repeat (first | exact (Kd.R_reads' HO_10.out).2.2 | (with_reducible refine Kd.C_alloc ?_ _) | (with_reducible refine Kd.C_drewN ?_ _) | (with_reducible refine Kd.C_drew ?_))); (case side2 => rw [show t138.length = t119.length from (Kd.R_reads' HO_10.out).1.symm]; exact (Kd.R_reads' HO_10.out).2.1); rintro e w' ⟨rfl, ⟨nd, rfl⟩⟩; refine ⟨_, rfl, ?_⟩))
             go_ret
             exact ⟨by first | rfl | (simp [errW_none, errW_some] <;> rfl) | (simp [*, errW_none, errW_some] <;> rfl), by repeat (first | (with_reducible first | exact HB.out | apply below_alloc | apply pw_below_drewN | apply below_drew1) | exact HB.out)⟩
       ·replace c38 := Bool.eq_false_iff.mpr c38
        subst c38
        have H1 : (some false) = some r := by rw [if_neg (show ¬ (false = true) by decide)] at H; exact H
        clear H
        have H := H1
        clear H1
        obtain rfl := Option.some.inj H
        go_wp2_with (first | ((with_reducible refine gate_callee (f := 15) rfl ?_); refine goesL_ (some 56) rfl rfl Try.func15 (by kernel_rfl) rfl #[.slice A0 l0.length c0] rfl (by (try simp only [List.map_toArray, List.map_cons, List.map_nil]); first | done | rfl | (simp only [List.length_drop, List.length_take]; rfl)) ?_; (with_reducible refine (laws_toBlockS.calls kj12 _ _ l0 t124 _ ?side1 ?side2 A33.out).mono ?_); (case side1 => repeat (first | exact (Kd.C_below HR0.out HB.out) | (with_reducible refine Kd.C_alloc ?_ _) | (with_reducible refine Kd.C_drewN ?_ _) | (with_reducible refine Kd.C_drew ?_))); (case side2 => exact HC0.out); rintro e w91 ⟨v125, rfl, ho0, hb⟩; refine ⟨_, rfl, ?_⟩; have n0_ := Aside0.mk (Kd.R_elder' (by (with_reducible repeat (first | apply Kd.R_alloc | apply Kd.R_drewN | apply Kd.R_drew)); exact HO_6.out) (Kd.R_base ho0) hb); have n1_ := Aside0.mk (Kd.R_elder' (by (with_reducible repeat (first | apply Kd.R_alloc | apply Kd.R_drewN | apply Kd.R_drew)); exact HO_8.out) (Kd.R_base ho0) hb); have n2_ := Aside0.mk (Kd.R_elder' (by (with_reducible repeat (first | apply Kd.R_alloc | apply Kd.R_drewN | apply Kd.R_drew)); exact HO_9.out) (Kd.R_base ho0) hb); have n3_ := Aside0.mk (Kd.R_elder' (by (with_reducible repeat (first | apply Kd.R_alloc | apply Kd.R_drewN | apply Kd.R_drew)); exact HO_10.out) (Kd.R_base ho0) hb); have n4_ := Aside0.mk (Kd.R_lower (Kd.R_new' (Kd.R_new' (Kd.R_new' (Kd.R_new' ho0 (Kd.R_lt (by (with_reducible repeat (first | apply Kd.R_alloc | apply Kd.R_drewN | apply Kd.R_drew)); exact HO_6.out))) (Kd.R_lt (by (with_reducible repeat (first | apply Kd.R_alloc | apply Kd.R_drewN | apply Kd.R_drew)); exact HO_8.out))) (Kd.R_lt (by (with_reducible repeat (first | apply Kd.R_alloc | apply Kd.R_drewN | apply Kd.R_drew)); exact HO_9.out))) (Kd.R_lt (by (with_reducible repeat (first | apply Kd.R_alloc | apply Kd.R_drewN | apply Kd.R_drew)); exact HO_10.out))) (below_size (by repeat (first | (with_reducible first | exact HB.out | apply below_alloc | apply pw_below_drewN | apply below_drew1) | exact HB.out)))); have n5_ := Aside0.mk (below_step (by repeat (first | (with_reducible first | exact HB.out | apply below_alloc | apply pw_below_drewN | apply below_drew1) | exact HB.out)) hb); clear HO_6; clear HO_8; clear HO_9; clear HO_10; clear HB; have HO_6 := n0_; have HO_8 := n1_; have HO_9 := n2_; have HO_10 := n3_; have HO126 := n4_; have HB := n5_; clear n0_ n1_ n2_ n3_ n4_ n5_; (try clear hb); (try clear hb2); (try clear hk); (try clear hi); (try clear ho0); obtain ⟨Ao92, co92, eo92⟩ := Kd.R_slice HO126.out; subst eo92) | ((with_reducible refine gate_callee (f := 17) rfl ?_); refine goesL_ (some 57) rfl rfl Try.func17 (by kernel_rfl) rfl #[.slice Ao21 t113.length co21, .slice Ao92 t124.length co92] rfl (by (try simp only [List.map_toArray, List.map_cons, List.map_nil]); first | done | rfl | (simp only [List.length_drop, List.length_take]; rfl)) ?_; (with_reducible refine (laws_eqBlockS.calls kj12 _ _ t113 _ _ t124 true _ ?side1 ?side2 ?side3 ?side4 A34.out).mono ?_); (case side1 => repeat (first | exact (Kd.R_reads' HO_8.out).2.2 | (with_reducible refine Kd.C_alloc ?_ _) | (with_reducible refine Kd.C_drewN ?_ _) | (with_reducible refine Kd.C_drew ?_))); (case side2 => exact (Kd.R_reads' HO_8.out).2.1); (case side3 => repeat (first | exact (Kd.R_reads' HO126.out).2.2 | (with_reducible refine Kd.C_alloc ?_ _) | (with_reducible refine Kd.C_drewN ?_ _) | (with_reducible refine Kd.C_drew ?_))); (case side4 => exact (Kd.R_reads' HO126.out).2.1); rintro e w93 ⟨rfl, hb⟩; refine ⟨_, rfl, ?_⟩; have n0_ := Aside0.mk (Kd.R_below (by (with_reducible repeat (first | apply Kd.R_alloc | apply Kd.R_drewN | apply Kd.R_drew)); exact HO_6.out) hb); have n1_ := Aside0.mk (Kd.R_below (by (with_reducible repeat (first | apply Kd.R_alloc | apply Kd.R_drewN | apply Kd.R_drew)); exact HO_8.out) hb); have n2_ := Aside0.mk (Kd.R_below (by (with_reducible repeat (first | apply Kd.R_alloc | apply Kd.R_drewN | apply Kd.R_drew)); exact HO_9.out) hb); have n3_ := Aside0.mk (Kd.R_below (by (with_reducible repeat (first | apply Kd.R_alloc | apply Kd.R_drewN | apply Kd.R_drew)); exact HO_10.out) hb); have n4_ := Aside0.mk (Kd.R_below (by (with_reducible repeat (first | apply Kd.R_alloc | apply Kd.R_drewN | apply Kd.R_drew)); exact HO126.out) hb); have n5_ := Aside0.mk (below_step (by repeat (first | (with_reducible first | exact HB.out | apply below_alloc | apply pw_below_drewN | apply below_drew1) | exact HB.out)) hb); clear HO_6; clear HO_8; clear HO_9; clear HO_10; clear HO126; clear HB; have HO_6 := n0_; have HO_8 := n1_; have HO_9 := n2_; have HO_10 := n3_; have HO126 := n4_; have HB := n5_; clear n0_ n1_ n2_ n3_ n4_ n5_; (try clear hb); (try clear hb2); (try clear hk); (try clear hi)) | ((with_reducible refine gate_callee (f := 15) rfl ?_); refine goesL_ (some 61) rfl rfl Try.func15 (by kernel_rfl) rfl #[.slice A1 l1.length c1] rfl (by (try simp only [List.map_toArray, List.map_cons, List.map_nil]); first | done | rfl | (simp only [List.length_drop, List.length_take]; rfl)) ?_; (with_reducible refine (laws_toBlockS.calls kj12 _ _ l1 t128 _ ?side1 ?side2 A36.out).mono ?_); (case side1 => repeat (first | exact (Kd.C_below HR1.out HB.out) | (with_reducible refine Kd.C_alloc ?_ _) | (with_reducible refine Kd.C_drewN ?_ _) | (with_reducible refine Kd.C_drew ?_))); (case side2 => exact HC1.out); rintro e w94 ⟨v129, rfl, ho0, hb⟩; refine ⟨_, rfl, ?_⟩; have n0_ := Aside0.mk (Kd.R_elder' (by (with_reducible repeat (first | apply Kd.R_alloc | apply Kd.R_drewN | apply Kd.R_drew)); exact HO_6.out) (Kd.R_base ho0) hb); have n1_ := Aside0.mk (Kd.R_elder' (by (with_reducible repeat (first | apply Kd.R_alloc | apply Kd.R_drewN | apply Kd.R_drew)); exact HO_8.out) (Kd.R_base ho0) hb); have n2_ := Aside0.mk (Kd.R_elder' (by (with_reducible repeat (first | apply Kd.R_alloc | apply Kd.R_drewN | apply Kd.R_drew)); exact HO_9.out) (Kd.R_base ho0) hb); have n3_ := Aside0.mk (Kd.R_elder' (by (with_reducible repeat (first | apply Kd.R_alloc | apply Kd.R_drewN | apply Kd.R_drew)); exact HO_10.out) (Kd.R_base ho0) hb); have n4_ := Aside0.mk (Kd.R_elder' (by (with_reducible repeat (first | apply Kd.R_alloc | apply Kd.R_drewN | apply Kd.R_drew)); exact HO126.out) (Kd.R_base ho0) hb); have n5_ := Aside0.mk (Kd.R_lower (Kd.R_new' (Kd.R_new' (Kd.R_new' (Kd.R_new' (Kd.R_new' ho0 (Kd.R_lt (by (with_reducible repeat (first | apply Kd.R_alloc | apply Kd.R_drewN | apply Kd.R_drew)); exact HO_6.out))) (Kd.R_lt (by (with_reducible repeat (first | apply Kd.R_alloc | apply Kd.R_drewN | apply Kd.R_drew)); exact HO_8.out))) (Kd.R_lt (by (with_reducible repeat (first | apply Kd.R_alloc | apply Kd.R_drewN | apply Kd.R_drew)); exact HO_9.out))) (Kd.R_lt (by (with_reducible repeat (first | apply Kd.R_alloc | apply Kd.R_drewN | apply Kd.R_drew)); exact HO_10.out))) (Kd.R_lt (by (with_reducible repeat (first | apply Kd.R_alloc | apply Kd.R_drewN | apply Kd.R_drew)); exact HO126.out))) (below_size (by repeat (first | (with_reducible first | exact HB.out | apply below_alloc | apply pw_below_drewN | apply below_drew1) | exact HB.out)))); have n6_ := Aside0.mk (below_step (by repeat (first | (with_reducible first | exact HB.out | apply below_alloc | apply pw_below_drewN | apply below_drew1) | exact HB.out)) hb); clear HO_6; clear HO_8; clear HO_9; clear HO_10; clear HO126; clear HB; have HO_6 := n0_; have HO_8 := n1_; have HO_9 := n2_; have HO_10 := n3_; have HO126 := n4_; have HO130 := n5_; have HB := n6_; clear n0_ n1_ n2_ n3_ n4_ n5_ n6_; (try clear hb); (try clear hb2); (try clear hk); (try clear hi); (try clear ho0); obtain ⟨Ao95, co95, eo95⟩ := Kd.R_slice HO130.out; subst eo95) | ((with_reducible refine gate_callee (f := 17) rfl ?_); refine goesL_ (some 62) rfl rfl Try.func17 (by kernel_rfl) rfl #[.slice Ao22 t116.length co22, .slice Ao95 t128.length co95] rfl (by (try simp only [List.map_toArray, List.map_cons, List.map_nil]); first | done | rfl | (simp only [List.length_drop, List.length_take]; rfl)) ?_; (with_reducible refine (laws_eqBlockS.calls kj12 _ _ t116 _ _ t128 false _ ?side1 ?side2 ?side3 ?side4 A37.out).mono ?_); (case side1 => repeat (first | exact (Kd.R_reads' HO_9.out).2.2 | (with_reducible refine Kd.C_alloc ?_ _) | (with_reducible refine Kd.C_drewN ?_ _) | (with_reducible refine Kd.C_drew ?_))); (case side2 => exact (Kd.R_reads' HO_9.out).2.1); (case side3 => repeat (first | exact (Kd.R_reads' HO130.out).2.2 | (with_reducible refine Kd.C_alloc ?_ _) | (with_reducible refine Kd.C_drewN ?_ _) | (with_reducible refine Kd.C_drew ?_))); (case side4 => exact (Kd.R_reads' HO130.out).2.1); rintro e w96 ⟨rfl, hb⟩; refine ⟨_, rfl, ?_⟩; have n0_ := Aside0.mk (Kd.R_below (by (with_reducible repeat (first | apply Kd.R_alloc | apply Kd.R_drewN | apply Kd.R_drew)); exact HO_6.out) hb); have n1_ := Aside0.mk (Kd.R_below (by (with_reducible repeat (first | apply Kd.R_alloc | apply Kd.R_drewN | apply Kd.R_drew)); exact HO_8.out) hb); have n2_ := Aside0.mk (Kd.R_below (by (with_reducible repeat (first | apply Kd.R_alloc | apply Kd.R_drewN | apply Kd.R_drew)); exact HO_9.out) hb); have n3_ := Aside0.mk (Kd.R_below (by (with_reducible repeat (first | apply Kd.R_alloc | apply Kd.R_drewN | apply Kd.R_drew)); exact HO_10.out) hb); have n4_ := Aside0.mk (Kd.R_below (by (with_reducible repeat (first | apply Kd.R_alloc | apply Kd.R_drewN | apply Kd.R_drew)); exact HO126.out) hb); have n5_ := Aside0.mk (Kd.R_below (by (with_reducible repeat (first | apply Kd.R_alloc | apply Kd.R_drewN | apply Kd.R_drew)); exact HO130.out) hb); have n6_ := Aside0.mk (below_step (by repeat (first | (with_reducible first | exact HB.out | apply below_alloc | apply pw_below_drewN | apply below_drew1) | exact HB.out)) hb); clear HO_6; clear HO_8; clear HO_9; clear HO_10; clear HO126; clear HO130; clear HB; have HO_6 := n0_; have HO_8 := n1_; have HO_9 := n2_; have HO_10 := n3_; have HO126 := n4_; have HO130 := n5_; have HB := n6_; clear n0_ n1_ n2_ n3_ n4_ n5_ n6_; (try clear hb); (try clear hb2); (try clear hk); (try clear hi)))
        go_ret
        exact ⟨by first | rfl | (simp [errW_none, errW_some] <;> rfl) | (simp [*, errW_none, errW_some] <;> rfl), by repeat (first | (with_reducible first | exact HB.out | apply below_alloc | apply pw_below_drewN | apply below_drew1) | exact HB.out)⟩
      ·replace c35 := Bool.eq_false_iff.mpr c35
       subst c35
       have H1 : (some false) = some r := by rw [if_neg (show ¬ (false = true) by decide)] at H; exact H
       clear H
       have H := H1
       clear H1
       obtain rfl := Option.some.inj H
       go_wp2_with (first | ((with_reducible refine gate_callee (f := 15) rfl ?_); refine goesL_ (some 56) rfl rfl Try.func15 (by kernel_rfl) rfl #[.slice A0 l0.length c0] rfl (by (try simp only [List.map_toArray, List.map_cons, List.map_nil]); first | done | rfl | (simp only [List.length_drop, List.length_take]; rfl)) ?_; (with_reducible refine (laws_toBlockS.calls kj12 _ _ l0 t124 _ ?side1 ?side2 A33.out).mono ?_); (case side1 => repeat (first | exact (Kd.C_below HR0.out HB.out) | (with_reducible refine Kd.C_alloc ?_ _) | (with_reducible refine Kd.C_drewN ?_ _) | (with_reducible refine Kd.C_drew ?_))); (case side2 => exact HC0.out); rintro e w97 ⟨v125, rfl, ho0, hb⟩; refine ⟨_, rfl, ?_⟩; have n0_ := Aside0.mk (Kd.R_elder' (by (with_reducible repeat (first | apply Kd.R_alloc | apply Kd.R_drewN | apply Kd.R_drew)); exact HO_6.out) (Kd.R_base ho0) hb); have n1_ := Aside0.mk (Kd.R_elder' (by (with_reducible repeat (first | apply Kd.R_alloc | apply Kd.R_drewN | apply Kd.R_drew)); exact HO_8.out) (Kd.R_base ho0) hb); have n2_ := Aside0.mk (Kd.R_elder' (by (with_reducible repeat (first | apply Kd.R_alloc | apply Kd.R_drewN | apply Kd.R_drew)); exact HO_9.out) (Kd.R_base ho0) hb); have n3_ := Aside0.mk (Kd.R_elder' (by (with_reducible repeat (first | apply Kd.R_alloc | apply Kd.R_drewN | apply Kd.R_drew)); exact HO_10.out) (Kd.R_base ho0) hb); have n4_ := Aside0.mk (Kd.R_lower (Kd.R_new' (Kd.R_new' (Kd.R_new' (Kd.R_new' ho0 (Kd.R_lt (by (with_reducible repeat (first | apply Kd.R_alloc | apply Kd.R_drewN | apply Kd.R_drew)); exact HO_6.out))) (Kd.R_lt (by (with_reducible repeat (first | apply Kd.R_alloc | apply Kd.R_drewN | apply Kd.R_drew)); exact HO_8.out))) (Kd.R_lt (by (with_reducible repeat (first | apply Kd.R_alloc | apply Kd.R_drewN | apply Kd.R_drew)); exact HO_9.out))) (Kd.R_lt (by (with_reducible repeat (first | apply Kd.R_alloc | apply Kd.R_drewN | apply Kd.R_drew)); exact HO_10.out))) (below_size (by repeat (first | (with_reducible first | exact HB.out | apply below_alloc | apply pw_below_drewN | apply below_drew1) | exact HB.out)))); have n5_ := Aside0.mk (below_step (by repeat (first | (with_reducible first | exact HB.out | apply below_alloc | apply pw_below_drewN | apply below_drew1) | exact HB.out)) hb); clear HO_6; clear HO_8; clear HO_9; clear HO_10; clear HB; have HO_6 := n0_; have HO_8 := n1_; have HO_9 := n2_; have HO_10 := n3_; have HO126 := n4_; have HB := n5_; clear n0_ n1_ n2_ n3_ n4_ n5_; (try clear hb); (try clear hb2); (try clear hk); (try clear hi); (try clear ho0); obtain ⟨Ao98, co98, eo98⟩ := Kd.R_slice HO126.out; subst eo98) | ((with_reducible refine gate_callee (f := 17) rfl ?_); refine goesL_ (some 57) rfl rfl Try.func17 (by kernel_rfl) rfl #[.slice Ao21 t113.length co21, .slice Ao98 t124.length co98] rfl (by (try simp only [List.map_toArray, List.map_cons, List.map_nil]); first | done | rfl | (simp only [List.length_drop, List.length_take]; rfl)) ?_; (with_reducible refine (laws_eqBlockS.calls kj12 _ _ t113 _ _ t124 false _ ?side1 ?side2 ?side3 ?side4 A34.out).mono ?_); (case side1 => repeat (first | exact (Kd.R_reads' HO_8.out).2.2 | (with_reducible refine Kd.C_alloc ?_ _) | (with_reducible refine Kd.C_drewN ?_ _) | (with_reducible refine Kd.C_drew ?_))); (case side2 => exact (Kd.R_reads' HO_8.out).2.1); (case side3 => repeat (first | exact (Kd.R_reads' HO126.out).2.2 | (with_reducible refine Kd.C_alloc ?_ _) | (with_reducible refine Kd.C_drewN ?_ _) | (with_reducible refine Kd.C_drew ?_))); (case side4 => exact (Kd.R_reads' HO126.out).2.1); rintro e w99 ⟨rfl, hb⟩; refine ⟨_, rfl, ?_⟩; have n0_ := Aside0.mk (Kd.R_below (by (with_reducible repeat (first | apply Kd.R_alloc | apply Kd.R_drewN | apply Kd.R_drew)); exact HO_6.out) hb); have n1_ := Aside0.mk (Kd.R_below (by (with_reducible repeat (first | apply Kd.R_alloc | apply Kd.R_drewN | apply Kd.R_drew)); exact HO_8.out) hb); have n2_ := Aside0.mk (Kd.R_below (by (with_reducible repeat (first | apply Kd.R_alloc | apply Kd.R_drewN | apply Kd.R_drew)); exact HO_9.out) hb); have n3_ := Aside0.mk (Kd.R_below (by (with_reducible repeat (first | apply Kd.R_alloc | apply Kd.R_drewN | apply Kd.R_drew)); exact HO_10.out) hb); have n4_ := Aside0.mk (Kd.R_below (by (with_reducible repeat (first | apply Kd.R_alloc | apply Kd.R_drewN | apply Kd.R_drew)); exact HO126.out) hb); have n5_ := Aside0.mk (below_step (by repeat (first | (with_reducible first | exact HB.out | apply below_alloc | apply pw_below_drewN | apply below_drew1) | exact HB.out)) hb); clear HO_6; clear HO_8; clear HO_9; clear HO_10; clear HO126; clear HB; have HO_6 := n0_; have HO_8 := n1_; have HO_9 := n2_; have HO_10 := n3_; have HO126 := n4_; have HB := n5_; clear n0_ n1_ n2_ n3_ n4_ n5_; (try clear hb); (try clear hb2); (try clear hk); (try clear hi)))
       go_ret
       exact ⟨by first | rfl | (simp [errW_none, errW_some] <;> rfl) | (simp [*, errW_none, errW_some] <;> rfl), by repeat (first | (with_reducible first | exact HB.out | apply below_alloc | apply pw_below_drewN | apply below_drew1) | exact HB.out)⟩
end Go.Proofs.Ytmdhedkgpgoneaa.Q

namespace Go.Proofs.Ytmdhedkgpgoneaa.Open
open Go.RowKit Go.ChangeShapes Go.WideShapes Go.Deep Go.Proofs.YtmdhedkgpgoneaaW.PrintWords
/-- A number is an int of 64 bits. -/
def I64 (n : Int) : Prop := -9223372036854775808 ≤ n ∧ n ≤ 9223372036854775807
/-- What the cells of a type say. -/
def Opens (P : Program) (w : World) (t : TypeId) {α : Type} (d : Kd α) (p : α → Prop) : Prop :=
 ∀ (H : Type) (enc : TypeId × Value → H) (base : Nat) (spare : Nat → Bool) (held : Bool) (fuel : Nat) (cs : List Value) (x : DataW H × List MemPlace),
  DataW.trod enc P w base spare held fuel t cs = some x → ∃ a, d.K w a cs ∧ p a
theorem i64_of {n : Int} (h : (Lit.int .i64 n).wf = true) : I64 n := by
 simp only [Lit.wf, Bool.and_eq_true, decide_eq_true_eq] at h
 exact ⟨h.1, h.2⟩
theorem opens_i64 {P : Program} {w : World} {t : TypeId} (ht : P.underlying t = some (.int .i64)) : Opens P w t (Kd.int .i64) (fun n => I64 n) := by
 intro H enc base spare held fuel cs x h
 obtain ⟨n, rfl, _, hw⟩ := DataW.trod_int ht h
 exact ⟨n, rfl, i64_of hw⟩
theorem pick {α : Type} (n : Nat) (R : Nat → α → Prop) (h : ∀ i, i < n → ∃ a, R i a) : ∃ xs : List α, xs.length = n ∧ ∀ i a, xs[i]? = some a → R i a := by
 induction n with
 | zero => exact ⟨[], rfl, fun i a e => by simp at e⟩
 | succ n ih =>
  obtain ⟨xs, hl, hx⟩ := ih (fun i hi => h i (by omega))
  obtain ⟨a, ha⟩ := h n (by omega)
  refine ⟨xs ++ [a], by simp [hl], fun i b e => ?_⟩
  rcases Nat.lt_or_ge i xs.length with hi | hi
  ·rw [List.getElem?_append_left hi] at e
   exact hx i b e
  ·have hlt := (List.getElem?_eq_some_iff.1 e).1
   rw [List.length_append, List.length_singleton] at hlt
   obtain rfl : i = xs.length := by omega
   simp at e
   subst e
   rw [hl]
   exact ha
theorem opens_slice {P : Program} {w : World} {t e : TypeId} {α : Type} {d : Kd α} {p : α → Prop} (ht : P.underlying t = some (.slice e)) (hc : P.cellsOf e = d.sz) (he : Opens P w e d p) :
  Opens P w t (Kd.slice e d) (fun xs => xs.length ≤ 9223372036854775807 ∧ ∀ y ∈ xs, p y) := by
 intro H enc base spare held fuel cs x h
 rcases open_slice ht h with ⟨rfl, _⟩ | ⟨a, len, cap, m, n, D, Pl, rfl, _, hl, hm, hmm, _, hi⟩
 ·exact ⟨[], ⟨none, 0, rfl, by simp, by simp, by simp, fun hn => by simp at hn⟩, by simp, by simp⟩
 ·have hle : len ≤ m := by rw [hmm]; split <;> omega
  obtain ⟨xs, hxl, hx⟩ := pick len (fun i y => p y ∧ ∃ c, c.length = d.sz ∧ d.K w y c ∧ ∀ j u, c[j]? = some u → w.cell? (a.add (i * d.sz + j)) = some u) (fun i hil => by
   obtain ⟨cs', h1, h2⟩ := hi i (by omega)
   obtain ⟨y, hK, hp⟩ := he _ _ _ _ _ _ _ _ h2
   obtain ⟨_, hcl, hat⟩ := World.cells?_some h1
   rw [hc] at hcl hat
   refine ⟨y, hp, cs', hcl, hK, fun j u hu => ?_⟩
   have hj := (List.getElem?_eq_some_iff.1 hu).1
   rw [← Go.Deep.add_add, hat j (by omega), hu])
  have hmx : maxLen = 9223372036854775807 := rfl
  refine ⟨xs, ⟨some a, cap, by rw [hxl], by omega, ?_⟩, by omega, fun y hy => ?_⟩
  ·refine ⟨rfl, by omega, fun _ => ⟨a, rfl, fun j q hj => ?_⟩⟩
   obtain ⟨_, c, h1, h2, h3⟩ := hx j q hj
   exact ⟨c, h1, h2, h3⟩
  ·obtain ⟨i, hi2⟩ := List.getElem?_of_mem hy
   exact (hx i y hi2).1
theorem open_fields {H : Type} {enc : TypeId × Value → H} {P : Program} {w : World} {base : Nat} {spare : Nat → Bool} {held : Bool} {t : TypeId} {fs : Array Field} {fuel m : Nat} {cs : List Value} {x : DataW H × List MemPlace}
  (ht : P.underlying t = some (.struct fs)) (hm : P.cellsOf t = m) (h : DataW.trod enc P w base spare held fuel t cs = some x) :
  ∃ (n : Nat), cs.length = m ∧ ∀ (i : Nat) (f : Field), fs[i]? = some f → ∃ y, DataW.trod enc P w base spare held n f.type ((cs.drop f.offset).take (P.cellsOf f.type)) = some y := by
 obtain ⟨xs, n, _, _, hl, hlen, hf⟩ := DataW.trod_struct ht h
 refine ⟨n, by rw [hl, hm], fun i f hi => ?_⟩
 have hlt : i < xs.length := by rw [hlen]; exact (Array.getElem?_eq_some_iff.1 hi).1
 exact ⟨xs[i], by rw [hf i f hi, List.getElem?_eq_getElem hlt]⟩
theorem field_opens {H : Type} {enc : TypeId × Value → H} {P : Program} {w : World} {base : Nat} {spare : Nat → Bool} {held : Bool} {t : TypeId} {α : Type} {d : Kd α} {p : α → Prop} {n o s i : Nat} {cs : List Value} {fs : Array Field} {f : Field} (he : Opens P w t d p)
  (hf : ∀ (i : Nat) (f : Field), fs[i]? = some f → ∃ y, DataW.trod enc P w base spare held n f.type ((cs.drop f.offset).take (P.cellsOf f.type)) = some y)
  (hi : fs[i]? = some f) (ht : f.type = t) (ho : f.offset = o) (hs : P.cellsOf t = s) : ∃ a, d.K w a ((cs.drop o).take s) ∧ p a := by
 obtain ⟨y, hy⟩ := hf i f hi
 subst ht ho hs
 exact he _ _ _ _ _ _ _ _ hy
theorem split_piece (cs : List Value) (o s : Nat) : cs.drop o = (cs.drop o).take s ++ cs.drop (o + s) := by
 rw [← List.drop_drop]
 exact (List.take_append_drop s _).symm
theorem last_piece {α : Type} {d : Kd α} {w : World} {x : α} {cs : List Value} {o s : Nat} (hl : cs.length = o + s) (h : d.K w x ((cs.drop o).take s)) : d.K w x (cs.drop o) := by
 rwa [List.take_of_length_le (by rw [List.length_drop]; omega)] at h
theorem open_arg {H : Type} {enc : TypeId × Value → H} {P : Program} {w : World} {base : Nat} {spare : Nat → Bool} {held : Bool} {t : TypeId} {α : Type} {d : Kd α} {p : α → Prop} {v : Value} {dt : DataW H} {ps : List MemPlace} (he : Opens P w t d p)
  (h : DataW.Trod enc P w base spare held t v dt ps) : ∃ a, d.K w a v.cells.toList ∧ p a := by
 obtain ⟨fuel, hf⟩ := h
 exact he _ _ _ _ _ _ _ _ hf
theorem slice_of_cells {a A : Option Addr} {len cap n c : Nat} (h : (Value.slice a len cap).cells.toList = [.slice A n c]) : A = a ∧ len = n ∧ c = cap := by
 simp only [Value.cells, List.cons.injEq, Value.slice.injEq, and_true] at h
 exact ⟨h.1.symm, h.2.1, h.2.2.symm⟩
end Go.Proofs.Ytmdhedkgpgoneaa.Open

namespace Go.Proofs.Ytmdhedkgpgoneaa.Q
open Go.RowKit Go.Proofs.YtmdhedkgpgoneaaW.PrintWords Go.Proofs.Ytmdhedkgpgoneaa.Open
theorem op3 (w : World) : Opens Try.prog w 3 (Kd.int .i64) (fun x => Open.I64 x) := opens_i64 Try.underlying3
def wf46 (x : S46) : Prop := Open.I64 x.f0 ∧ Open.I64 x.f1
theorem op46 (w : World) : Opens Try.prog w 46 k46 wf46 := by
 intro H enc base spare held fuel cs x h
 obtain ⟨n, hlen, hf⟩ := open_fields Try.underlying46 (m := 2) (by kernel_rfl) h
 obtain ⟨a0, K0, p0⟩ := field_opens (i := 0) (o := 0) (s := 1) (op3 w) hf rfl rfl rfl (by kernel_rfl)
 obtain ⟨a1, K1, p1⟩ := field_opens (i := 1) (o := 1) (s := 1) (op3 w) hf rfl rfl rfl (by kernel_rfl)
 refine ⟨⟨a0, a1⟩, ?_, p0, p1⟩
 exact ⟨_, _, split_piece cs 0 1, K0, (last_piece (o := 1) (s := 1) (by rw [hlen]) K1)⟩
theorem op22 (w : World) : Opens Try.prog w 22 (Kd.slice 46 k46) (fun x => (x.length ≤ 9223372036854775807 ∧ ∀ y ∈ x, wf46 y)) := opens_slice Try.underlying22 (by kernel_rfl) (op46 w)
end Go.Proofs.Ytmdhedkgpgoneaa.Q

namespace Go.Proofs.Ytmdhedkgpgoneaa.Q
open Go.Proofs.Ytmdhedkgpgoneaa.Open
/-- The pure statement of laws_FnExactSetLess. -/
def laws_FnExactSetLess.Pure : Prop := ∀ (x0 : List (S46)) (x1 : List (S46)), ((x0.length ≤ 9223372036854775807 ∧ ∀ y ∈ x0, wf46 y)) → ((x1.length ≤ 9223372036854775807 ∧ ∀ y ∈ x1, wf46 y)) → ∃ k, laws_FnExactSetLess.f k x0 x1 = some true
end Go.Proofs.Ytmdhedkgpgoneaa.Q

namespace Go.Proofs.Ytmdhedkgpgoneaa.Pure
open Go.RowKit
theorem w64 {x : Int} (h : -9223372036854775808 ≤ x) (h' : x ≤ 9223372036854775807) : wrap64 x = x := by
 unfold wrap64
 omega
/-- A loop that fills a list out of another one, element by element. -/
theorem fill_loop {α β : Type} (l0 : Nat → List α → List β → Int → Option (List β)) (f : α → β) (d : α) (xs : List α)
  (hstep : ∀ (k i : Nat) (ys : List β), i < xs.length → ys.length = xs.length → l0 (k + 1) xs ys (i : Int) = l0 k xs (ys.set i (f (xs.getD i d))) ((i + 1 : Nat) : Int))
  (hend : ∀ (k : Nat) (ys : List β), l0 (k + 1) xs ys (xs.length : Int) = some ys) :
  ∀ (k : Nat) (ys : List β), xs.length < k → ys.length = xs.length → l0 k xs ys 0 = some (xs.map f) := by
 have key : ∀ (e k i : Nat) (ys : List β), xs.length - i = e → e < k → i ≤ xs.length → ys.length = xs.length → (∀ j, j < i → ys[j]? = (xs.map f)[j]?) → l0 k xs ys (i : Int) = some (xs.map f) := by
  intro e
  induction e with
  | zero =>
   intro k i ys he hk hi hl hy
   obtain ⟨k, rfl⟩ : ∃ m, k = m + 1 := ⟨k - 1, by omega⟩
   obtain rfl : i = xs.length := by omega
   rw [hend]
   congr 1
   apply List.ext_getElem?
   intro j
   by_cases h : j < xs.length
   ·exact hy j h
   ·rw [List.getElem?_eq_none (by omega), List.getElem?_eq_none (by rw [List.length_map]; omega)]
  | succ e ih =>
   intro k i ys he hk hi hl hy
   obtain ⟨k, rfl⟩ : ∃ m, k = m + 1 := ⟨k - 1, by omega⟩
   have hlt : i < xs.length := by omega
   rw [hstep k i ys hlt hl]
   refine ih k (i + 1) _ (by omega) (by omega) (by omega) (by rw [List.length_set, hl]) (fun j hj => ?_)
   rw [List.getElem?_set]
   by_cases h : i = j
   ·subst h
    rw [if_pos rfl, if_pos (by omega), List.getElem?_map, List.getElem?_eq_getElem hlt, List.getD_eq_getElem?_getD, List.getElem?_eq_getElem hlt]
    rfl
   ·rw [if_neg h]
    exact hy j (by omega)
 intro k ys hk hl
 exact key xs.length k 0 ys (by omega) hk (by omega) hl (fun j hj => by omega)
/-- A loop that goes on at each place. -/
theorem true_loop {β : Type} (l0 : Nat → Int → Option β) (n K : Nat) (r : β) (hstep : ∀ k i : Nat, i < n → K ≤ k → l0 (k + 1) (i : Int) = l0 k ((i + 1 : Nat) : Int)) (hend : ∀ k : Nat, K ≤ k → l0 (k + 1) (n : Int) = some r) :
  ∀ k, n + K < k → l0 k 0 = some r := by
 have key : ∀ (e k i : Nat), n - i = e → e + K < k → i ≤ n → l0 k (i : Int) = some r := by
  intro e
  induction e with
  | zero =>
   intro k i he hk hi
   obtain ⟨k, rfl⟩ : ∃ m, k = m + 1 := ⟨k - 1, by omega⟩
   obtain rfl : i = n := by omega
   exact hend k (by omega)
  | succ e ih =>
   intro k i he hk hi
   obtain ⟨k, rfl⟩ : ∃ m, k = m + 1 := ⟨k - 1, by omega⟩
   rw [hstep k i (by omega) (by omega)]
   exact ih k (i + 1) (by omega) (by omega) (by omega)
 intro k hk
 exact key n k 0 (by omega) (by omega) (by omega)
/-- A loop that leaves at the first place that isn't good. -/
theorem scan_loop {β : Type} (l0 : Nat → Int → Option β) (n K : Nat) (good : Nat → Bool) (bad fin : β)
  (hgood : ∀ k i : Nat, i < n → K ≤ k → (∀ j, j < i → good j = true) → good i = true → l0 (k + 1) (i : Int) = l0 k ((i + 1 : Nat) : Int))
  (hbad : ∀ k i : Nat, i < n → K ≤ k → (∀ j, j < i → good j = true) → good i = false → l0 (k + 1) (i : Int) = some bad)
  (hend : ∀ k : Nat, K ≤ k → l0 (k + 1) (n : Int) = some fin) :
  ∀ k, n + K < k → l0 k 0 = some (if (List.range n).all good then fin else bad) := by
 have key : ∀ (e k i : Nat), n - i = e → e + K < k → i ≤ n → (∀ j, j < i → good j = true) → l0 k (i : Int) = some (if (List.range n).all good then fin else bad) := by
  intro e
  induction e with
  | zero =>
   intro k i he hk hi hg
   obtain ⟨k, rfl⟩ : ∃ m, k = m + 1 := ⟨k - 1, by omega⟩
   obtain rfl : i = n := by omega
   rw [hend k (by omega), if_pos]
   rw [List.all_eq_true]
   exact fun x hx => hg x (List.mem_range.1 hx)
  | succ e ih =>
   intro k i he hk hi hg
   obtain ⟨k, rfl⟩ : ∃ m, k = m + 1 := ⟨k - 1, by omega⟩
   cases hc : good i with
   | true =>
    rw [hgood k i (by omega) (by omega) hg hc]
    refine ih k (i + 1) (by omega) (by omega) (by omega) (fun j hj => ?_)
    by_cases h : j = i
    ·rw [h]; exact hc
    ·exact hg j (by omega)
   | false =>
    rw [hbad k i (by omega) (by omega) hg hc, if_neg]
    rw [List.all_eq_true]
    intro h
    have := h i (List.mem_range.2 (by omega))
    rw [hc] at this
    exact absurd this (by simp)
 intro k hk
 exact key n k 0 (by omega) (by omega) (by omega) (fun j hj => by omega)
/-- A list of marks. -/
def marks {α : Type} (m : Int → α) (s v : Int) (n : Nat) : List α := (List.range n).map fun (j : Nat) => m (v + s * (j : Int))
theorem marks_length {α : Type} (m : Int → α) (s v : Int) (n : Nat) : (marks m s v n).length = n := by simp [marks]
theorem marks_get {α : Type} (m : Int → α) (s v : Int) (n i : Nat) (h : i < n) : (marks m s v n)[i]? = some (m (v + s * i)) := by
 simp [marks, h]
/-- A loop that writes marks. -/
theorem mark_loop {α : Type} (l0 : Nat → List α → Int → Int → Option (Int × List α)) (m : Int → α) (s : Int) (hs : 0 ≤ s)
  (hstep : ∀ (k i : Nat) (xs : List α) (v : Int), i < xs.length → xs.length ≤ 35184372088832 → 1 ≤ v → v ≤ 1000000000000000000 → l0 (k + 1) xs v (i : Int) = l0 k (xs.set i (m v)) (v + s) ((i + 1 : Nat) : Int))
  (hend : ∀ (k : Nat) (xs : List α) (v : Int), l0 (k + 1) xs v (xs.length : Int) = some (v, xs)) (xs : List α) (hx : xs.length ≤ 35184372088832) (v : Int) (hv : 1 ≤ v) (hb : v + s * xs.length ≤ 1000000000000000000) :
  ∀ k, xs.length < k → l0 k xs v 0 = some (v + s * xs.length, marks m s v xs.length) := by
 have key : ∀ (e k i : Nat) (ys : List α), xs.length - i = e → e < k → i ≤ xs.length → ys.length = xs.length → (∀ j, j < i → ys[j]? = (marks m s v xs.length)[j]?) →
   l0 k ys (v + s * i) (i : Int) = some (v + s * xs.length, marks m s v xs.length) := by
  intro e
  induction e with
  | zero =>
   intro k i ys he hk hi hl hy
   obtain ⟨k, rfl⟩ : ∃ m, k = m + 1 := ⟨k - 1, by omega⟩
   obtain rfl : i = xs.length := by omega
   have h1 := hend k ys (v + s * (xs.length : Int))
   rw [hl] at h1
   rw [h1]
   congr 2
   apply List.ext_getElem?
   intro j
   by_cases h : j < xs.length
   ·exact hy j h
   ·rw [List.getElem?_eq_none (by omega), List.getElem?_eq_none (by rw [marks_length]; omega)]
  | succ e ih =>
   intro k i ys he hk hi hl hy
   obtain ⟨k, rfl⟩ : ∃ m, k = m + 1 := ⟨k - 1, by omega⟩
   have hlt : i < xs.length := by omega
   have h1 : s * (i : Int) ≤ s * (xs.length : Int) := Int.mul_le_mul_of_nonneg_left (by omega) hs
   have h2 : 0 ≤ s * (i : Int) := Int.mul_nonneg hs (by omega)
   rw [hstep k i ys (v + s * i) (by omega) (by omega) (by omega) (by omega), show v + s * (i : Int) + s = v + s * ((i + 1 : Nat) : Int) by rw [show ((i + 1 : Nat) : Int) = (i : Int) + 1 by omega, Int.mul_add]; omega]
   refine ih k (i + 1) _ (by omega) (by omega) (by omega) (by rw [List.length_set, hl]) (fun j hj => ?_)
   rw [List.getElem?_set]
   by_cases h : i = j
   ·subst h
    rw [if_pos rfl, if_pos (by omega), marks_get _ _ _ _ _ hlt]
   ·rw [if_neg h]
    exact hy j (by omega)
 intro k hk
 have := key xs.length k 0 xs (by omega) hk (by omega) rfl (fun j hj => by omega)
 rwa [show v + s * ((0 : Nat) : Int) = v by simp] at this
/-- A loop that reads marks. -/
theorem held_loop {α : Type} (l0 : Nat → List α → Int → Int → Option Int) (m : Int → α) (s : Int) (hs : 0 ≤ s)
  (hstep : ∀ (k i : Nat) (xs : List α) (v : Int), i < xs.length → xs.length ≤ 35184372088832 → 1 ≤ v → v ≤ 1000000000000000000 → xs[i]? = some (m v) → l0 (k + 1) xs v (i : Int) = l0 k xs (v + s) ((i + 1 : Nat) : Int))
  (hend : ∀ (k : Nat) (xs : List α) (v : Int), l0 (k + 1) xs v (xs.length : Int) = some v) (n : Nat) (hx : n ≤ 35184372088832) (v : Int) (hv : 1 ≤ v) (hb : v + s * n ≤ 1000000000000000000) :
  ∀ k, n < k → l0 k (marks m s v n) v 0 = some (v + s * n) := by
 have key : ∀ (e k i : Nat), n - i = e → e < k → i ≤ n → l0 k (marks m s v n) (v + s * i) (i : Int) = some (v + s * n) := by
  intro e
  induction e with
  | zero =>
   intro k i he hk hi
   obtain ⟨k, rfl⟩ : ∃ m, k = m + 1 := ⟨k - 1, by omega⟩
   obtain rfl : i = n := by omega
   have h1 := hend k (marks m s v i) (v + s * (i : Int))
   rw [marks_length] at h1
   exact h1
  | succ e ih =>
   intro k i he hk hi
   obtain ⟨k, rfl⟩ : ∃ m, k = m + 1 := ⟨k - 1, by omega⟩
   have hlt : i < n := by omega
   have h1 : s * (i : Int) ≤ s * (n : Int) := Int.mul_le_mul_of_nonneg_left (by omega) hs
   have h2 : 0 ≤ s * (i : Int) := Int.mul_nonneg hs (by omega)
   rw [hstep k i (marks m s v n) (v + s * i) (by rw [marks_length]; exact hlt) (by rw [marks_length]; exact hx) (by omega) (by omega) (marks_get _ _ _ _ _ hlt), show v + s * (i : Int) + s = v + s * ((i + 1 : Nat) : Int) by rw [show ((i + 1 : Nat) : Int) = (i : Int) + 1 by omega, Int.mul_add]; omega]
   exact ih k (i + 1) (by omega) (by omega) (by omega)
 intro k hk
 have := key n k 0 (by omega) hk (by omega)
 rwa [show v + s * ((0 : Nat) : Int) = v by simp] at this
end Go.Proofs.Ytmdhedkgpgoneaa.Pure

namespace Go.Proofs.Ytmdhedkgpgoneaa.Pure
open Go.RowKit Go.Proofs.Ytmdhedkgpgoneaa.Q Go.Proofs.YtmdhedkgpgoneaaW.PrintWords Go.Proofs.YtmdhedkgpgoneaaW.PrintLast Go.Proofs.YtmdhedkgpgoneaaW.PrintMore
/-- How many addresses a block of b bits has. -/
def sz (b : Int) : Int := 2 ^ (32 - b).toNat
theorem sz_pos (b : Int) : 0 < sz b := Int.pow_pos (by omega)
theorem sz_le {b : Int} (h : 0 ≤ b) : sz b ≤ 4294967296 := by
 have h1 : (32 - b).toNat ≤ 32 := by omega
 have h2 : (2 : Nat) ^ (32 - b).toNat ≤ 2 ^ 32 := Nat.pow_le_pow_right (by omega) h1
 have h3 : ((2 : Nat) ^ (32 - b).toNat : Nat) ≤ 4294967296 := by simpa using h2
 unfold sz
 have h4 : ((2 ^ (32 - b).toNat : Nat) : Int) = (2 : Int) ^ (32 - b).toNat := by norm_cast
 omega
theorem in_spec (a lo hi : Int) : spec_l1In.f a lo hi = some (decide (lo ≤ a ∧ a ≤ hi)) := by
 unfold spec_l1In.f
 by_cases h : a ≥ lo
 ·rw [if_pos h]; simp [show lo ≤ a from h]
 ·rw [if_neg h]; simp [show ¬ lo ≤ a from h]
theorem in_impl (a lo hi : Int) : impl_in.f a lo hi = some (decide (lo ≤ a ∧ a ≤ hi)) := by
 unfold impl_in.f
 by_cases h : a ≥ lo
 ·rw [if_pos h]; simp [show lo ≤ a from h]
 ·rw [if_neg h]; simp [show ¬ lo ≤ a from h]
theorem addr_spec (a : Int) : spec_l1Addr.f a = some (decide (0 ≤ a ∧ a ≤ 4294967295)) := by
 unfold spec_l1Addr.f
 rw [in_spec]
 rfl
theorem addr_impl (a : Int) : impl_isAddr.f a = some (decide (0 ≤ a ∧ a ≤ 4294967295)) := by
 unfold impl_isAddr.f
 rw [in_impl]
 rfl
theorem two_ev : ∀ (m k : Nat) (x : Int), m < k → 0 ≤ x → x * 2 ^ m ≤ 9223372036854775807 → m ≤ 62 → spec_l1Two.l0 k m x = some (x * 2 ^ m) := by
 intro m
 induction m with
 | zero =>
  intro k x hk h0 h1 _
  obtain ⟨k, rfl⟩ : ∃ j, k = j + 1 := ⟨k - 1, by omega⟩
  simp only [spec_l1Two.l0]
  rw [if_neg (by omega)]
  simp
 | succ m ih =>
  intro k x hk h0 h1 hm
  obtain ⟨k, rfl⟩ : ∃ j, k = j + 1 := ⟨k - 1, by omega⟩
  simp only [spec_l1Two.l0]
  rw [if_pos (by omega)]
  have e : x * 2 ^ (m + 1) = x * 2 * 2 ^ m := by rw [Int.pow_succ]; rw [Int.mul_comm (2 ^ m) 2, Int.mul_assoc]
  have p : (1 : Int) ≤ 2 ^ m := Int.pow_pos (by omega)
  have h2 : x * 2 ≤ x * 2 * 2 ^ m := by
   have := Int.mul_le_mul_of_nonneg_left p (show 0 ≤ x * 2 by omega)
   omega
  rw [w64 (by omega) (by omega), w64 (by omega) (by omega), show (((m + 1 : Nat) : Int) - 1) = (m : Int) by omega, ih k (x * 2) (by omega) (by omega) (by rw [← e]; exact h1) (by omega), e]
theorem size_spec {b : Int} {k : Nat} (h0 : 0 ≤ b) (h1 : b ≤ 32) (hk : 40 ≤ k) : spec_l1Size.f k b = some (sz b) := by
 unfold spec_l1Size.f spec_l1Two.f
 rw [w64 (by omega) (by omega)]
 have e : (32 - b) = (((32 - b).toNat : Nat) : Int) := by omega
 have hs := sz_le h0
 rw [e, two_ev _ k 1 (by omega) (by omega) (by unfold sz at hs; omega) (by omega)]
 simp [sz]
theorem size_impl {a b : Int} (h0 : 0 ≤ b) (h1 : b ≤ 32) : impl_Block_size.f a b = some (sz b) := by
 unfold impl_Block_size.f
 have hs := sz_le h0
 have hp := sz_pos b
 rw [w64 (by omega) (by omega), if_pos (by omega)]
 unfold shl
 rw [show min (32 - b).toNat IntKind.i64.bits = (32 - b).toNat from Nat.min_eq_left (by show (32 - b).toNat ≤ 64; omega)]
 congr 1
 rw [Int.one_mul]
 show IntKind.i64.wrap (sz b) = sz b
 rw [IntKind.wrap_i64]
 omega
/-- A block is valid. -/
def bok (a b : Int) : Bool := decide (0 ≤ a ∧ a ≤ 4294967295 ∧ 0 ≤ b ∧ b ≤ 32 ∧ a % sz b = 0)
theorem bok_iff {a b : Int} : bok a b = true ↔ 0 ≤ a ∧ a ≤ 4294967295 ∧ 0 ≤ b ∧ b ≤ 32 ∧ a % sz b = 0 := by
 unfold bok
 rw [decide_eq_true_iff]
theorem tmod_of {a b : Int} (h : 0 ≤ a) : Int.tmod a (sz b) = a % sz b := Int.tmod_eq_emod_of_nonneg h
theorem ok_spec {k : Nat} (a b : Int) (hk : 40 ≤ k) : spec_BlockOk.f k a b = some (bok a b) := by
 unfold spec_BlockOk.f
 rw [addr_spec, Option.bind_some]
 by_cases h : 0 ≤ a ∧ a ≤ 4294967295
 ·rw [if_pos (by simpa using h), in_spec, Option.bind_some]
  by_cases h2 : 0 ≤ b ∧ b ≤ 32
  ·rw [if_pos (by simpa using h2), size_spec h2.1 h2.2 hk, Option.bind_some, if_neg (by have := sz_pos b; omega), tmod_of h.1]
   congr 1
   unfold bok
   rw [Bool.eq_iff_iff]
   simp [h, h2]
  ·rw [if_neg (by simpa using h2)]
   congr 1
   symm
   unfold bok
   rw [decide_eq_false_iff_not]
   omega
 ·rw [if_neg (by simpa using h)]
  congr 1
  symm
  unfold bok
  rw [decide_eq_false_iff_not]
  omega
theorem ok_impl (a b : Int) : impl_BlockOk.f a b = some (bok a b) := by
 unfold impl_BlockOk.f
 rw [addr_impl, Option.bind_some]
 by_cases h : 0 ≤ a ∧ a ≤ 4294967295
 ·rw [if_pos (by simpa using h), in_impl, Option.bind_some]
  by_cases h2 : 0 ≤ b ∧ b ≤ 32
  ·rw [if_pos (by simpa using h2), size_impl h2.1 h2.2, Option.bind_some, if_neg (by have := sz_pos b; omega), tmod_of h.1]
   congr 1
   unfold bok
   rw [Bool.eq_iff_iff]
   simp [h, h2]
  ·rw [if_neg (by simpa using h2)]
   congr 1
   symm
   unfold bok
   rw [decide_eq_false_iff_not]
   omega
 ·rw [if_neg (by simpa using h)]
  congr 1
  symm
  unfold bok
  rw [decide_eq_false_iff_not]
  omega
theorem last_spec {k : Nat} {a b : Int} (h : bok a b = true) (hk : 40 ≤ k) : spec_l1Last.f k a b = some (a + sz b - 1) := by
 obtain ⟨h1, h2, h3, h4, _⟩ := bok_iff.1 h
 have := sz_le h3
 have := sz_pos b
 unfold spec_l1Last.f
 rw [size_spec h3 h4 hk, Option.bind_some, w64 (x := a + sz b) (by omega) (by omega), w64 (by omega) (by omega)]
theorem last_impl {a b : Int} (h0 : 0 ≤ a) (h1 : a ≤ 4294967296) (h3 : 0 ≤ b) (h4 : b ≤ 32) : impl_Block_last.f a b = some (a + sz b - 1) := by
 have := sz_le h3
 have := sz_pos b
 unfold impl_Block_last.f
 rw [size_impl h3 h4, Option.bind_some, w64 (x := a + sz b) (by omega) (by omega), w64 (by omega) (by omega)]
end Go.Proofs.Ytmdhedkgpgoneaa.Pure

namespace Go.Proofs.Ytmdhedkgpgoneaa.Pure
set_option linter.unusedSimpArgs false
open Go.RowKit Go.Proofs.Ytmdhedkgpgoneaa.Q Go.Proofs.YtmdhedkgpgoneaaW.PrintWords Go.Proofs.YtmdhedkgpgoneaaW.PrintLast Go.Proofs.YtmdhedkgpgoneaaW.PrintMore
theorem sz_succ {m : Int} (h0 : 0 ≤ m) (h1 : m < 32) : sz m = 2 * sz (m + 1) := by
 unfold sz
 rw [show (32 - m).toNat = (32 - (m + 1)).toNat + 1 by omega, Int.pow_succ, Int.mul_comm]
theorem sz_32 : sz 32 = 1 := by decide
theorem mul_div_eq_iff (a s : Int) : a / s * s = a ↔ a % s = 0 := by
 have h := Int.emod_add_mul_ediv a s
 rw [Int.mul_comm] at h
 constructor
 ·intro e; omega
 ·intro e; omega
theorem around_ev {a m : Int} (h0 : 0 ≤ a) (h1 : a ≤ 4294967295) (m0 : 0 ≤ m) (m1 : m ≤ 32) : impl_around.f a m = some (a / sz m * sz m, m) := by
 have hs := sz_le m0
 have hp := sz_pos m
 unfold impl_around.f
 rw [w64 (by omega) (by omega), if_pos (by omega)]
 unfold shl shr
 rw [show min (32 - m).toNat IntKind.i64.bits = (32 - m).toNat from Nat.min_eq_left (by show (32 - m).toNat ≤ 64; omega)]
 show some (IntKind.i64.wrap (a / sz m * sz m), m) = _
 have e : IntKind.i64.wrap (a / sz m * sz m) = a / sz m * sz m := by
  have h2 : a / sz m * sz m ≤ a := Int.ediv_mul_le a (by omega)
  have h3 : 0 ≤ a / sz m := Int.ediv_nonneg h0 (by omega)
  have h4 : 0 ≤ a / sz m * sz m := Int.mul_nonneg h3 (by omega)
  rw [IntKind.wrap_i64]
  omega
 rw [e]
/-- A block of m bits fits at a, up to b. -/
def fits (a b m : Int) : Bool := decide (a % sz m = 0) && decide (a + sz m - 1 ≤ b)
theorem fits_iff {a b m : Int} : fits a b m = true ↔ a % sz m = 0 ∧ a + sz m - 1 ≤ b := by
 unfold fits
 simp
theorem fits_succ {a b m : Int} (h0 : 0 ≤ m) (h1 : m < 32) (h : fits a b m = true) : fits a b (m + 1) = true := by
 rw [fits_iff] at h ⊢
 have hs := sz_succ h0 h1
 have hp := sz_pos (m + 1)
 refine ⟨?_, by omega⟩
 obtain ⟨q, hq⟩ := Int.dvd_of_emod_eq_zero h.1
 have e : a = sz (m + 1) * (2 * q) := by rw [hq, hs, Int.mul_comm 2, Int.mul_assoc]
 rw [e]
 exact Int.mul_emod_right _ _
theorem fits_32 {a b : Int} (h : a ≤ b) : fits a b 32 = true := by
 rw [fits_iff, sz_32]
 omega
theorem fits_le {a b : Int} : ∀ (d : Nat) (m : Int), 0 ≤ m → m + d ≤ 32 → fits a b m = true → fits a b (m + d) = true := by
 intro d
 induction d with
 | zero => intro m _ _ h; simpa using h
 | succ d ih =>
  intro m h0 h1 h
  have := ih (m + 1) (by omega) (by omega) (fits_succ h0 (by omega) h)
  rwa [show m + 1 + (d : Int) = m + ((d + 1 : Nat) : Int) by omega] at this
def mbF (a b : Int) : Nat → Int → Int
 | 0, m => m
 | n + 1, m => if fits a b m = true then m else mbF a b n (m + 1)
/-- The fewest bits of a block that fits. -/
def mb (a b : Int) : Int := mbF a b 32 0
theorem mbF_spec {a b : Int} (hab : a ≤ b) : ∀ (n : Nat) (m : Int), 0 ≤ m → m + n = 32 → (∀ j, 0 ≤ j → j < m → fits a b j = false) → 0 ≤ mbF a b n m ∧ mbF a b n m ≤ 32 ∧ fits a b (mbF a b n m) = true ∧ ∀ j, 0 ≤ j → j < mbF a b n m → fits a b j = false := by
 intro n
 induction n with
 | zero =>
  intro m h0 h1 h
  obtain rfl : m = 32 := by omega
  exact ⟨show (0 : Int) ≤ 32 by decide, show (32 : Int) ≤ 32 by decide, fits_32 hab, h⟩
 | succ n ih =>
  intro m h0 h1 h
  unfold mbF
  by_cases hf : fits a b m = true
  ·rw [if_pos hf]
   exact ⟨h0, by omega, hf, h⟩
  ·rw [if_neg hf]
   refine ih (m + 1) (by omega) (by omega) (fun j hj0 hj => ?_)
   by_cases e : j = m
   ·rw [e]; simpa using hf
   ·exact h j hj0 (by omega)
theorem mb_spec {a b : Int} (hab : a ≤ b) : 0 ≤ mb a b ∧ mb a b ≤ 32 ∧ fits a b (mb a b) = true ∧ ∀ j, 0 ≤ j → j < mb a b → fits a b j = false :=
 mbF_spec hab 32 0 (by omega) (by omega) (fun j h0 h => by omega)
theorem mb_unique {a b m : Int} (hab : a ≤ b) (h0 : 0 ≤ m) (h1 : m ≤ 32) (hf : fits a b m = true) (hn : m = 0 ∨ fits a b (m - 1) = false) : mb a b = m := by
 obtain ⟨p0, p1, pf, pn⟩ := mb_spec hab
 rcases Int.lt_trichotomy (mb a b) m with h | h | h
 ·have := fits_le (m - 1 - mb a b).toNat (mb a b) p0 (by omega) pf
  rw [show mb a b + ((m - 1 - mb a b).toNat : Int) = m - 1 by omega] at this
  rcases hn with hn | hn
  ·omega
  ·rw [hn] at this
   exact absurd this (by simp)
 ·exact h
 ·have := pn m h0 h
  rw [hf] at this
  exact absurd this (by simp)
/-- How many addresses there are. -/
def NN : Nat := 4294967296
theorem NN_eq : NN = 4294967296 := rfl
/-- The blocks of a span. -/
def cov : Nat → Int → Int → List S44
 | 0, _, _ => []
 | n + 1, a, b => if a ≤ b then ⟨a, mb a b⟩ :: cov n (a + sz (mb a b)) b else []
theorem cov_nil {n : Nat} {a b : Int} (h : b < a) : cov n a b = [] := by
 cases n with
 | zero => rfl
 | succ n => unfold cov; rw [if_neg (by omega)]
/-- A block that was just appended. -/
theorem rd_last (acc : List S44) (x : S44) : rd_T44 (acc ++ [x]) (((acc ++ [x]).length : Int) - 1) = x := by
 unfold rd_T44
 rw [show ((((acc ++ [x]).length : Nat) : Int) - 1).toNat = acc.length by rw [List.length_append, List.length_singleton]; omega]
 simp [List.getD]
theorem impl_tail {acc : List S44} {a m x b : Int} {k : Nat} (h0 : 0 ≤ a) (h1 : a ≤ 4294967295) (m0 : 0 ≤ m) (m1 : m ≤ 32) (hf : a % sz m = 0) (hl : acc.length < 8796093022207) :
  ((impl_around.f a m).bind fun bt => (if acc.length < 8796093022208 then ((some (acc ++ [(⟨bt.1, bt.2⟩ : S44)] : List (S44))).bind fun y => (if 0 ≤ (wrap64 ((y.length : Int) - 1)) then (if (wrap64 ((y.length : Int) - 1)) < (y.length : Int) then ((impl_Block_last.f ((rd_T44 y (wrap64 ((y.length : Int) - 1))).f0) ((rd_T44 y (wrap64 ((y.length : Int) - 1))).f1)).bind fun t => (impl_span_blocks.l0 k y (wrap64 (t + 1)) x b)) else (none)) else (none))) else (none))) =
   impl_span_blocks.l0 k (acc ++ [⟨a, m⟩]) (a + sz m) x b := by
 have hs := sz_le m0
 have hp := sz_pos m
 rw [around_ev h0 h1 m0 m1, Option.bind_some, (mul_div_eq_iff a (sz m)).2 hf, if_pos (by omega), Option.bind_some]
 dsimp only
 have hlen : ((acc ++ [(⟨a, m⟩ : S44)]).length : Int) = acc.length + 1 := by rw [List.length_append, List.length_singleton]; omega
 rw [w64 (x := ((acc ++ [(⟨a, m⟩ : S44)]).length : Int) - 1) (by omega) (by omega), if_pos (by omega), if_pos (by omega), rd_last]
 rw [last_impl h0 (by omega) m0 m1, Option.bind_some, w64 (by omega) (by omega), show a + sz m - 1 + 1 = a + sz m by omega]
theorem impl_down {acc : List S44} {a x b : Int} (h0 : 0 ≤ a) (hab : a ≤ b) (h1 : b ≤ 4294967295) (hl : acc.length < 8796093022207) :
  ∀ (n : Nat), n ≤ 32 → fits a b n = true → ∃ c, c ≤ n + 1 ∧ ∀ k, impl_span_blocks.l1 (k + c) acc a (n : Int) x b = impl_span_blocks.l0 k (acc ++ [⟨a, mb a b⟩]) (a + sz (mb a b)) x b := by
 intro n
 induction n with
 | zero =>
  intro hn hf
  refine ⟨1, by omega, fun k => ?_⟩
  simp only [impl_span_blocks.l1]
  rw [if_neg (by omega), mb_unique hab (Int.le_refl 0) (by omega) hf (.inl rfl)]
  exact impl_tail h0 (by omega) (by omega) (by omega) (fits_iff.1 hf).1 hl
 | succ n ih =>
  intro hn hf
  have ew : wrap64 (((n + 1 : Nat) : Int) - 1) = (n : Int) := by rw [w64 (by omega) (by omega)]; omega
  have hs := sz_le (show (0 : Int) ≤ n by omega)
  have hp := sz_pos (n : Int)
  cases hc : fits a b n with
  | true =>
   obtain ⟨c, hc1, hc2⟩ := ih (by omega) hc
   obtain ⟨g1, g2⟩ := fits_iff.1 hc
   refine ⟨c + 1, by omega, fun k => ?_⟩
   rw [show k + (c + 1) = (k + c) + 1 by omega]
   simp only [impl_span_blocks.l1]
   rw [if_pos (by omega), ew, around_ev h0 (by omega) (by omega) (by omega), Option.bind_some]
   dsimp only
   rw [(mul_div_eq_iff a (sz n)).2 g1, if_pos rfl, Option.bind_some]
   dsimp only
   rw [last_impl h0 (by omega) (by omega) (by omega), Option.bind_some, if_pos (by omega)]
   exact hc2 k
  | false =>
   refine ⟨1, by omega, fun k => ?_⟩
   have hm : mb a b = ((n + 1 : Nat) : Int) := mb_unique hab (by omega) (by omega) hf (.inr (by rw [show ((n + 1 : Nat) : Int) - 1 = (n : Int) by omega]; exact hc))
   have ht := @impl_tail acc a ((n + 1 : Nat) : Int) x b k h0 (by omega) (by omega) (by omega) (fits_iff.1 hf).1 hl
   simp only [impl_span_blocks.l1]
   rw [if_pos (by omega), ew, around_ev h0 (by omega) (by omega) (by omega), Option.bind_some]
   dsimp only
   rw [hm]
   by_cases g1 : a % sz n = 0
   ·rw [(mul_div_eq_iff a (sz n)).2 g1, if_pos rfl, Option.bind_some]
    dsimp only
    have g2 : ¬ a + sz n - 1 ≤ b := by
     intro h
     rw [fits_iff.2 ⟨g1, h⟩] at hc
     exact absurd hc (by simp)
    rw [last_impl h0 (by omega) (by omega) (by omega), Option.bind_some, if_neg (by omega)]
    exact ht
   ·rw [if_neg (fun h => g1 ((mul_div_eq_iff a (sz n)).1 h))]
    exact ht
theorem impl_cov {x b : Int} (h1 : b ≤ 4294967295) : ∀ (n : Nat) (a : Int) (acc : List S44), 0 ≤ a → (b + 1 - a).toNat ≤ n → acc.length + n < 8796093022207 → ∀ k, 40 * n + 40 ≤ k → impl_span_blocks.l0 k acc a x b = some (acc ++ cov n a b) := by
 intro n
 induction n with
 | zero =>
  intro a acc h0 hn hl k hk
  obtain ⟨k, rfl⟩ : ∃ j, k = j + 1 := ⟨k - 1, by omega⟩
  simp only [impl_span_blocks.l0]
  rw [if_neg (by omega), cov_nil (by omega), List.append_nil]
 | succ n ih =>
  intro a acc h0 hn hl k hk
  obtain ⟨k, rfl⟩ : ∃ j, k = j + 1 := ⟨k - 1, by omega⟩
  simp only [impl_span_blocks.l0]
  by_cases hab : a ≤ b
  ·rw [if_pos hab]
   obtain ⟨c, hc1, hc2⟩ := @impl_down acc a x b h0 hab h1 (by omega) 32 (by omega) (fits_32 hab)
   have e := hc2 (k - c)
   rw [show k - c + c = k by omega] at e
   have hp := sz_pos (mb a b)
   rw [show (32 : Int) = ((32 : Nat) : Int) from rfl, e, ih (a + sz (mb a b)) _ (by omega) (by omega) (by rw [List.length_append, List.length_singleton]; omega) (k - c) (by omega)]
   conv => rhs; unfold cov
   rw [if_pos hab, List.append_assoc]
   rfl
  ·rw [if_neg hab, cov_nil (by omega), List.append_nil]
theorem blocks_ev {a b : Int} (h0 : 0 ≤ a) (h1 : b ≤ 4294967295) {k : Nat} (hk : 171798691920 ≤ k) : impl_span_blocks.f k a b = some (cov NN a b) := by
 have hN := NN_eq
 unfold impl_span_blocks.f
 have := @impl_cov a b h1 NN a [] h0 (by omega) (by simp; omega) k (by omega)
 rwa [List.nil_append] at this
theorem first_ev {a b : Int} (h0 : 0 ≤ a) (hab : a ≤ b) (h1 : b ≤ 4294967295) : ∀ (n : Nat) (m : Int), 0 ≤ m → m + n = 32 → ∀ k, n + 41 < k → spec_l2First.l0 k a b m = some (a, mbF a b n m) := by
 intro n
 induction n with
 | zero =>
  intro m m0 hm k hk
  obtain ⟨k, rfl⟩ : ∃ j, k = j + 1 := ⟨k - 1, by omega⟩
  obtain rfl : m = 32 := by omega
  simp only [spec_l2First.l0]
  rw [size_spec (by omega) (by omega) (show 40 ≤ k by omega), Option.bind_some, Option.bind_some, sz_32, if_neg (by omega), if_pos (by simp), w64 (x := a + 1) (by omega) (by omega), w64 (by omega) (by omega), if_neg (by omega)]
  rfl
 | succ n ih =>
  intro m m0 hm k hk
  obtain ⟨k, rfl⟩ : ∃ j, k = j + 1 := ⟨k - 1, by omega⟩
  have hs := sz_le m0
  have hp := sz_pos m
  simp only [spec_l2First.l0]
  rw [size_spec (by omega) (by omega) (show 40 ≤ k by omega), Option.bind_some, Option.bind_some, if_neg (by omega), tmod_of h0, w64 (x := m + 1) (by omega) (by omega), ih (m + 1) (by omega) (by omega) k (by omega), w64 (x := a + sz m) (by omega) (by omega), w64 (x := a + sz m - 1) (by omega) (by omega)]
  show _ = some (a, if fits a b m = true then m else mbF a b n (m + 1))
  by_cases g1 : a % sz m = 0
  ·rw [if_pos g1]
   by_cases g2 : a + sz m - 1 ≤ b
   ·rw [if_neg (by omega), if_pos (fits_iff.2 ⟨g1, g2⟩)]
   ·rw [if_pos (by omega), if_neg (fun h => g2 (fits_iff.1 h).2)]
  ·rw [if_neg g1, if_neg (fun h => g1 (fits_iff.1 h).1)]
theorem rdSp (l : List S63) (i : Nat) : rd_T63 l (i : Int) = l.getD i z63 := rfl
theorem cover_l1 (x0 : List S63) (i : Nat) (hi : i < x0.length) (hx : x0.length ≤ 1048576) (b : Int) (hb : (x0.getD i z63).f1 = b) (h1 : b ≤ 4294967295) : ∀ (n : Nat) (a : Int) (acc : List S44), 0 ≤ a → (b + 1 - a).toNat ≤ n → acc.length + n < 8796093022207 →
  ∃ c, c ≤ n + 1 ∧ ∀ k, 100 ≤ k → spec_l2Cover.l1 (k + c) x0 acc (i : Int) a = spec_l2Cover.l0 k x0 (acc ++ cov n a b) ((i + 1 : Nat) : Int) := by
 have ew : wrap64 ((i : Int) + 1) = ((i + 1 : Nat) : Int) := by rw [w64 (by omega) (by omega)]; rfl
 intro n
 induction n with
 | zero =>
  intro a acc h0 hn hl
  refine ⟨1, by omega, fun k hk => ?_⟩
  simp only [spec_l2Cover.l1]
  rw [if_pos (by omega), if_pos (by omega), rdSp, hb, if_neg (by omega), ew, cov_nil (by omega), List.append_nil]
 | succ n ih =>
  intro a acc h0 hn hl
  by_cases hab : a ≤ b
  ·obtain ⟨p0, p1, pf, _⟩ := mb_spec hab
   have hs := sz_le p0
   have hp := sz_pos (mb a b)
   obtain ⟨c, hc1, hc2⟩ := ih (a + sz (mb a b)) (acc ++ [⟨a, mb a b⟩]) (by omega) (by omega) (by rw [List.length_append, List.length_singleton]; omega)
   refine ⟨c + 1, by omega, fun k hk => ?_⟩
   rw [show k + (c + 1) = (k + c) + 1 by omega]
   simp only [spec_l2Cover.l1, spec_l2First.f]
   rw [if_pos (by omega), if_pos (by omega), rdSp, hb, if_pos hab, first_ev h0 hab h1 32 0 (by omega) (by omega) (k + c) (by omega), Option.bind_some]
   dsimp only
   rw [show mbF a b 32 0 = mb a b from rfl, if_pos (by omega), size_spec p0 p1 (by omega), Option.bind_some, w64 (by omega) (by omega), hc2 k hk]
   conv => rhs; unfold cov
   rw [if_pos hab, List.append_assoc]
   rfl
  ·refine ⟨1, by omega, fun k hk => ?_⟩
   simp only [spec_l2Cover.l1]
   rw [if_pos (by omega), if_pos (by omega), rdSp, hb, if_neg hab, ew, cov_nil (by omega), List.append_nil]
end Go.Proofs.Ytmdhedkgpgoneaa.Pure

namespace Go.Proofs.Ytmdhedkgpgoneaa.Si
/-- A span: its two ends. -/
abbrev Sn := Int × Int
def inB (s : Sn) (p : Int) : Bool := decide (s.1 ≤ p) && decide (p ≤ s.2)
/-- A point lies in one of the spans. -/
def memB (xs : List Sn) (p : Int) : Bool := xs.any fun s => inB s p
theorem inB_iff {s : Sn} {p : Int} : inB s p = true ↔ s.1 ≤ p ∧ p ≤ s.2 := by simp [inB]
theorem memB_iff {xs : List Sn} {p : Int} : memB xs p = true ↔ ∃ s ∈ xs, s.1 ≤ p ∧ p ≤ s.2 := by simp [memB, inB]
theorem memB_nil (p : Int) : memB [] p = false := rfl
theorem memB_cons (s : Sn) (xs : List Sn) (p : Int) : memB (s :: xs) p = (inB s p || memB xs p) := by simp [memB]
theorem memB_append (xs ys : List Sn) (p : Int) : memB (xs ++ ys) p = (memB xs p || memB ys p) := by simp [memB]
/-- A span of addresses. -/
def Ok (s : Sn) : Prop := 0 ≤ s.1 ∧ s.1 ≤ s.2 ∧ s.2 ≤ 4294967295
/-- Spans in order that neither meet nor touch. -/
def Can (xs : List Sn) : Prop := (∀ s ∈ xs, Ok s) ∧ xs.Pairwise fun s t => s.2 + 1 < t.1
theorem can_nil : Can [] := ⟨fun _ h => absurd h (by simp), List.Pairwise.nil⟩
theorem can_tail {s : Sn} {xs : List Sn} (h : Can (s :: xs)) : Can xs := ⟨fun t ht => h.1 t (List.mem_cons_of_mem _ ht), (List.pairwise_cons.1 h.2).2⟩
theorem can_head {s : Sn} {xs : List Sn} (h : Can (s :: xs)) : ∀ t ∈ xs, s.2 + 1 < t.1 := (List.pairwise_cons.1 h.2).1
theorem mem_tail {s : Sn} {xs : List Sn} (h : Can (s :: xs)) (p : Int) : memB xs p = true ↔ memB (s :: xs) p = true ∧ s.2 < p := by
 rw [memB_cons, Bool.or_eq_true]
 constructor
 ·intro hm
  refine ⟨.inr hm, ?_⟩
  obtain ⟨t, ht, h1, _⟩ := memB_iff.1 hm
  have := can_head h t ht
  omega
 ·rintro ⟨h1 | h1, h2⟩
  ·have := (inB_iff.1 h1).2
   omega
  ·exact h1
theorem start_le {s : Sn} {xs : List Sn} (h : Can (s :: xs)) {p : Int} (hp : memB (s :: xs) p = true) : s.1 ≤ p := by
 obtain ⟨t, ht, h1, _⟩ := memB_iff.1 hp
 rcases List.mem_cons.1 ht with rfl | ht
 ·exact h1
 ·have := can_head h t ht
  have := (h.1 s List.mem_cons_self).2.1
  omega
theorem mem_start {s : Sn} {xs : List Sn} (h : Can (s :: xs)) : memB (s :: xs) s.1 = true := by
 rw [memB_cons, inB_iff.2 ⟨Int.le_refl _, (h.1 s List.mem_cons_self).2.1⟩]; rfl
theorem end_le {s t : Sn} {xs ys : List Sn} (hx : Can (s :: xs)) (_ : Can (t :: ys)) (e1 : s.1 = t.1) (hp : ∀ p, memB (t :: ys) p = memB (s :: xs) p) : t.2 ≤ s.2 := by
 by_cases h : t.2 ≤ s.2
 ·exact h
 ·exfalso
  have h0 := (hx.1 s List.mem_cons_self).2.1
  have h1 : memB (t :: ys) (s.2 + 1) = true := by rw [memB_cons, inB_iff.2 ⟨by omega, by omega⟩]; rfl
  rw [hp] at h1
  obtain ⟨u, hu, h2, h3⟩ := memB_iff.1 h1
  rcases List.mem_cons.1 hu with rfl | hu
  ·omega
  ·have := can_head hx u hu
   omega
/-- The points make the canonical list. -/
theorem can_unique : ∀ (xs ys : List Sn), Can xs → Can ys → (∀ p, memB xs p = memB ys p) → xs = ys
 | [], [], _, _, _ => rfl
 | [], t :: ys, _, hy, hp => by
  have := mem_start hy
  rw [← hp, memB_nil] at this
  exact absurd this (by simp)
 | s :: xs, [], hx, _, hp => by
  have := mem_start hx
  rw [hp, memB_nil] at this
  exact absurd this (by simp)
 | s :: xs, t :: ys, hx, hy, hp => by
  have e1 : s.1 = t.1 := by
   have h1 := start_le hy (p := s.1) (by rw [← hp]; exact mem_start hx)
   have h2 := start_le hx (p := t.1) (by rw [hp]; exact mem_start hy)
   omega
  have e2 : s.2 = t.2 := by
   have h1 := end_le hx hy e1 (fun p => (hp p).symm)
   have h2 := end_le hy hx e1.symm hp
   omega
  obtain rfl : s = t := Prod.ext e1 e2
  rw [can_unique xs ys (can_tail hx) (can_tail hy) (fun p => by
   rw [Bool.eq_iff_iff, mem_tail hx, mem_tail hy, hp])]
/-- Merging a sorted list: xa is done, t is the last. -/
def mrgG : List Sn → Sn → List Sn → List Sn
 | xa, t, [] => xa ++ [t]
 | xa, t, s :: r => if s.1 ≤ t.2 + 1 then mrgG xa (t.1, if t.2 < s.2 then s.2 else t.2) r else mrgG (xa ++ [t]) s r
def mrg : List Sn → List Sn
 | [] => []
 | s :: r => mrgG [] s r
theorem can_snoc {xa : List Sn} {t : Sn} : Can (xa ++ [t]) ↔ Can xa ∧ Ok t ∧ ∀ u ∈ xa, u.2 + 1 < t.1 := by
 unfold Can
 rw [List.pairwise_append]
 constructor
 ·rintro ⟨h1, h2, _, h3⟩
  exact ⟨⟨fun s hs => h1 s (by simp [hs]), h2⟩, h1 t (by simp), fun u hu => h3 u hu t (by simp)⟩
 ·rintro ⟨⟨h1, h2⟩, h3, h4⟩
  refine ⟨fun s hs => ?_, h2, List.pairwise_singleton _ _, fun u hu v hv => ?_⟩
  ·rcases List.mem_append.1 hs with hs | hs
   ·exact h1 s hs
   ·rw [List.mem_singleton.1 hs]; exact h3
  ·rw [List.mem_singleton.1 hv]; exact h4 u hu
theorem mrgG_spec : ∀ (r : List Sn) (xa : List Sn) (t : Sn), Can (xa ++ [t]) → (∀ s ∈ r, Ok s ∧ t.1 ≤ s.1) → r.Pairwise (fun s u => s.1 ≤ u.1) →
  Can (mrgG xa t r) ∧ ∀ p, memB (mrgG xa t r) p = (memB (xa ++ [t]) p || memB r p)
 | [], xa, t, h, _, _ => by
  refine ⟨h, fun p => ?_⟩
  show memB (xa ++ [t]) p = _
  rw [memB_nil, Bool.or_false]
 | s :: r, xa, t, h, hr, hs => by
  obtain ⟨h1, h2, h3⟩ := can_snoc.1 h
  obtain ⟨hs1, hs2⟩ := List.pairwise_cons.1 hs
  obtain ⟨ok, hle⟩ := hr s List.mem_cons_self
  obtain ⟨t0, t1, t2⟩ := h2
  obtain ⟨s0, s1, s2⟩ := ok
  unfold mrgG
  by_cases hc : s.1 ≤ t.2 + 1
  ·rw [if_pos hc]
   have hmx : t.2 ≤ (if t.2 < s.2 then s.2 else t.2) ∧ s.2 ≤ (if t.2 < s.2 then s.2 else t.2) ∧ ((if t.2 < s.2 then s.2 else t.2) = t.2 ∨ (if t.2 < s.2 then s.2 else t.2) = s.2) := by split <;> omega
   generalize (if t.2 < s.2 then s.2 else t.2) = m at hmx ⊢
   have hcan : Can (xa ++ [(t.1, m)]) := can_snoc.2 ⟨h1, ⟨t0, by show t.1 ≤ m; omega, by show m ≤ _; omega⟩, h3⟩
   obtain ⟨c1, c2⟩ := mrgG_spec r xa (t.1, m) hcan (fun u hu => ⟨(hr u (List.mem_cons_of_mem _ hu)).1, (hr u (List.mem_cons_of_mem _ hu)).2⟩) hs2
   refine ⟨c1, fun p => ?_⟩
   rw [c2, memB_append, memB_append, memB_cons s r, Bool.or_assoc, Bool.or_assoc, ← Bool.or_assoc (memB [t] p)]
   congr 2
   rw [Bool.eq_iff_iff, Bool.or_eq_true, memB_cons, memB_cons, memB_nil, Bool.or_false, Bool.or_false, inB_iff, inB_iff, inB_iff]
   show t.1 ≤ p ∧ p ≤ m ↔ _
   omega
  ·rw [if_neg hc]
   have hcan : Can (xa ++ [t] ++ [s]) := can_snoc.2 ⟨h, ⟨s0, s1, s2⟩, fun u hu => by
    rcases List.mem_append.1 hu with hu | hu
    ·have := h3 u hu
     omega
    ·rw [List.mem_singleton.1 hu]; omega⟩
   obtain ⟨c1, c2⟩ := mrgG_spec r (xa ++ [t]) s hcan (fun u hu => ⟨(hr u (List.mem_cons_of_mem _ hu)).1, hs1 u hu⟩) hs2
   refine ⟨c1, fun p => ?_⟩
   rw [c2, memB_append _ [s], memB_cons s r, memB_cons s [], memB_nil, Bool.or_false, Bool.or_assoc]
theorem mrg_spec {xs : List Sn} (hok : ∀ s ∈ xs, Ok s) (hs : xs.Pairwise fun s t => s.1 ≤ t.1) : Can (mrg xs) ∧ ∀ p, memB (mrg xs) p = memB xs p := by
 cases xs with
 | nil => exact ⟨can_nil, fun _ => rfl⟩
 | cons s r =>
  obtain ⟨hs1, hs2⟩ := List.pairwise_cons.1 hs
  obtain ⟨c1, c2⟩ := mrgG_spec r [] s (can_snoc.2 ⟨can_nil, hok s List.mem_cons_self, fun _ h => absurd h (by simp)⟩) (fun u hu => ⟨hok u (List.mem_cons_of_mem _ hu), hs1 u hu⟩) hs2
  refine ⟨c1, fun p => ?_⟩
  show memB (mrgG [] s r) p = _
  rw [c2, List.nil_append, memB_cons s r, memB_cons s [], memB_nil, Bool.or_false]
theorem mrgG_length : ∀ (r xa : List Sn) (t : Sn), (mrgG xa t r).length ≤ xa.length + 1 + r.length
 | [], xa, t => by simp [mrgG]
 | s :: r, xa, t => by
  unfold mrgG
  split
  ·have := mrgG_length r xa (t.1, if t.2 < s.2 then s.2 else t.2)
   rw [List.length_cons]; omega
  ·have := mrgG_length r (xa ++ [t]) s
   rw [List.length_append, List.length_singleton] at this
   rw [List.length_cons]; omega
theorem mrg_length (xs : List Sn) : (mrg xs).length ≤ xs.length := by
 cases xs with
 | nil => exact Nat.le_refl _
 | cons s r =>
  have := mrgG_length r [] s
  show (mrgG [] s r).length ≤ _
  rw [List.length_cons, List.length_nil] at *
  omega
/-- Only the points' lists count. -/
theorem memB_congr {xs ys : List Sn} (h : ∀ s, s ∈ xs ↔ s ∈ ys) (p : Int) : memB xs p = memB ys p := by
 rw [Bool.eq_iff_iff, memB_iff, memB_iff]
 exact ⟨fun ⟨s, hs, e⟩ => ⟨s, (h s).1 hs, e⟩, fun ⟨s, hs, e⟩ => ⟨s, (h s).2 hs, e⟩⟩
/-- The larger, the smaller of two numbers. -/
def hi2 (x y : Int) : Int := if x < y then y else x
def lo2 (x y : Int) : Int := if y < x then y else x
theorem hi2_le {x y p : Int} : hi2 x y ≤ p ↔ x ≤ p ∧ y ≤ p := by unfold hi2; split <;> omega
theorem le_lo2 {x y p : Int} : p ≤ lo2 x y ↔ p ≤ x ∧ p ≤ y := by unfold lo2; split <;> omega
theorem hi2_or (x y : Int) : hi2 x y = x ∨ hi2 x y = y := by unfold hi2; split <;> simp
theorem lo2_or (x y : Int) : lo2 x y = x ∨ lo2 x y = y := by unfold lo2; split <;> simp
/-- The meet of two spans. -/
def meet (a b : Sn) : List Sn := if hi2 a.1 b.1 ≤ lo2 a.2 b.2 then [(hi2 a.1 b.1, lo2 a.2 b.2)] else []
def meets (a : Sn) (bs : List Sn) : List Sn := bs.flatMap (meet a)
def both (xa bs : List Sn) : List Sn := xa.flatMap fun a => meets a bs
theorem meet_mem {a b s : Sn} (h : s ∈ meet a b) : a.1 ≤ s.1 ∧ b.1 ≤ s.1 ∧ (s.1 = a.1 ∨ s.1 = b.1) ∧ s.2 ≤ a.2 ∧ s.2 ≤ b.2 ∧ (s.2 = a.2 ∨ s.2 = b.2) ∧ s.1 ≤ s.2 := by
 unfold meet at h
 split at h
 ·rename_i hc
  rw [List.mem_singleton.1 h]
  have h1 := hi2_le.1 (Int.le_refl (hi2 a.1 b.1))
  have h2 := le_lo2.1 (Int.le_refl (lo2 a.2 b.2))
  exact ⟨h1.1, h1.2, hi2_or _ _, h2.1, h2.2, lo2_or _ _, hc⟩
 ·exact absurd h (by simp)
theorem meet_pts (a b : Sn) (p : Int) : memB (meet a b) p = (inB a p && inB b p) := by
 rw [Bool.eq_iff_iff, Bool.and_eq_true, inB_iff, inB_iff]
 unfold meet
 split
 ·rw [memB_cons, memB_nil, Bool.or_false, inB_iff]
  show hi2 a.1 b.1 ≤ p ∧ p ≤ lo2 a.2 b.2 ↔ _
  rw [hi2_le, le_lo2]
  omega
 ·rename_i hc
  rw [memB_nil]
  refine ⟨fun h => absurd h (by simp), fun ⟨⟨h1, h2⟩, h3, h4⟩ => absurd (Int.le_trans (hi2_le.2 ⟨h1, h3⟩) (le_lo2.2 ⟨h2, h4⟩)) hc⟩
theorem memB_flatMap {α : Type} (l : List α) (f : α → List Sn) (p : Int) : memB (l.flatMap f) p = l.any fun x => memB (f x) p := by
 induction l with
 | nil => rfl
 | cons x l ih => rw [List.flatMap_cons, memB_append, ih, List.any_cons]
theorem both_pts (xa bs : List Sn) (p : Int) : memB (both xa bs) p = (memB xa p && memB bs p) := by
 unfold both
 rw [memB_flatMap, Bool.eq_iff_iff, List.any_eq_true, Bool.and_eq_true, memB_iff, memB_iff]
 unfold meets
 constructor
 ·rintro ⟨a, ha, h⟩
  rw [memB_flatMap, List.any_eq_true] at h
  obtain ⟨b, hb, h⟩ := h
  rw [meet_pts, Bool.and_eq_true, inB_iff, inB_iff] at h
  exact ⟨⟨a, ha, h.1⟩, b, hb, h.2⟩
 ·rintro ⟨⟨a, ha, h1⟩, b, hb, h2⟩
  refine ⟨a, ha, ?_⟩
  rw [memB_flatMap, List.any_eq_true]
  exact ⟨b, hb, by rw [meet_pts, Bool.and_eq_true, inB_iff, inB_iff]; exact ⟨h1, h2⟩⟩
theorem both_ok {xa bs : List Sn} (ha : ∀ s ∈ xa, Ok s) : ∀ s ∈ both xa bs, Ok s := by
 intro s hs
 obtain ⟨a, h1, h2⟩ := List.mem_flatMap.1 hs
 obtain ⟨b, _, h3⟩ := List.mem_flatMap.1 h2
 have := meet_mem h3
 obtain ⟨a0, a1, a2⟩ := ha a h1
 exact ⟨by omega, by omega, by omega⟩
theorem pairwise_flat {α : Type} {R : α → α → Prop} {β : Type} (f : β → List α) : ∀ (l : List β), (∀ x ∈ l, (f x).Pairwise R) → l.Pairwise (fun x y => ∀ a ∈ f x, ∀ b ∈ f y, R a b) → (l.flatMap f).Pairwise R
 | [], _, _ => List.Pairwise.nil
 | x :: l, h1, h2 => by
  obtain ⟨h3, h4⟩ := List.pairwise_cons.1 h2
  rw [List.flatMap_cons, List.pairwise_append]
  refine ⟨h1 x List.mem_cons_self, pairwise_flat f l (fun y hy => h1 y (List.mem_cons_of_mem _ hy)) h4, fun a ha b hb => ?_⟩
  obtain ⟨y, hy, hb⟩ := List.mem_flatMap.1 hb
  exact h3 y hy a ha b hb
theorem both_can {xa bs : List Sn} (ha : Can xa) (hb : Can bs) : Can (both xa bs) := by
 refine ⟨both_ok ha.1, pairwise_flat _ xa (fun a _ => ?_) (ha.2.imp fun {a a'} h s hs t ht => ?_)⟩
 ·refine pairwise_flat _ bs (fun b _ => ?_) (hb.2.imp fun {b b'} h s hs t ht => ?_)
  ·unfold meet
   split
   ·exact List.pairwise_singleton _ _
   ·exact List.Pairwise.nil
  ·have := meet_mem hs
   have := meet_mem ht
   omega
 ·obtain ⟨b, _, hs⟩ := List.mem_flatMap.1 hs
  obtain ⟨b', _, ht⟩ := List.mem_flatMap.1 ht
  have := meet_mem hs
  have := meet_mem ht
  omega
theorem meet_length (a b : Sn) : (meet a b).length ≤ 1 := by unfold meet; split <;> simp
theorem meets_length (a : Sn) : ∀ bs : List Sn, (meets a bs).length ≤ bs.length
 | [] => Nat.le_refl _
 | b :: bs => by
  have := meets_length a bs
  have := meet_length a b
  show ((b :: bs).flatMap (meet a)).length ≤ _
  rw [List.flatMap_cons, List.length_append, List.length_cons]
  unfold meets at *
  omega
theorem both_length (bs : List Sn) : ∀ xa : List Sn, (both xa bs).length ≤ xa.length * bs.length
 | [] => Nat.zero_le _
 | a :: xa => by
  have h1 := both_length bs xa
  have h2 := meets_length a bs
  show ((a :: xa).flatMap fun a => meets a bs).length ≤ _
  rw [List.flatMap_cons, List.length_append, List.length_cons, Nat.succ_mul]
  unfold both at h1
  omega
/-- What is not in a list, from lo on. -/
def nt : Int → List Sn → List Sn
 | lo, [] => if lo ≤ 4294967295 then [(lo, 4294967295)] else []
 | lo, s :: r => (if s.1 > lo then [(lo, s.1 - 1)] else []) ++ nt (s.2 + 1) r
theorem nt_spec : ∀ (xs : List Sn) (lo : Int), 0 ≤ lo → Can xs → (∀ s ∈ xs, lo ≤ s.1) → Can (nt lo xs) ∧ (∀ s ∈ nt lo xs, lo ≤ s.1) ∧ ∀ p, memB (nt lo xs) p = (decide (lo ≤ p) && decide (p ≤ 4294967295) && !memB xs p)
 | [], lo, h0, _, _ => by
  unfold nt
  split
  ·rename_i hc
   refine ⟨⟨fun s hs => by rw [List.mem_singleton.1 hs]; exact ⟨h0, hc, Int.le_refl _⟩, List.pairwise_singleton _ _⟩, fun s hs => by rw [List.mem_singleton.1 hs]; exact Int.le_refl _, fun p => ?_⟩
   rw [memB_cons, memB_nil]
   simp [inB]
  ·rename_i hc
   refine ⟨can_nil, fun s hs => absurd hs (by simp), fun p => ?_⟩
   rw [memB_nil]
   symm
   simp
   omega
 | s :: r, lo, h0, hc, hl => by
  have hs := hl s List.mem_cons_self
  obtain ⟨s0, s1, s2⟩ := hc.1 s List.mem_cons_self
  obtain ⟨c1, c2, c3⟩ := nt_spec r (s.2 + 1) (by omega) (can_tail hc) (fun t ht => by have := can_head hc t ht; omega)
  have hm : ∀ p, lo ≤ p → p < s.1 → memB (s :: r) p = false := fun p _ hp => by
   rcases hq : memB (s :: r) p with _ | _
   ·rfl
   ·have := start_le hc hq
    omega
  have hpt : ∀ p, memB (nt lo (s :: r)) p = (decide (lo ≤ p) && decide (p ≤ 4294967295) && !memB (s :: r) p) := fun p => by
   unfold nt
   rw [memB_append, c3]
   by_cases h1 : lo ≤ p
   ·by_cases h2 : p < s.1
    ·rw [hm p h1 h2, if_pos (by omega), memB_cons, memB_nil, Bool.or_false, inB_iff.2 ⟨h1, by show p ≤ s.1 - 1; omega⟩]
     simp
     omega
    ·have e : memB (if s.1 > lo then [(lo, s.1 - 1)] else []) p = false := by
      split
      ·rw [memB_cons, memB_nil, Bool.or_false]
       simp [inB]; omega
      ·rfl
     rw [e, memB_cons]
     by_cases h3 : p ≤ s.2
     ·rw [inB_iff.2 ⟨by omega, h3⟩]
      simp; omega
     ·have : inB s p = false := by simp [inB]; omega
      rw [this, Bool.false_or, Bool.false_or]
      simp [h1, show s.2 + 1 ≤ p by omega]
   ·have e : memB (if s.1 > lo then [(lo, s.1 - 1)] else []) p = false := by
     split
     ·rw [memB_cons, memB_nil, Bool.or_false]
      simp [inB]; omega
     ·rfl
    rw [e]
    simp [h1, show ¬ s.2 + 1 ≤ p by omega]
  refine ⟨?_, ?_, hpt⟩
  ·unfold nt
   split
   ·refine ⟨fun t ht => ?_, ?_⟩
    ·rcases List.mem_append.1 ht with ht | ht
     ·rw [List.mem_singleton.1 ht]; exact ⟨h0, by show lo ≤ s.1 - 1; omega, by show s.1 - 1 ≤ _; omega⟩
     ·exact c1.1 t ht
    ·rw [List.pairwise_append]
     refine ⟨List.pairwise_singleton _ _, c1.2, fun u hu t ht => ?_⟩
     rw [List.mem_singleton.1 hu]
     have := c2 t ht
     show s.1 - 1 + 1 < t.1
     omega
   ·rw [List.nil_append]; exact c1
  ·intro t ht
   unfold nt at ht
   rcases List.mem_append.1 ht with ht | ht
   ·split at ht
    ·rw [List.mem_singleton.1 ht]; exact Int.le_refl _
    ·exact absurd ht (by simp)
   ·have := c2 t ht
    omega
theorem nt_length : ∀ (xs : List Sn) (lo : Int), (nt lo xs).length ≤ xs.length + 1
 | [], lo => by unfold nt; split <;> simp
 | s :: r, lo => by
  have := nt_length r (s.2 + 1)
  unfold nt
  rw [List.length_append, List.length_cons]
  split <;> simp <;> omega
/-- What is left of a span without those of a list. -/
def cut : Sn → List Sn → List Sn
 | c, [] => if c.1 ≤ c.2 then [c] else []
 | c, b :: r => if b.2 < c.1 ∨ b.1 > c.2 then cut c r else (if c.1 < b.1 then [(c.1, b.1 - 1)] else []) ++ cut (b.2 + 1, c.2) r
theorem cut_spec : ∀ (bs : List Sn) (c : Sn), Can bs → 0 ≤ c.1 → c.2 ≤ 4294967295 → (∀ s ∈ cut c bs, Ok s) ∧ ∀ p, memB (cut c bs) p = (inB c p && !memB bs p)
 | [], c, _, h0, h1 => by
  unfold cut
  split
  ·rename_i hc
   refine ⟨fun s hs => by rw [List.mem_singleton.1 hs]; exact ⟨h0, hc, h1⟩, fun p => ?_⟩
   rw [memB_cons, memB_nil]
   simp
  ·rename_i hc
   refine ⟨fun s hs => absurd hs (by simp), fun p => ?_⟩
   rw [memB_nil]
   symm
   simp [inB]
   omega
 | b :: r, c, hb, h0, h1 => by
  obtain ⟨b0, b1, b2⟩ := hb.1 b List.mem_cons_self
  unfold cut
  split
  ·rename_i hc
   obtain ⟨c1, c2⟩ := cut_spec r c (can_tail hb) h0 h1
   refine ⟨c1, fun p => ?_⟩
   rw [c2, memB_cons]
   rcases hi : inB c p with _ | _
   ·rfl
   ·have := inB_iff.1 hi
    have : inB b p = false := by simp [inB]; omega
    rw [this, Bool.false_or]
  ·rename_i hc
   obtain ⟨c1, c2⟩ := cut_spec r (b.2 + 1, c.2) (can_tail hb) (by show 0 ≤ b.2 + 1; omega) h1
   refine ⟨fun s hs => ?_, fun p => ?_⟩
   ·rcases List.mem_append.1 hs with hs | hs
    ·split at hs
     ·rw [List.mem_singleton.1 hs]; exact ⟨h0, by show c.1 ≤ b.1 - 1; omega, by show b.1 - 1 ≤ _; omega⟩
     ·exact absurd hs (by simp)
    ·exact c1 s hs
   ·rw [memB_append, c2]
    by_cases h2 : p < b.1
    ·have hn : memB (b :: r) p = false := by
      rcases hq : memB (b :: r) p with _ | _
      ·rfl
      ·have := start_le hb hq
       omega
     have hx : inB (b.2 + 1, c.2) p = false := by simp [inB]; omega
     rw [hn, hx, Bool.false_and, Bool.or_false, Bool.not_false, Bool.and_true]
     split
     ·rw [memB_cons, memB_nil, Bool.or_false, Bool.eq_iff_iff, inB_iff, inB_iff]
      show c.1 ≤ p ∧ p ≤ b.1 - 1 ↔ _
      omega
     ·rw [memB_nil]
      symm
      simp [inB]
      omega
    ·have e : memB (if c.1 < b.1 then [(c.1, b.1 - 1)] else []) p = false := by
      split
      ·rw [memB_cons, memB_nil, Bool.or_false]
       simp [inB]; omega
      ·rfl
     rw [e, Bool.false_or, memB_cons]
     by_cases h3 : p ≤ b.2
     ·rw [inB_iff.2 ⟨by omega, h3⟩, show inB (b.2 + 1, c.2) p = false by simp [inB]; omega]
      simp
     ·rw [show inB b p = false by simp [inB]; omega, Bool.false_or]
      congr 1
      rw [Bool.eq_iff_iff, inB_iff, inB_iff]
      show b.2 + 1 ≤ p ∧ p ≤ c.2 ↔ _
      omega
theorem cut_length : ∀ (bs : List Sn) (c : Sn), (cut c bs).length ≤ bs.length + 1
 | [], c => by unfold cut; split <;> simp
 | b :: r, c => by
  have h1 := cut_length r c
  have h2 := cut_length r (b.2 + 1, c.2)
  unfold cut
  rw [List.length_cons]
  split
  ·omega
  ·rw [List.length_append]
   split <;> simp <;> omega
def cuts (xa bs : List Sn) : List Sn := xa.flatMap fun a => cut a bs
theorem cuts_spec {xa bs : List Sn} (ha : ∀ s ∈ xa, Ok s) (hb : Can bs) : (∀ s ∈ cuts xa bs, Ok s) ∧ ∀ p, memB (cuts xa bs) p = (memB xa p && !memB bs p) := by
 constructor
 ·intro s hs
  obtain ⟨a, h1, h2⟩ := List.mem_flatMap.1 hs
  obtain ⟨a0, a1, a2⟩ := ha a h1
  exact (cut_spec bs a hb a0 a2).1 s h2
 ·intro p
  unfold cuts
  rw [memB_flatMap]
  induction xa with
  | nil => rfl
  | cons a xa ih =>
   obtain ⟨a0, a1, a2⟩ := ha a List.mem_cons_self
   rw [List.any_cons, (cut_spec bs a hb a0 a2).2, ih (fun s hs => ha s (List.mem_cons_of_mem _ hs)), memB_cons]
   cases inB a p <;> cases memB xa p <;> cases memB bs p <;> rfl
/-- How many points there are. -/
def wid (xs : List Sn) : Int := (xs.map fun s => s.2 + 1 - s.1).sum
theorem wid_nil : wid [] = 0 := rfl
theorem wid_cons (s : Sn) (xs : List Sn) : wid (s :: xs) = (s.2 + 1 - s.1) + wid xs := by simp [wid]
def cnt (f : Int → Bool) (n : Nat) : Nat := (List.range n).countP fun i : Nat => f (i : Int)
theorem cnt_succ (f : Int → Bool) (n : Nat) : cnt f (n + 1) = cnt f n + (if f (n : Int) then 1 else 0) := by
 unfold cnt
 rw [List.range_succ, List.countP_append, List.countP_singleton]
theorem cnt_or (f g : Int → Bool) : ∀ n, cnt (fun p => f p || g p) n + cnt (fun p => f p && g p) n = cnt f n + cnt g n
 | 0 => rfl
 | n + 1 => by
  have := cnt_or f g n
  rw [cnt_succ, cnt_succ, cnt_succ, cnt_succ]
  cases f (n : Int) <;> cases g (n : Int) <;> simp <;> omega
theorem cnt_congr {f g : Int → Bool} (h : ∀ p, f p = g p) (n : Nat) : cnt f n = cnt g n := by
 rw [show f = g from funext h]
theorem cnt_false {f : Int → Bool} (h : ∀ p, f p = false) : ∀ n, cnt f n = 0
 | 0 => rfl
 | n + 1 => by rw [cnt_succ, cnt_false h n, h]; rfl
theorem cnt_in {s : Sn} (h0 : 0 ≤ s.1) (h1 : s.1 ≤ s.2) : ∀ n : Nat, ((cnt (inB s) n : Nat) : Int) = if (n : Int) ≤ s.1 then 0 else if (n : Int) ≤ s.2 then n - s.1 else s.2 + 1 - s.1
 | 0 => by rw [if_pos (by omega)]; rfl
 | n + 1 => by
  have ih := cnt_in h0 h1 n
  rw [cnt_succ]
  have e : inB s (n : Int) = decide (s.1 ≤ (n : Int) ∧ (n : Int) ≤ s.2) := by simp [inB]
  rw [e]
  push_cast
  rw [ih]
  by_cases a : s.1 ≤ (n : Int) ∧ (n : Int) ≤ s.2
  ·rw [if_pos (decide_eq_true a)]
   by_cases c1 : (n : Int) ≤ s.1 <;> by_cases c2 : (n : Int) ≤ s.2 <;> by_cases c3 : (n : Int) + 1 ≤ s.1 <;> by_cases c4 : (n : Int) + 1 ≤ s.2 <;> simp only [c1, c2, c3, c4, if_true, if_false] <;> omega
  ·rw [if_neg (fun h => a (of_decide_eq_true h))]
   by_cases c1 : (n : Int) ≤ s.1 <;> by_cases c2 : (n : Int) ≤ s.2 <;> by_cases c3 : (n : Int) + 1 ≤ s.1 <;> by_cases c4 : (n : Int) + 1 ≤ s.2 <;> simp only [c1, c2, c3, c4, if_true, if_false] <;> omega
/-- How many addresses there are. -/
def NP : Nat := 4294967296
theorem NP_eq : (NP : Int) = 4294967296 := rfl
theorem wid_cnt : ∀ {xs : List Sn}, Can xs → wid xs = (cnt (memB xs) NP : Nat)
 | [], _ => by rw [cnt_false (fun p => memB_nil p)]; rfl
 | s :: xs, h => by
  obtain ⟨s0, s1, s2⟩ := h.1 s List.mem_cons_self
  have ih := wid_cnt (can_tail h)
  have h1 := cnt_or (inB s) (memB xs) NP
  have h2 : cnt (fun p => inB s p && memB xs p) NP = 0 := cnt_false (fun p => by
   rcases hi : inB s p with _ | _
   ·rfl
   ·rcases hm : memB xs p with _ | _
    ·rfl
    ·have := ((mem_tail h p).1 hm).2
     have := (inB_iff.1 hi).2
     omega) _
  have h3 := cnt_in s0 s1 NP
  rw [if_neg (by rw [NP_eq]; omega), if_neg (by rw [NP_eq]; omega)] at h3
  have h4 : cnt (memB (s :: xs)) NP = cnt (fun p => inB s p || memB xs p) NP := cnt_congr (fun p => memB_cons s xs p) _
  rw [wid_cons, ih, h4]
  have := NP_eq
  omega
theorem wid_le {xs : List Sn} (h : Can xs) : 0 ≤ wid xs ∧ wid xs ≤ 4294967296 := by
 rw [wid_cnt h]
 have : cnt (memB xs) NP ≤ (List.range NP).length := List.countP_le_length
 rw [List.length_range] at this
 have := NP_eq
 omega
end Go.Proofs.Ytmdhedkgpgoneaa.Si

namespace Go.Proofs.Ytmdhedkgpgoneaa.Se
set_option linter.unusedVariables false
open Go.RowKit Go.Proofs.Ytmdhedkgpgoneaa.Q Go.Proofs.Ytmdhedkgpgoneaa.Pure Go.Proofs.Ytmdhedkgpgoneaa.Si Go.Proofs.YtmdhedkgpgoneaaW.PrintWords
/-- A block. -/
abbrev Bl := S44
theorem bl_ext {a b : Bl} (h0 : a.f0 = b.f0) (h1 : a.f1 = b.f1) : a = b := by
 obtain ⟨a0, a1⟩ := a
 obtain ⟨b0, b1⟩ := b
 obtain rfl : a0 = b0 := h0
 obtain rfl : a1 = b1 := h1
 rfl
instance decBl : DecidableEq Bl := fun a b => decidable_of_iff (a.f0 = b.f0 ∧ a.f1 = b.f1) ⟨fun h => bl_ext h.1 h.2, fun h => h ▸ ⟨rfl, rfl⟩⟩
/-- The span of a block. -/
def spn (b : Bl) : Sn := (b.f0, b.f0 + sz b.f1 - 1)
theorem sz_dvd {b : Int} (h0 : 0 ≤ b) (h1 : b ≤ 32) : ∃ q : Int, 4294967296 = sz b * q := by
 obtain ⟨n, rfl⟩ : ∃ n : Nat, b = n := ⟨b.toNat, by omega⟩
 refine ⟨2 ^ n, ?_⟩
 unfold sz
 rw [← Int.pow_add, show (32 - (n : Int)).toNat + n = 32 by omega]
 rfl
theorem spn_ok {b : Bl} (h : bok b.f0 b.f1 = true) : Ok (spn b) := by
 obtain ⟨h0, h1, h2, h3, h4⟩ := bok_iff.1 h
 have hp := sz_pos b.f1
 obtain ⟨q, hq⟩ := sz_dvd h2 h3
 obtain ⟨r, hr⟩ := Int.dvd_of_emod_eq_zero h4
 refine ⟨h0, by show b.f0 ≤ b.f0 + sz b.f1 - 1; omega, ?_⟩
 show b.f0 + sz b.f1 - 1 ≤ 4294967295
 have hlt : sz b.f1 * r < sz b.f1 * q := by omega
 have h5 : r < q := Int.lt_of_mul_lt_mul_left hlt (by omega)
 have h6 : sz b.f1 * (r + 1) ≤ sz b.f1 * q := Int.mul_le_mul_of_nonneg_left (by omega) (by omega)
 rw [Int.mul_add, Int.mul_one] at h6
 omega
/-- All blocks are valid. -/
def okB (l : List Bl) : Bool := l.all fun b => bok b.f0 b.f1
theorem okB_iff {l : List Bl} : okB l = true ↔ ∀ b ∈ l, bok b.f0 b.f1 = true := by simp [okB]
theorem spns_ok {l : List Bl} (h : okB l = true) : ∀ s ∈ l.map spn, Ok s := by
 intro s hs
 obtain ⟨b, hb, rfl⟩ := List.mem_map.1 hs
 exact spn_ok (okB_iff.1 h b hb)
/-- The total size of blocks. -/
def sumB (l : List Bl) : Int := (l.map fun b => sz b.f1).sum
theorem sumB_nil : sumB [] = 0 := rfl
theorem sumB_cons (b : Bl) (l : List Bl) : sumB (b :: l) = sz b.f1 + sumB l := by simp [sumB]
theorem sumB_append (a b : List Bl) : sumB (a ++ b) = sumB a + sumB b := by simp [sumB]
theorem sumB_length : ∀ l : List Bl, (l.length : Int) ≤ sumB l
 | [] => by rw [sumB_nil]; simp
 | b :: l => by
  have := sumB_length l
  have := sz_pos b.f1
  rw [sumB_cons, List.length_cons]
  omega
theorem cov_sum : ∀ (n : Nat) (a b : Int), (b + 1 - a).toNat ≤ n → a ≤ b + 1 → sumB (cov n a b) = b + 1 - a
 | 0, a, b, hn, h => by
  show (0 : Int) = _
  omega
 | n + 1, a, b, hn, h => by
  unfold cov
  split
  ·rename_i hab
   obtain ⟨p0, p1, pf, _⟩ := mb_spec hab
   have hp := sz_pos (mb a b)
   have hf := (fits_iff.1 pf).2
   rw [sumB_cons, cov_sum n (a + sz (mb a b)) b (by omega) (by omega)]
   show sz (mb a b) + _ = _
   omega
  ·show (0 : Int) = _
   omega
/-- The blocks of some spans. -/
def coS (C : List Sn) : List Bl := C.flatMap fun s => cov NN s.1 s.2
theorem coS_nil : coS [] = [] := rfl
theorem coS_cons (s : Sn) (C : List Sn) : coS (s :: C) = cov NN s.1 s.2 ++ coS C := by simp [coS]
theorem coS_sum : ∀ {C : List Sn}, (∀ s ∈ C, Ok s) → sumB (coS C) = wid C
 | [], _ => rfl
 | s :: C, h => by
  have hN := NN_eq
  obtain ⟨s0, s1, s2⟩ := h s List.mem_cons_self
  rw [coS_cons, sumB_append, cov_sum NN s.1 s.2 (by omega) (by omega), coS_sum (fun t ht => h t (List.mem_cons_of_mem _ ht)), wid_cons]
theorem coS_length {C : List Sn} (h : Si.Can C) : (coS C).length ≤ 4294967296 := by
 have h1 := sumB_length (coS C)
 rw [coS_sum h.1] at h1
 have := wid_le h
 omega
/-- A span into a sorted list. -/
def insP (x : Sn) : List Sn → List Sn
 | [] => [x]
 | s :: r => if s.1 < x.1 then s :: insP x r else x :: s :: r
def srt : List Sn → List Sn → List Sn
 | acc, [] => acc
 | acc, x :: r => srt (insP x acc) r
theorem mem_insP (x s : Sn) : ∀ l : List Sn, s ∈ insP x l ↔ s = x ∨ s ∈ l
 | [] => by simp [insP]
 | t :: r => by
  unfold insP
  split
  ·rw [List.mem_cons, mem_insP x s r, List.mem_cons]
   constructor
   ·rintro (h | h | h)
    ·exact .inr (.inl h)
    ·exact .inl h
    ·exact .inr (.inr h)
   ·rintro (h | h | h)
    ·exact .inr (.inl h)
    ·exact .inl h
    ·exact .inr (.inr h)
  ·rw [List.mem_cons]
theorem insP_length (x : Sn) : ∀ l : List Sn, (insP x l).length = l.length + 1
 | [] => rfl
 | t :: r => by
  unfold insP
  split
  ·rw [List.length_cons, insP_length x r, List.length_cons]
  ·rfl
theorem insP_sorted (x : Sn) : ∀ l : List Sn, (l.Pairwise fun s t => s.1 ≤ t.1) → (insP x l).Pairwise fun s t => s.1 ≤ t.1
 | [], _ => List.pairwise_singleton _ _
 | t :: r, h => by
  obtain ⟨h1, h2⟩ := List.pairwise_cons.1 h
  unfold insP
  split
  ·rename_i hc
   refine List.pairwise_cons.2 ⟨fun u hu => ?_, insP_sorted x r h2⟩
   rcases (mem_insP x u r).1 hu with rfl | hu
   ·omega
   ·exact h1 u hu
  ·rename_i hc
   refine List.pairwise_cons.2 ⟨fun u hu => ?_, h⟩
   rcases List.mem_cons.1 hu with rfl | hu
   ·omega
   ·have := h1 u hu
    omega
theorem mem_srt (s : Sn) : ∀ (l acc : List Sn), s ∈ srt acc l ↔ s ∈ acc ∨ s ∈ l
 | [], acc => by simp [srt]
 | x :: r, acc => by
  unfold srt
  rw [mem_srt s r, mem_insP, List.mem_cons]
  constructor
  ·rintro ((h | h) | h)
   ·exact .inr (.inl h)
   ·exact .inl h
   ·exact .inr (.inr h)
  ·rintro (h | h | h)
   ·exact .inl (.inr h)
   ·exact .inl (.inl h)
   ·exact .inr h
theorem srt_length : ∀ (l acc : List Sn), (srt acc l).length = acc.length + l.length
 | [], acc => rfl
 | x :: r, acc => by
  unfold srt
  rw [srt_length r, insP_length, List.length_cons]
  omega
theorem srt_sorted : ∀ (l acc : List Sn), (acc.Pairwise fun s t => s.1 ≤ t.1) → (srt acc l).Pairwise fun s t => s.1 ≤ t.1
 | [], acc, h => h
 | x :: r, acc, h => srt_sorted r _ (insP_sorted x acc h)
/-- The canonical list of some spans. -/
def cn (xs : List Sn) : List Sn := mrg (srt [] xs)
theorem cn_spec {xs : List Sn} (h : ∀ s ∈ xs, Ok s) : Si.Can (cn xs) ∧ ∀ p, memB (cn xs) p = memB xs p := by
 have hm : ∀ s, s ∈ srt [] xs ↔ s ∈ xs := fun s => by rw [mem_srt]; simp
 obtain ⟨h1, h2⟩ := mrg_spec (xs := srt [] xs) (fun s hs => h s ((hm s).1 hs)) (srt_sorted xs [] List.Pairwise.nil)
 exact ⟨h1, fun p => by rw [← memB_congr hm p]; exact h2 p⟩
theorem cn_length (xs : List Sn) : (cn xs).length ≤ xs.length := by
 have h1 := mrg_length (srt [] xs)
 rw [srt_length, List.length_nil, Nat.zero_add] at h1
 exact h1
theorem cn_of {xs C : List Sn} (h : ∀ s ∈ xs, Ok s) (hC : Si.Can C) (hp : ∀ p, memB C p = memB xs p) : cn xs = C := by
 obtain ⟨h1, h2⟩ := cn_spec h
 exact can_unique _ _ h1 hC fun p => by rw [h2, hp]
/-- The canonical spans of blocks. -/
def ca (l : List Bl) : List Sn := cn (l.map spn)
theorem ca_can {l : List Bl} (h : okB l = true) : Si.Can (ca l) := (cn_spec (spns_ok h)).1
theorem ca_length (l : List Bl) : (ca l).length ≤ l.length := by
 have := cn_length (l.map spn)
 rwa [List.length_map] at this
/-- Blocks are a set. -/
def isSet (l : List Bl) : Bool := okB l && (decide (l.length ≤ 64) && decide (coS (ca l) = l))
theorem isSet_iff {l : List Bl} : isSet l = true ↔ okB l = true ∧ l.length ≤ 64 ∧ coS (ca l) = l := by simp [isSet]
/-- Blocks, if they are not too many. -/
def room (l : List Bl) : List Bl × Bool := if l.length ≤ 64 then (l, true) else ([], false)
/-- What is asked of two sets. -/
def dual (f : List Sn → List Sn → List Sn) (a b : List Bl) : List Bl × Bool := if isSet a = true ∧ isSet b = true then room (coS (f (ca a) (ca b))) else ([], false)
def less (xa bs : List Sn) : List Sn := both xa (nt 0 bs)
theorem nt_can {xs : List Sn} (h : Si.Can xs) : Si.Can (nt 0 xs) := (nt_spec xs 0 (Int.le_refl _) h fun s hs => (h.1 s hs).1).1
theorem can_range {xs : List Sn} (h : ∀ s ∈ xs, Ok s) {p : Int} (hp : memB xs p = true) : 0 ≤ p ∧ p ≤ 4294967295 := by
 obtain ⟨s, hs, h1, h2⟩ := memB_iff.1 hp
 obtain ⟨s0, s1, s2⟩ := h s hs
 exact ⟨by omega, by omega⟩
theorem less_can {xa bs : List Sn} (ha : Si.Can xa) (hb : Si.Can bs) : Si.Can (less xa bs) := both_can ha (nt_can hb)
theorem less_pts {xa bs : List Sn} (ha : Si.Can xa) (hb : Si.Can bs) (p : Int) : memB (less xa bs) p = (memB xa p && !memB bs p) := by
 unfold less
 rw [both_pts, (nt_spec bs 0 (Int.le_refl _) hb fun s hs => (hb.1 s hs).1).2.2 p]
 rcases hm : memB xa p with _ | _
 ·rfl
 ·obtain ⟨h0, h1⟩ := can_range ha.1 hm
  simp [h0, h1]
theorem cn_cuts {xa bs : List Sn} (ha : Si.Can xa) (hb : Si.Can bs) : cn (cuts xa bs) = less xa bs := by
 obtain ⟨h1, h2⟩ := cuts_spec ha.1 hb
 exact cn_of h1 (less_can ha hb) fun p => by rw [less_pts ha hb, h2]
end Go.Proofs.Ytmdhedkgpgoneaa.Se

namespace Go.Proofs.Ytmdhedkgpgoneaa.Se
set_option linter.unusedSimpArgs false
set_option linter.unusedVariables false
open Go.RowKit Go.Proofs.Ytmdhedkgpgoneaa.Q Go.Proofs.Ytmdhedkgpgoneaa.Pure Go.Proofs.Ytmdhedkgpgoneaa.Si Go.Proofs.YtmdhedkgpgoneaaW.PrintWords Go.Proofs.YtmdhedkgpgoneaaW.PrintLast Go.Proofs.YtmdhedkgpgoneaaW.PrintMore
theorem wnat {n : Nat} (h : n ≤ 1000000000000) : wrap64 ((n : Int) + 1) = ((n + 1 : Nat) : Int) := by
 rw [w64 (by omega) (by omega)]; omega
theorem mid_len {α : Type} (p : List α) (x : α) (r : List α) : (p ++ x :: r).length = p.length + 1 + r.length := by simp; omega
theorem mid_get {α : Type} (p : List α) (x : α) (r : List α) (d : α) : (p ++ x :: r).getD p.length d = x := by
 rw [List.getD_eq_getElem?_getD, List.getElem?_append_right (Nat.le_refl _), Nat.sub_self]; rfl
theorem mid_app {α : Type} (p : List α) (x : α) (r : List α) : p ++ x :: r = (p ++ [x]) ++ r := by simp
theorem snoc_len {α : Type} (p : List α) (x : α) : (p ++ [x]).length = p.length + 1 := by simp
theorem rdB_mid (p r : List Bl) (x : Bl) : rd_T44 (p ++ x :: r) ((p.length : Nat) : Int) = x := mid_get p x r _
/-- A span, as the reference has it. -/
abbrev S6 := S63
def to6 (s : Sn) : S6 := ⟨s.1, s.2⟩
theorem rd6_mid (p r : List Sn) (x : Sn) : rd_T63 ((p ++ x :: r).map to6) ((p.length : Nat) : Int) = to6 x := by
 have h := mid_get (p.map to6) (to6 x) (r.map to6) z63
 rw [List.length_map] at h
 rw [List.map_append, List.map_cons]
 exact h
theorem rd6_last (p : List Sn) (x : Sn) : rd_T63 ((p ++ [x]).map to6) ((p.length : Nat) : Int) = to6 x := rd6_mid p [] x
theorem set6_last (p : List Sn) (x y : Sn) : ((p ++ [x]).map to6).set p.length (to6 y) = (p ++ [y]).map to6 := by
 rw [List.map_append, List.map_append, List.set_append_right _ _ (by rw [List.length_map]; exact Nat.le_refl _), List.length_map, Nat.sub_self]
 rfl
theorem ins_loop (x0 : List Bl) (x4 : Int) (x : Sn) : ∀ (r p : List Sn), p.length + r.length ≤ 100000 → ∃ c, c ≤ r.length + 1 ∧ ∀ k, spec_l2Spans.l1 (k + c) x0 ((p ++ r).map to6) x4 (p.length : Int) x.1 x.2 = spec_l2Spans.l0 k x0 ((p ++ insP x r).map to6) (wrap64 (x4 + 1)) := by
 intro r
 induction r with
 | nil =>
  intro p hl
  refine ⟨1, by simp, fun k => ?_⟩
  have hm : ((p ++ []).map to6) = p.map to6 := by rw [List.append_nil]
  have hml : (p.map to6).length = p.length := List.length_map ..
  have ht : (p.map to6).take p.length = p.map to6 := List.take_of_length_le (by omega)
  have hd : (p.map to6).drop p.length = [] := List.drop_eq_nil_of_le (by omega)
  rw [hm]
  simp only [spec_l2Spans.l1, Option.bind_some, List.nil_append, Int.toNat_natCast, ht, hd, List.append_nil]
  rw [if_neg (by omega), if_pos (by omega), if_pos (by omega), if_pos (by rw [List.length_nil]; omega), if_pos (by simp; simp at hl; omega), if_pos (by simp; simp at hl; omega)]
  show spec_l2Spans.l0 k x0 (p.map to6 ++ [to6 x]) _ = _
  rw [insP, List.map_append]
  rfl
 | cons s r ih =>
  intro p hl
  rw [List.length_cons] at hl
  have hml : ((p ++ s :: r).map to6).length = p.length + 1 + r.length := by rw [List.length_map, mid_len]
  by_cases hc : s.1 < x.1
  ·obtain ⟨c, hc1, hc2⟩ := ih (p ++ [s]) (by rw [snoc_len]; omega)
   refine ⟨c + 1, by rw [List.length_cons]; omega, fun k => ?_⟩
   rw [show k + (c + 1) = (k + c) + 1 by omega]
   simp only [spec_l2Spans.l1]
   rw [if_pos (by omega), if_pos (by omega), rd6_mid, if_pos (show (to6 s).f0 < x.1 from hc), wnat (by omega)]
   have h := hc2 k
   rw [snoc_len, ← mid_app] at h
   rw [h, insP, if_pos hc, ← mid_app]
  ·refine ⟨1, by omega, fun k => ?_⟩
   have hpl : p.length = (p.map to6).length := (List.length_map ..).symm
   have ht : ((p ++ s :: r).map to6).take p.length = p.map to6 := by rw [List.map_append, hpl, List.take_left]
   have hd : ((p ++ s :: r).map to6).drop p.length = (s :: r).map to6 := by rw [List.map_append, hpl, List.drop_left]
   simp only [spec_l2Spans.l1, Option.bind_some, List.nil_append, Int.toNat_natCast, ht, hd]
   rw [if_pos (by omega), if_pos (by omega), rd6_mid, if_neg (show ¬ (to6 s).f0 < x.1 from hc), if_pos (by omega), if_pos (by rw [List.length_nil]; omega), if_pos (by simp; omega), if_pos (by simp; omega)]
   rw [insP, if_neg hc]
   congr 1
   simp [to6]
theorem sort_loop : ∀ (r p : List Bl) (A : List Sn), A.length + r.length ≤ 1000 → p.length + r.length ≤ 1000 → okB r = true → ∃ c, c ≤ 1010 * r.length + 1 ∧ ∀ k, 50 ≤ k → spec_l2Spans.l0 (k + c) (p ++ r) (A.map to6) (p.length : Int) = spec_l2Spans.l2 k ((srt A (r.map spn)).map to6) [] 0 := by
 intro r
 induction r with
 | nil =>
  intro p A _ hl _
  refine ⟨1, by simp, fun k _ => ?_⟩
  simp only [spec_l2Spans.l0]
  rw [List.append_nil, if_neg (by omega)]
  rfl
 | cons b r ih =>
  intro p A h1 h2 hok
  rw [List.length_cons] at h1 h2
  have hb := okB_iff.1 hok b List.mem_cons_self
  obtain ⟨c1, hc1, hc2⟩ := ins_loop (p ++ b :: r) (p.length : Int) (spn b) A [] (by rw [List.length_nil]; omega)
  obtain ⟨c3, hc3, hc4⟩ := ih (p ++ [b]) (insP (spn b) A) (by rw [insP_length]; omega) (by rw [snoc_len]; omega) (okB_iff.2 fun x hx => okB_iff.1 hok x (List.mem_cons_of_mem _ hx))
  refine ⟨c3 + c1 + 1, by rw [List.length_cons]; omega, fun k hk => ?_⟩
  rw [show k + (c3 + c1 + 1) = (k + c3 + c1) + 1 by omega]
  simp only [spec_l2Spans.l0]
  rw [mid_len, if_pos (by omega), if_pos (by omega), rdB_mid, last_spec hb (by omega), Option.bind_some]
  have h := hc2 (k + c3)
  rw [List.nil_append, List.nil_append, List.length_nil] at h
  have h' := hc4 k hk
  rw [← mid_app, snoc_len] at h'
  rw [show (0 : Int) = ((0 : Nat) : Int) from rfl]
  refine Eq.trans h ?_
  rw [wnat (by omega), h']
  rfl
theorem merge_loop : ∀ (R P xa : List Sn) (t : Sn), P.length + R.length ≤ 100000 → xa.length + R.length ≤ 100000 → (∀ s ∈ R, 0 ≤ s.2 ∧ s.2 ≤ 4294967295) → 0 ≤ t.2 → t.2 ≤ 4294967295 → ∀ k, 2 * R.length + 1 ≤ k →
  spec_l2Spans.l2 k ((P ++ R).map to6) ((xa ++ [t]).map to6) (P.length : Int) = some ((mrgG xa t R).map to6) := by
 intro R
 induction R with
 | nil =>
  intro P xa t hp ha _ _ _ k hk
  obtain ⟨k, rfl⟩ : ∃ j, k = j + 1 := ⟨k - 1, by omega⟩
  simp only [spec_l2Spans.l2]
  rw [if_neg (by simp)]
  rfl
 | cons s R ih =>
  intro P xa t hp ha hR t0 t1 k hk
  rw [List.length_cons] at hp ha hk
  obtain ⟨k, rfl⟩ : ∃ j, k = j + 2 := ⟨k - 2, by omega⟩
  obtain ⟨s0, s1⟩ := hR s List.mem_cons_self
  have hml : ((P ++ s :: R).map to6).length = P.length + 1 + R.length := by rw [List.length_map, mid_len]
  have hal : ((xa ++ [t]).map to6).length = xa.length + 1 := by rw [List.length_map, snoc_len]
  have hw : wrap64 (((xa.length + 1 : Nat) : Int) - 1) = (xa.length : Int) := by rw [w64 (by omega) (by omega)]; omega
  simp only [spec_l2Spans.l2]
  rw [hml, hal, hw, if_pos (by omega), if_pos (by omega), if_pos (by omega), if_pos (by omega), if_pos (by omega), rd6_mid, rd6_last]
  show spec_l2Spans.j3 (k + 1) _ _ _ _ (decide (s.1 ≤ wrap64 (t.2 + 1))) = _
  rw [w64 (by omega) (by omega)]
  simp only [spec_l2Spans.j3]
  by_cases hc : s.1 ≤ t.2 + 1
  ·rw [if_pos (decide_eq_true hc), hml, hal, if_pos (by omega), if_pos (by omega), if_pos (by omega), if_pos (by omega), rd6_mid, rd6_last, Int.toNat_natCast, wnat (by omega), mrgG, if_pos hc]
   by_cases hd : t.2 < s.2
   ·rw [if_pos (show (to6 s).f1 > (to6 t).f1 from hd), if_pos hd]
    show spec_l2Spans.l2 k _ (((xa ++ [t]).map to6).set xa.length (to6 (t.1, s.2))) _ = _
    rw [set6_last]
    have h := ih (P ++ [s]) xa (t.1, s.2) (by rw [snoc_len]; omega) (by omega) (fun u hu => hR u (List.mem_cons_of_mem _ hu)) s0 s1 k (by omega)
    rwa [← mid_app, snoc_len] at h
   ·rw [if_neg (show ¬ (to6 s).f1 > (to6 t).f1 from hd), if_neg hd]
    have h := ih (P ++ [s]) xa t (by rw [snoc_len]; omega) (by omega) (fun u hu => hR u (List.mem_cons_of_mem _ hu)) t0 t1 k (by omega)
    rwa [← mid_app, snoc_len] at h
  ·rw [if_neg (by simpa using hc), hml, mrgG, if_neg hc, if_pos (by omega), if_pos (by omega), rd6_mid, Option.bind_some, if_pos (by simp; omega), wnat (by omega)]
   have h := ih (P ++ [s]) (xa ++ [t]) s (by rw [snoc_len]; omega) (by rw [snoc_len]; omega) (fun u hu => hR u (List.mem_cons_of_mem _ hu)) s0 s1 k (by omega)
   rw [← mid_app, snoc_len] at h
   rw [← h, List.map_append (l₁ := xa ++ [t])]
   rfl
theorem merge_all (S : List Sn) (hl : S.length ≤ 100000) (hS : ∀ s ∈ S, 0 ≤ s.2 ∧ s.2 ≤ 4294967295) {k : Nat} (hk : 2 * S.length + 1 ≤ k) : spec_l2Spans.l2 k (S.map to6) [] 0 = some ((mrg S).map to6) := by
 cases S with
 | nil =>
  obtain ⟨k, rfl⟩ : ∃ j, k = j + 1 := ⟨k - 1, by omega⟩
  simp only [spec_l2Spans.l2]
  rfl
 | cons s R =>
  rw [List.length_cons] at hl hk
  obtain ⟨k, rfl⟩ : ∃ j, k = j + 2 := ⟨k - 2, by omega⟩
  obtain ⟨s0, s1⟩ := hS s List.mem_cons_self
  have hml : ((s :: R).map to6).length = 1 + R.length := by rw [List.length_map, List.length_cons]; omega
  have hw : wrap64 ((([] : List S6).length : Int) - 1) = -1 := by rw [List.length_nil, w64 (by omega) (by omega)]; rfl
  have hz : rd_T63 ((s :: R).map to6) 0 = to6 s := rfl
  simp only [spec_l2Spans.l2, spec_l2Spans.j3]
  rw [hml, hw, if_pos (by omega), if_neg (by omega), if_neg (by simp), if_pos (by omega), if_pos (by omega), hz, Option.bind_some, if_pos (by simp), w64 (x := 0 + 1) (by omega) (by omega)]
  have h := merge_loop R [s] [] s (by simp; omega) (by simp; omega) (fun u hu => hS u (List.mem_cons_of_mem _ hu)) s0 s1 k (by omega)
  exact h
theorem l2Spans_ev {l : List Bl} (h : okB l = true) (hl : l.length ≤ 1000) {k : Nat} (hk : 2000000 ≤ k) : spec_l2Spans.f k l = some ((ca l).map to6) := by
 obtain ⟨c, hc1, hc2⟩ := sort_loop l [] [] (by simpa using hl) (by simpa using hl) h
 have e := hc2 (k - c) (by omega)
 rw [show k - c + c = k by omega] at e
 unfold spec_l2Spans.f
 refine Eq.trans e ?_
 have hsl := srt_length (l.map spn) []
 rw [List.length_map, List.length_nil] at hsl
 refine merge_all _ (by omega) (fun s hs => ?_) (by omega)
 rcases (mem_srt s (l.map spn) []).1 hs with hs | hs
 ·exact absurd hs (by simp)
 ·obtain ⟨s0, s1, s2⟩ := spns_ok h s hs
  exact ⟨by omega, s2⟩
theorem cov_any : ∀ (n m : Nat) (a b : Int), (b + 1 - a).toNat ≤ n → (b + 1 - a).toNat ≤ m → cov n a b = cov m a b
 | 0, m, a, b, hn, hm => by rw [cov_nil (n := 0) (by omega), cov_nil (n := m) (by omega)]
 | n + 1, 0, a, b, hn, hm => by rw [cov_nil (n := n + 1) (by omega), cov_nil (n := 0) (by omega)]
 | n + 1, m + 1, a, b, hn, hm => by
  unfold cov
  by_cases hab : a ≤ b
  ·have hp := sz_pos (mb a b)
   rw [if_pos hab, if_pos hab, cov_any n m (a + sz (mb a b)) b (by omega) (by omega)]
  ·rw [if_neg hab, if_neg hab]
theorem cov_len {a b : Int} (n : Nat) (h : a ≤ b + 1) (hn : (b + 1 - a).toNat ≤ n) : ((cov n a b).length : Int) ≤ b + 1 - a := by
 have h1 := sumB_length (cov n a b)
 rwa [cov_sum n a b hn h] at h1
theorem cover_loop : ∀ (R P : List Sn) (acc : List Bl), P.length + R.length ≤ 1000000 → (∀ s ∈ R, Ok s) → (acc.length : Int) + wid R ≤ 5000000000 → ∀ k : Nat, wid R + 2 * R.length + 200 ≤ (k : Int) →
  spec_l2Cover.l0 k ((P ++ R).map to6) acc (P.length : Int) = some (acc ++ coS R) := by
 intro R
 induction R with
 | nil =>
  intro P acc _ _ _ k hk
  rw [wid_nil] at hk
  obtain ⟨k, rfl⟩ : ∃ j, k = j + 1 := ⟨k - 1, by omega⟩
  simp only [spec_l2Cover.l0]
  rw [if_neg (by simp), coS_nil, List.append_nil]
 | cons s R ih =>
  intro P acc hl hR hw k hk
  rw [List.length_cons] at hl hk
  have hN := NN_eq
  obtain ⟨s0, s1, s2⟩ := hR s List.mem_cons_self
  have hw0 : 0 ≤ wid R := by
   have h1 := sumB_length (coS R)
   rw [coS_sum (fun t ht => hR t (List.mem_cons_of_mem _ ht))] at h1
   omega
  rw [wid_cons] at hw hk
  obtain ⟨k, rfl⟩ : ∃ j, k = j + 1 := ⟨k - 1, by omega⟩
  have hml : ((P ++ s :: R).map to6).length = P.length + 1 + R.length := by rw [List.length_map, mid_len]
  simp only [spec_l2Cover.l0]
  rw [hml, if_pos (by omega), if_pos (by omega), rd6_mid]
  have hg : ((P ++ s :: R).map to6).getD P.length z63 = to6 s := by
   have := rd6_mid P R s
   unfold rd_T63 at this
   rwa [Int.toNat_natCast] at this
  obtain ⟨c, hc1, hc2⟩ := cover_l1 ((P ++ s :: R).map to6) P.length (by omega) (by omega) s.2 (by rw [hg]; rfl) s2 (s.2 + 1 - s.1).toNat s.1 acc s0 (Nat.le_refl _) (by omega)
  have e := hc2 (k - c) (by omega)
  rw [show k - c + c = k by omega, cov_any _ NN s.1 s.2 (Nat.le_refl _) (by omega)] at e
  refine Eq.trans e ?_
  have hcl := cov_len (a := s.1) (b := s.2) NN (by omega) (by omega)
  have h := ih (P ++ [s]) (acc ++ cov NN s.1 s.2) (by rw [snoc_len]; omega) (fun t ht => hR t (List.mem_cons_of_mem _ ht)) (by rw [List.length_append]; push_cast; omega) (k - c) (by omega)
  rw [← mid_app, snoc_len] at h
  rw [h, coS_cons, List.append_assoc]
theorem cover_ev' {C : List Sn} (h : Si.Can C) (hl : C.length ≤ 100000) {k : Nat} (hk : 5000000000 ≤ k) : spec_l2Cover.f k (C.map to6) = some (coS C) := by
 have hw := wid_le h
 unfold spec_l2Cover.f
 have e := cover_loop C [] [] (by simp; omega) h.1 (by simp; omega) k (by omega)
 exact e
/-- Two lists of blocks, compared one by one. -/
theorem all_eq (a b : List Bl) (h : a.length = b.length) : ((List.range a.length).all fun i => decide (rd_T44 a (i : Int) = rd_T44 b (i : Int))) = decide (a = b) := by
 rw [Bool.eq_iff_iff, List.all_eq_true, decide_eq_true_iff]
 constructor
 ·intro hh
  refine List.ext_getElem h fun i h1 h2 => ?_
  have := of_decide_eq_true (hh i (List.mem_range.2 h1))
  unfold rd_T44 at this
  rw [Int.toNat_natCast, List.getD_eq_getElem?_getD, List.getD_eq_getElem?_getD, List.getElem?_eq_getElem h1, List.getElem?_eq_getElem h2] at this
  exact this
 ·rintro rfl i _
  exact decide_eq_true rfl
theorem ne_blk (x y : Bl) : (!(x.f0 == y.f0) || !(x.f1 == y.f1)) = !decide (x = y) := by
 by_cases h : x = y
 ·subst h; simp
 ·rw [decide_eq_false h]
  by_cases h0 : x.f0 = y.f0
  ·have h1 : ¬ x.f1 = y.f1 := fun h1 => h (bl_ext h0 h1)
   simp [h0, h1]
  ·simp [h0]
theorem same_ev (a b : List Bl) (hl : a.length ≤ 1000000000) {k : Nat} (hk : a.length + 10 < k) : spec_l2Same.f k a b = some (decide (a = b)) := by
 unfold spec_l2Same.f
 by_cases h : a.length = b.length
 ·rw [if_pos (by omega), ← all_eq a b h]
  have hs := scan_loop (fun k i => spec_l2Same.l0 k a b i) a.length 1 (fun i => decide (rd_T44 a (i : Int) = rd_T44 b (i : Int))) false true (fun k i hi _ _ hg => ?_) (fun k i hi _ _ hg => ?_) (fun k _ => ?_) k (by omega)
  ·refine Eq.trans hs ?_
   generalize ((List.range a.length).all fun i => decide (rd_T44 a (i : Int) = rd_T44 b (i : Int))) = q
   cases q <;> rfl
  ·simp only [spec_l2Same.l0]
   rw [if_pos (by omega), if_pos (by omega), if_pos (by omega), ne_blk, hg, if_neg (by simp), wnat (by omega)]
  ·simp only [spec_l2Same.l0]
   rw [if_pos (by omega), if_pos (by omega), if_pos (by omega), ne_blk, hg, if_pos (by simp)]
  ·simp only [spec_l2Same.l0]
   rw [if_neg (by omega)]
 ·rw [if_neg (by omega), decide_eq_false fun e => h (by rw [e])]
theorem okB_range (l : List Bl) : ((List.range l.length).all fun i => bok (rd_T44 l (i : Int)).f0 (rd_T44 l (i : Int)).f1) = okB l := by
 rw [Bool.eq_iff_iff, List.all_eq_true, okB_iff]
 have hg : ∀ i (h : i < l.length), rd_T44 l (i : Int) = l[i] := fun i h => by
  unfold rd_T44
  rw [Int.toNat_natCast, List.getD_eq_getElem?_getD, List.getElem?_eq_getElem h]; rfl
 constructor
 ·intro hh b hb
  obtain ⟨i, hi, rfl⟩ := List.mem_iff_getElem.1 hb
  have := hh i (List.mem_range.2 hi)
  rwa [hg i hi] at this
 ·intro hh i hi
  rw [hg i (List.mem_range.1 hi)]
  exact hh _ (List.getElem_mem _)
theorem blocks_spec (l : List Bl) (hl : l.length ≤ 1000000000) {k : Nat} (hk : l.length + 50 < k) : spec_l2Blocks.f k l = some (okB l && decide (l.length ≤ 64)) := by
 unfold spec_l2Blocks.f
 rw [← okB_range l]
 have hs := scan_loop (fun k i => spec_l2Blocks.l0 k l i) l.length 42 (fun i => bok (rd_T44 l (i : Int)).f0 (rd_T44 l (i : Int)).f1) false (decide (l.length ≤ 64)) (fun k i hi hk _ hg => ?_) (fun k i hi hk _ hg => ?_) (fun k _ => ?_) k (by omega)
 ·refine Eq.trans hs ?_
  generalize ((List.range l.length).all fun i => bok (rd_T44 l (i : Int)).f0 (rd_T44 l (i : Int)).f1) = q
  cases q <;> rfl
 ·simp only [spec_l2Blocks.l0]
  rw [if_pos (by omega), if_pos (by omega), ok_spec _ _ (by omega), Option.bind_some, hg, if_pos rfl, wnat (by omega)]
 ·simp only [spec_l2Blocks.l0]
  rw [if_pos (by omega), if_pos (by omega), ok_spec _ _ (by omega), Option.bind_some, hg, if_neg (by simp)]
 ·simp only [spec_l2Blocks.l0]
  rw [if_neg (by omega)]
  congr 1
  rw [Bool.eq_iff_iff, decide_eq_true_iff, decide_eq_true_iff]
  omega
theorem room_spec (l : List Bl) : spec_l2Room.f l = some (room l) := by
 unfold spec_l2Room.f room
 by_cases h : l.length ≤ 64
 ·rw [if_neg (by omega), if_pos h]
 ·rw [if_pos (by omega), if_neg h]
theorem setOk_spec (l : List Bl) (hl : l.length ≤ 100000000) {k : Nat} (hk : 5000000000 ≤ k) : spec_SetOk.f k l = some (isSet l) := by
 unfold spec_SetOk.f isSet
 rw [blocks_spec l (by omega) (by omega), Option.bind_some]
 by_cases h : okB l = true
 ·by_cases h2 : l.length ≤ 64
  ·have hcl := ca_length l
   rw [h, if_pos (by simp [h2]), l2Spans_ev h (by omega) (by omega), Option.bind_some, cover_ev' (ca_can h) (by omega) hk, Option.bind_some, same_ev _ _ (by omega) (by omega), Option.bind_some, decide_eq_true h2, Bool.true_and, Bool.true_and]
   congr 1
   rw [Bool.eq_iff_iff, decide_eq_true_iff, decide_eq_true_iff]
   exact eq_comm
  ·rw [if_neg (by simp [h2]), decide_eq_false h2]
   simp
 ·rw [if_neg (by simp [h])]
  simp [h]
theorem both_in (xa bs : List Sn) (hbl : bs.length ≤ 1000) (Q T : List Sn) (a : Sn) (hQ : xa = Q ++ a :: T) : ∀ (R P acc : List Sn), bs = P ++ R → acc.length + R.length ≤ 1000000 → ∀ k,
  spec_l2Both.l1 (k + (2 * R.length + 1)) (xa.map to6) (bs.map to6) (acc.map to6) (Q.length : Int) (P.length : Int) = spec_l2Both.l0 k (xa.map to6) (bs.map to6) ((acc ++ meets a R).map to6) (wrap64 ((Q.length : Int) + 1)) := by
 intro R
 induction R with
 | nil =>
  intro P acc hb _ k
  have hml : (bs.map to6).length = P.length := by rw [List.length_map, hb, List.append_nil]
  rw [show k + (2 * ([] : List Sn).length + 1) = k + 1 by simp]
  simp only [spec_l2Both.l1]
  rw [hml, if_neg (by omega), show meets a [] = [] from rfl, List.append_nil]
 | cons b R ih =>
  intro P acc hb hl k
  rw [List.length_cons] at hl
  have hml : (bs.map to6).length = P.length + 1 + R.length := by rw [List.length_map, hb, mid_len]
  have hal : (xa.map to6).length = Q.length + 1 + T.length := by rw [List.length_map, hQ, mid_len]
  have hra : rd_T63 (xa.map to6) (Q.length : Int) = to6 a := by rw [hQ, rd6_mid]
  have hrb : rd_T63 (bs.map to6) (P.length : Int) = to6 b := by rw [hb, rd6_mid]
  have hbl' : P.length + 1 + R.length ≤ 1000 := by rw [← mid_len P b R, ← hb]; exact hbl
  rw [show k + (2 * (b :: R).length + 1) = (k + (2 * R.length + 1)) + 1 + 1 by rw [List.length_cons]; omega]
  have hj : spec_l2Both.l1 ((k + (2 * R.length + 1)) + 1 + 1) (xa.map to6) (bs.map to6) (acc.map to6) (Q.length : Int) (P.length : Int) = spec_l2Both.j2 ((k + (2 * R.length + 1)) + 1) (xa.map to6) (bs.map to6) (acc.map to6) (Q.length : Int) (P.length : Int) (hi2 a.1 b.1) a.2 := by
   simp only [spec_l2Both.l1]
   rw [hml, hal, if_pos (by omega), if_pos (by omega), if_pos (by omega), if_pos (by omega), hra, hrb]
   unfold hi2
   by_cases hc : a.1 < b.1
   ·rw [if_pos (show (to6 b).f0 > (to6 a).f0 from hc), if_pos hc]; rfl
   ·rw [if_neg (show ¬ (to6 b).f0 > (to6 a).f0 from hc), if_neg hc]; rfl
  rw [hj]
  have hstep : spec_l2Both.j2 ((k + (2 * R.length + 1)) + 1) (xa.map to6) (bs.map to6) (acc.map to6) (Q.length : Int) (P.length : Int) (hi2 a.1 b.1) a.2 = spec_l2Both.l1 (k + (2 * R.length + 1)) (xa.map to6) (bs.map to6) ((acc ++ meet a b).map to6) (Q.length : Int) ((P ++ [b]).length : Int) := by
   simp only [spec_l2Both.j2]
   rw [hml, if_pos (by omega), if_pos (by omega), hrb, wnat (by omega), snoc_len, List.length_map]
   unfold meet lo2
   by_cases hc : b.2 < a.2
   ·rw [if_pos (show (to6 b).f1 < a.2 from hc), if_pos hc]
    by_cases hd : hi2 a.1 b.1 ≤ b.2
    ·rw [if_pos (show hi2 a.1 b.1 ≤ (to6 b).f1 from hd), if_pos hd, if_pos (by omega), List.map_append]
     rfl
    ·rw [if_neg (show ¬ hi2 a.1 b.1 ≤ (to6 b).f1 from hd), if_neg hd, List.append_nil]
   ·rw [if_neg (show ¬ (to6 b).f1 < a.2 from hc), if_neg hc]
    by_cases hd : hi2 a.1 b.1 ≤ a.2
    ·rw [if_pos hd, if_pos hd, if_pos (by omega), List.map_append]
     rfl
    ·rw [if_neg hd, if_neg hd, List.append_nil]
  rw [hstep]
  have hm := meet_length a b
  rw [ih (P ++ [b]) (acc ++ meet a b) (by rw [hb, mid_app]) (by rw [List.length_append]; omega) k]
  rw [show meets a (b :: R) = meet a b ++ meets a R from List.flatMap_cons .., List.append_assoc]
theorem both_out (xa bs : List Sn) (hbl : bs.length ≤ 100) : ∀ (R P acc : List Sn), xa = P ++ R → P.length + R.length ≤ 100 → acc.length + 100 * R.length ≤ 100000 → ∀ k, 300 * R.length + 1 ≤ k →
  spec_l2Both.l0 k (xa.map to6) (bs.map to6) (acc.map to6) (P.length : Int) = some ((acc ++ both R bs).map to6) := by
 intro R
 induction R with
 | nil =>
  intro P acc ha _ _ k hk
  obtain ⟨k, rfl⟩ : ∃ j, k = j + 1 := ⟨k - 1, by omega⟩
  simp only [spec_l2Both.l0]
  rw [if_neg (by rw [List.length_map, ha, List.append_nil]; omega), show both [] bs = [] from rfl, List.append_nil]
 | cons a R ih =>
  intro P acc ha hl hc k hk
  rw [List.length_cons] at hl hc hk
  obtain ⟨k, rfl⟩ : ∃ j, k = j + (2 * bs.length + 1) + 1 := ⟨k - (2 * bs.length + 1) - 1, by omega⟩
  have hal : (xa.map to6).length = P.length + 1 + R.length := by rw [List.length_map, ha, mid_len]
  have hm := meets_length a bs
  simp only [spec_l2Both.l0]
  rw [hal, if_pos (by omega)]
  refine Eq.trans (both_in xa bs (by omega) P R a ha bs [] acc rfl (by omega) k) ?_
  rw [wnat (by omega)]
  have h := ih (P ++ [a]) (acc ++ meets a bs) (by rw [ha, mid_app]) (by rw [snoc_len]; omega) (by rw [List.length_append]; omega) k (by omega)
  rw [snoc_len] at h
  rw [h, show both (a :: R) bs = meets a bs ++ both R bs from List.flatMap_cons .., List.append_assoc]
theorem l2Both_ev {xa bs : List Sn} (ha : xa.length ≤ 100) (hb : bs.length ≤ 100) {k : Nat} (hk : 100000 ≤ k) : spec_l2Both.f k (xa.map to6) (bs.map to6) = some ((both xa bs).map to6) := by
 unfold spec_l2Both.f
 exact both_out xa bs hb xa [] [] rfl (by simpa using ha) (by simp; omega) k (by omega)
theorem not_loop : ∀ (R P acc : List Sn) (lo : Int), P.length + R.length ≤ 1000 → acc.length + R.length ≤ 1000 → (∀ s ∈ R, Ok s) → ∀ k, R.length + 1 ≤ k →
  spec_l2Not.l0 k ((P ++ R).map to6) (acc.map to6) lo (P.length : Int) = some ((acc ++ nt lo R).map to6) := by
 intro R
 induction R with
 | nil =>
  intro P acc lo _ hl _ k hk
  rw [List.length_nil] at hl
  obtain ⟨k, rfl⟩ : ∃ j, k = j + 1 := ⟨k - 1, by omega⟩
  simp only [spec_l2Not.l0]
  rw [if_neg (by simp), List.length_map]
  unfold nt
  by_cases h : lo ≤ 4294967295
  ·rw [if_pos h, if_pos h, if_pos (by omega), List.map_append]
   rfl
  ·rw [if_neg h, if_neg h, List.append_nil]
 | cons s R ih =>
  intro P acc lo hp hl hR k hk
  rw [List.length_cons] at hp hl hk
  obtain ⟨k, rfl⟩ : ∃ j, k = j + 1 := ⟨k - 1, by omega⟩
  obtain ⟨s0, s1, s2⟩ := hR s List.mem_cons_self
  have hml : ((P ++ s :: R).map to6).length = P.length + 1 + R.length := by rw [List.length_map, mid_len]
  simp only [spec_l2Not.l0]
  rw [hml, if_pos (by omega), if_pos (by omega), rd6_mid, List.length_map, wnat (by omega)]
  show (if s.1 > lo then (if acc.length < 8796093022208 then spec_l2Not.l0 k _ (acc.map to6 ++ [to6 (lo, wrap64 (s.1 - 1))]) (wrap64 (s.2 + 1)) _ else none) else spec_l2Not.l0 k _ _ (wrap64 (s.2 + 1)) _) = _
  rw [w64 (x := s.1 - 1) (by omega) (by omega), w64 (x := s.2 + 1) (by omega) (by omega)]
  unfold nt
  by_cases h : s.1 > lo
  ·rw [if_pos h, if_pos h, if_pos (by omega)]
   have e := ih (P ++ [s]) (acc ++ [(lo, s.1 - 1)]) (s.2 + 1) (by rw [snoc_len]; omega) (by rw [snoc_len]; omega) (fun t ht => hR t (List.mem_cons_of_mem _ ht)) k (by omega)
   rw [← mid_app, snoc_len, List.append_assoc, List.map_append (l₁ := acc) (l₂ := [(lo, s.1 - 1)])] at e
   exact e
  ·rw [if_neg h, if_neg h, List.nil_append]
   have e := ih (P ++ [s]) acc (s.2 + 1) (by rw [snoc_len]; omega) (by omega) (fun t ht => hR t (List.mem_cons_of_mem _ ht)) k (by omega)
   rw [← mid_app, snoc_len] at e
   exact e
theorem l2Not_ev {xs : List Sn} (h : ∀ s ∈ xs, Ok s) (hl : xs.length ≤ 500) {k : Nat} (hk : 1000 ≤ k) : spec_l2Not.f k (xs.map to6) = some ((nt 0 xs).map to6) := by
 unfold spec_l2Not.f
 exact not_loop xs [] [] 0 (by simp; omega) (by simp; omega) h k (by omega)
theorem both_len64 {a b : List Sn} (ha : a.length ≤ 66) (hb : b.length ≤ 66) : (both a b).length ≤ 5000 := by
 have h1 := both_length b a
 have h2 : a.length * b.length ≤ 66 * 66 := Nat.mul_le_mul ha hb
 omega
theorem setLess_spec (a b : List Bl) (ha : a.length ≤ 100000000) (hb : b.length ≤ 100000000) {k : Nat} (hk : 5000000001 ≤ k) : spec_SetLess.f k a b = some (dual less a b) := by
 obtain ⟨k, rfl⟩ : ∃ j, k = j + 1 := ⟨k - 1, by omega⟩
 unfold spec_SetLess.f dual less
 rw [setOk_spec a ha (by omega), Option.bind_some]
 by_cases h1 : isSet a = true
 ·rw [if_pos h1, setOk_spec b hb (by omega), Option.bind_some]
  simp only [spec_SetLess.j0]
  by_cases h2 : isSet b = true
  ·obtain ⟨a1, a2, a3⟩ := isSet_iff.1 h1
   obtain ⟨b1, b2, b3⟩ := isSet_iff.1 h2
   have hal := ca_length a
   have hbl := ca_length b
   have hnl := nt_length (ca b) 0
   have hl := both_len64 (a := ca a) (b := nt 0 (ca b)) (by omega) (by omega)
   rw [if_neg (by simp [h2]), if_pos ⟨h1, h2⟩, l2Spans_ev a1 (by omega) (by omega), Option.bind_some, l2Spans_ev b1 (by omega) (by omega), Option.bind_some, l2Not_ev (ca_can b1).1 (by omega) (by omega), Option.bind_some, l2Both_ev (by omega) (by omega) (by omega), Option.bind_some, cover_ev' (both_can (ca_can a1) (nt_can (ca_can b1))) (by omega) (by omega), Option.bind_some, room_spec, Option.bind_some]
  ·rw [if_pos (by simp [h2]), if_neg (fun h => h2 h.2)]
 ·rw [if_neg h1]
  simp only [spec_SetLess.j0]
  rw [if_pos trivial, if_neg (fun h => h1 h.1)]
end Go.Proofs.Ytmdhedkgpgoneaa.Se
