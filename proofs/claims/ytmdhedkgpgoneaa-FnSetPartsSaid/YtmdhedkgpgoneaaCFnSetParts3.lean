/- The law FnSetParts (part 3 of 7): for every input the call answers true and its arguments read afterwards as before. No condition beyond the row's own. -/
import Derived.Test.YtmdhedkgpgoneaaCFnSetParts2
namespace Go.Proofs.Ytmdhedkgpgoneaa.Q
open Go.RowKit Go.Proofs.YtmdhedkgpgoneaaW.PrintWords Go.Proofs.YtmdhedkgpgoneaaW.PrintLast Go.Proofs.YtmdhedkgpgoneaaW.PrintMore
attribute [local go_sem] e0z d8z e7z e6z d2z d1z d9z d7z
set_option linter.unusedVariables false
set_option linter.unusedSimpArgs false
mutual
def impl_span_blocks.l0 : Nat → List (S44) → Int → Int → Int → Option ((List (S44)))
 | 0, _, _, _, _ => none
 | k + 1, x3, x4, x102000, x102001 => if x4 ≤ x102001 then (impl_span_blocks.l1 k x3 x4 32 x102000 x102001) else (some x3)
def impl_span_blocks.l1 : Nat → List (S44) → Int → Int → Int → Int → Option ((List (S44)))
 | 0, _, _, _, _, _ => none
 | k + 1, x3, x4, x5, x102000, x102001 => if x5 > 0 then ((impl_around.f x4 (wrap64 (x5 - 1))).bind fun bt102 => (if bt102.1 = x4 then ((impl_around.f x4 (wrap64 (x5 - 1))).bind fun bt104 => ((impl_Block_last.f bt104.1 bt104.2).bind fun t106 => (if t106 ≤ x102001 then (impl_span_blocks.l1 k x3 x4 (wrap64 (x5 - 1)) x102000 x102001) else ((impl_around.f x4 x5).bind fun bt107 => (if x3.length < 8796093022208 then ((some (x3 ++ [(⟨bt107.1, bt107.2⟩ : S44)] : List (S44))).bind fun y109 => (if 0 ≤ (wrap64 ((y109.length : Int) - 1)) then (if (wrap64 ((y109.length : Int) - 1)) < (y109.length : Int) then ((impl_Block_last.f ((b4z y109 (wrap64 ((y109.length : Int) - 1))).f0) ((b4z y109 (wrap64 ((y109.length : Int) - 1))).f1)).bind fun t113 => (impl_span_blocks.l0 k y109 (wrap64 (t113 + 1)) x102000 x102001)) else (none)) else (none))) else (none)))))) else ((impl_around.f x4 x5).bind fun bt114 => (if x3.length < 8796093022208 then ((some (x3 ++ [(⟨bt114.1, bt114.2⟩ : S44)] : List (S44))).bind fun y116 => (if 0 ≤ (wrap64 ((y116.length : Int) - 1)) then (if (wrap64 ((y116.length : Int) - 1)) < (y116.length : Int) then ((impl_Block_last.f ((b4z y116 (wrap64 ((y116.length : Int) - 1))).f0) ((b4z y116 (wrap64 ((y116.length : Int) - 1))).f1)).bind fun t120 => (impl_span_blocks.l0 k y116 (wrap64 (t120 + 1)) x102000 x102001)) else (none)) else (none))) else (none))))) else ((impl_around.f x4 x5).bind fun bt121 => (if x3.length < 8796093022208 then ((some (x3 ++ [(⟨bt121.1, bt121.2⟩ : S44)] : List (S44))).bind fun y123 => (if 0 ≤ (wrap64 ((y123.length : Int) - 1)) then (if (wrap64 ((y123.length : Int) - 1)) < (y123.length : Int) then ((impl_Block_last.f ((b4z y123 (wrap64 ((y123.length : Int) - 1))).f0) ((b4z y123 (wrap64 ((y123.length : Int) - 1))).f1)).bind fun t127 => (impl_span_blocks.l0 k y123 (wrap64 (t127 + 1)) x102000 x102001)) else (none)) else (none))) else (none)))
end
def impl_span_blocks.f (k : Nat) (a0_0 : Int) (a0_1 : Int) : Option ((List (S44))) := impl_span_blocks.l0 k ([] : List (S44)) a0_0 a0_0 a0_1
def impl_span_blocks.T5 : Bool × List (List Nat × List Nat) := (true, [([], []), ([0], [0]), ([1], [1]), ([2], [2]), ([2], [2]), ([4, 2], [2, 4]), ([3, 5, 2, 2], [2, 3, 5]), ([6, 2], [2, 6]), ([2], [2]), ([7, 8, 2], [2, 7, 8]), ([2, 9], [2, 9]), ([10, 6], [10]), ([11], [11]), ([11], [11]), ([13, 11], [11, 13]), ([12, 14, 11, 11], [11, 12, 14]), ([15, 15, 11], [11, 15]), ([11], [11]), ([17, 11], [11, 17]), ([16, 18, 11], [11, 16, 18]), ([11, 19], [11, 19])])
def impl_span_blocks.B5 : List Nat := [0, 1, 3, 7, 7, 23, 63, 127, 7, 511, 1023, 2047, 4095, 4095, 12287, 32767, 65535, 4095, 135167, 524287, 1048575]
theorem impl_span_blocks.tab5 : rtab .any (opsOf Try.f57 5) = impl_span_blocks.T5 := by kernel_rfl
theorem impl_span_blocks.bits5 : waitsOk impl_span_blocks.T5.2 impl_span_blocks.B5 = true := by kernel_rfl
set_option maxHeartbeats 8000000 in
set_option maxRecDepth 100000 in
theorem impl_span_blocks.calls (k : Nat) (a0_0 : Int) (a0_1 : Int) (r : List (S44)) (w : World) (h : impl_span_blocks.f k a0_0 a0_1 = some r) :
  Calls Try.prog 57 #[.agg #[.int .i64 a0_0, .int .i64 a0_1]] w fun e w' => ∃ v0_ : Value, e = .returned (v0_) ∧ Kd.R k44 44 w' w.heap.size (fun _ => True) v0_ r ∧ Below w.heap.size w w' := by
 have hu55 := Try.underlying55
 have hu44 := Try.underlying44
 have hfd44_0 : ∀ (e0_ e1_ : Value) (W_ : World), (Instr.field 44 (.agg #[e0_, e1_]) 0).run Try.prog W_ = .ok (e0_) W_ := fun _ _ _ => by kernel_rfl
 have HB := a1z.mk (Below.refl w.heap.size w)
 have H : (impl_span_blocks.l0 k ([] : List (S44)) a0_0 a0_0 a0_1) = some r := h
 clear h
 have H' := a1z.mk H
 clear H
 go_enter Try.func57, Try.ntmps57
 go_wp2_with (first | ((with_reducible refine d3z (N := 1) rfl ?_); refine d6z ?hg (N := 1) ?hd (cs := #[.int .i64 a0_0, .int .i64 a0_1]) (t := 55) ?hr ?_; (case hd => rfl); (case hg => rfl); (case hr => first | (go_simp; done) | (go_simp; rfl)); intro gb101 hg w2 hbox hb; have n0_ := a1z.mk (b3z (by repeat (first | (with_reducible first | exact HB.1 | apply a3z | apply a0z | apply a2z) | exact HB.1)) hb); have n1_ := a1z.mk (hbox); have n2_ := a1z.mk ((by rw [hg]; exact (b2z (by repeat (first | (with_reducible first | exact HB.1 | apply a3z | apply a0z | apply a2z) | exact HB.1))) : w.heap.size ≤ gb101)); have n3_ := a1z.mk ((by rw [hg]; exact (b2z (by repeat (first | (with_reducible first | exact HB.1 | apply a3z | apply a0z | apply a2z) | exact HB.1))) : w.heap.size ≤ gb101)); clear HB; have HB := n0_; have BK101 := n1_; have GW101 := n2_; have GE101 := n3_; clear n0_ n1_ n2_ n3_; clear hb hbox hg; have hcz3_0 : w2.cell? ⟨gb101, 0, none⟩ = some (.int .i64 a0_0) := (b1z BK101.1 0).trans rfl; have hcz3_1 : w2.cell? ⟨gb101, 1, none⟩ = some (.int .i64 a0_1) := (b1z BK101.1 1).trans rfl; have hfz3_0 := b5z BK101.1 0; have hfz3_1 := b5z BK101.1 1))
 go_loopg [3, 4] k (fun kq v3 v4 w' => ∃ (x3_1 : List (S44)) (x4_1 : Int), v4 = .int .i64 x4_1 ∧ a1z (impl_span_blocks.l0 kq x3_1 x4_1 a0_0 a0_1 = some r) ∧ a1z (kq ≤ k) ∧ a1z (Kd.R k44 44 w' w.heap.size (fun _ => True) v3 x3_1) ∧ a1z (w'.heap[gb101]? = some (.cells #[.int .i64 a0_0, .int .i64 a0_1] 55 (0, 0))) ∧ a1z (Below w.heap.size w w'))
 case atStart => exact ⟨(([] : List (S44))), (a0_0), (by first | rfl | (simp; done) | (simp [*]; done)), H', ⟨Nat.le_refl _⟩, ⟨by first | exact Kd.R_nil _ _ _ _ _ | exact Kd.N_nil _ _ _ _ _ | exact Kd.V_nil _ _ _ _ _ | exact Kd.Q_nil _ _ _ _ _ | exact Kd.S_nil _ _ _ _ _⟩, ⟨by (with_reducible repeat (first | refine a8z ?_ _ | refine a9z ?_ | refine a7z ?_ _)); exact BK101.1⟩, ⟨by repeat (first | (with_reducible first | exact HB.1 | apply a3z | apply a0z | apply a2z | refine a6z ?_ GE101.1) | exact HB.1)⟩⟩
 case round =>
  clear H'
  try clear p2
  try clear hcz3_0
  try clear hcz3_1
  try clear hfz3_0
  try clear hfz3_1
  obtain ⟨x3_1, x4_1, rfl, HA, HK1, HO_3, BK101, HB⟩ := hrel
  cases gk with
  | zero => exact absurd HA.1 (by simp [impl_span_blocks.l0])
  | succ k1 =>
   have H := HA.1
   clear HA
   simp only [impl_span_blocks.l0] at H
   by_cases c4 : x4_1 ≤ a0_1
   ·rw [if_pos c4] at H
    have c4b0 : decide (x4_1 ≤ a0_1) = true := decide_eq_true c4
    clear c4
    have H' := a1z.mk H
    clear H
    have hcz5_0 : wr.cell? ⟨gb101, 0, none⟩ = some (.int .i64 a0_0) := (b1z BK101.1 0).trans rfl
    have hcz5_1 : wr.cell? ⟨gb101, 1, none⟩ = some (.int .i64 a0_1) := (b1z BK101.1 1).trans rfl
    have hfz5_0 := b5z BK101.1 0
    have hfz5_1 := b5z BK101.1 1
    go_wp2
    go_loopg [5] k1 (fun kq v5 w' => ∃ (x5_2 : Int), v5 = .int .i64 x5_2 ∧ a1z (impl_span_blocks.l1 kq x3_1 x4_1 x5_2 a0_0 a0_1 = some r) ∧ a1z (kq ≤ k1) ∧ a1z (Kd.R k44 44 w' w.heap.size (fun _ => True) u3 x3_1) ∧ a1z (w'.heap[gb101]? = some (.cells #[.int .i64 a0_0, .int .i64 a0_1] 55 (0, 0))) ∧ a1z (Below w.heap.size w w'))
    case atStart => exact ⟨(32), (by first | rfl | (simp; done) | (simp [*]; done)), H', ⟨Nat.le_refl _⟩, ⟨by (with_reducible repeat (first | apply Kd.R_alloc | apply Kd.a4z | apply Kd.a5z)); exact HO_3.1⟩, ⟨by (with_reducible repeat (first | refine a8z ?_ _ | refine a9z ?_ | refine a7z ?_ _)); exact BK101.1⟩, ⟨by repeat (first | (with_reducible first | exact HB.1 | apply a3z | apply a0z | apply a2z | refine a6z ?_ GE101.1) | exact HB.1)⟩⟩
    case round =>
     clear H'
     try clear p2
     try clear c4
     try clear c4b0
     try clear c5
     try clear hcz3_0
     try clear hcz3_1
     try clear hcz5_0
     try clear hcz5_1
     try clear hfz3_0
     try clear hfz3_1
     try clear hfz5_0
     try clear hfz5_1
     try clear p2
     obtain ⟨x5_2, rfl, HA, HK2, HO_3, BK101, HB⟩ := hrel
     cases gk with
     | zero => exact absurd HA.1 (by simp [impl_span_blocks.l1])
     | succ k2 =>
      have H := HA.1
      clear HA
      simp only [impl_span_blocks.l1] at H
      by_cases c6 : x5_2 > 0
      ·rw [if_pos c6] at H
       have c6b0 : decide (0 < x5_2) = true := decide_eq_true c6
       clear c6
       replace H := Option.bind_eq_some_iff.mp H
       obtain ⟨⟨t102, t103⟩, A70, H⟩ := H
       replace H : (if t102 = x4_1 then ((impl_around.f x4_1 (wrap64 (x5_2 - 1))).bind fun bt104 => ((impl_Block_last.f bt104.1 bt104.2).bind fun t106 => (if t106 ≤ a0_1 then (impl_span_blocks.l1 k2 x3_1 x4_1 (wrap64 (x5_2 - 1)) a0_0 a0_1) else ((impl_around.f x4_1 x5_2).bind fun bt107 => (if x3_1.length < 8796093022208 then ((some (x3_1 ++ [(⟨bt107.1, bt107.2⟩ : S44)] : List (S44))).bind fun y109 => (if 0 ≤ (wrap64 ((y109.length : Int) - 1)) then (if (wrap64 ((y109.length : Int) - 1)) < (y109.length : Int) then ((impl_Block_last.f ((b4z y109 (wrap64 ((y109.length : Int) - 1))).f0) ((b4z y109 (wrap64 ((y109.length : Int) - 1))).f1)).bind fun t113 => (impl_span_blocks.l0 k2 y109 (wrap64 (t113 + 1)) a0_0 a0_1)) else (none)) else (none))) else (none)))))) else ((impl_around.f x4_1 x5_2).bind fun bt114 => (if x3_1.length < 8796093022208 then ((some (x3_1 ++ [(⟨bt114.1, bt114.2⟩ : S44)] : List (S44))).bind fun y116 => (if 0 ≤ (wrap64 ((y116.length : Int) - 1)) then (if (wrap64 ((y116.length : Int) - 1)) < (y116.length : Int) then ((impl_Block_last.f ((b4z y116 (wrap64 ((y116.length : Int) - 1))).f0) ((b4z y116 (wrap64 ((y116.length : Int) - 1))).f1)).bind fun t120 => (impl_span_blocks.l0 k2 y116 (wrap64 (t120 + 1)) a0_0 a0_1)) else (none)) else (none))) else (none)))) = some r := H
       have A7 := a1z.mk A70
       clear A70
       by_cases c8 : t102 = x4_1
       ·rw [if_pos c8] at H
        have c8b0 : (t102 == x4_1) = true := beq_iff_eq.mpr c8
        have c8b1 : (t102 != x4_1) = false := bne_eq_false_iff_eq.mpr c8
        clear c8
        replace H := Option.bind_eq_some_iff.mp H
        obtain ⟨⟨t104, t105⟩, A90, H⟩ := H
        replace H : ((impl_Block_last.f t104 t105).bind fun t106 => (if t106 ≤ a0_1 then (impl_span_blocks.l1 k2 x3_1 x4_1 (wrap64 (x5_2 - 1)) a0_0 a0_1) else ((impl_around.f x4_1 x5_2).bind fun bt107 => (if x3_1.length < 8796093022208 then ((some (x3_1 ++ [(⟨bt107.1, bt107.2⟩ : S44)] : List (S44))).bind fun y109 => (if 0 ≤ (wrap64 ((y109.length : Int) - 1)) then (if (wrap64 ((y109.length : Int) - 1)) < (y109.length : Int) then ((impl_Block_last.f ((b4z y109 (wrap64 ((y109.length : Int) - 1))).f0) ((b4z y109 (wrap64 ((y109.length : Int) - 1))).f1)).bind fun t113 => (impl_span_blocks.l0 k2 y109 (wrap64 (t113 + 1)) a0_0 a0_1)) else (none)) else (none))) else (none))))) = some r := H
        have A9 := a1z.mk A90
        clear A90
        replace H := Option.bind_eq_some_iff.mp H
        obtain ⟨t106, A100, H⟩ := H
        replace H : (if t106 ≤ a0_1 then (impl_span_blocks.l1 k2 x3_1 x4_1 (wrap64 (x5_2 - 1)) a0_0 a0_1) else ((impl_around.f x4_1 x5_2).bind fun bt107 => (if x3_1.length < 8796093022208 then ((some (x3_1 ++ [(⟨bt107.1, bt107.2⟩ : S44)] : List (S44))).bind fun y109 => (if 0 ≤ (wrap64 ((y109.length : Int) - 1)) then (if (wrap64 ((y109.length : Int) - 1)) < (y109.length : Int) then ((impl_Block_last.f ((b4z y109 (wrap64 ((y109.length : Int) - 1))).f0) ((b4z y109 (wrap64 ((y109.length : Int) - 1))).f1)).bind fun t113 => (impl_span_blocks.l0 k2 y109 (wrap64 (t113 + 1)) a0_0 a0_1)) else (none)) else (none))) else (none)))) = some r := H
        have A10 := a1z.mk A100
        clear A100
        by_cases c11 : t106 ≤ a0_1
        ·rw [if_pos c11] at H
         have c11b0 : decide (t106 ≤ a0_1) = true := decide_eq_true c11
         clear c11
         have H' := a1z.mk H
         clear H
         try go_wp2
         have n0_ := a1z.mk (Kd.a5z HO_3.1)
         have n1_ := a1z.mk (a9z BK101.1)
         have n2_ := a1z.mk (a2z HB.1)
         clear HO_3
         clear BK101
         clear HB
         have HO_3 := n0_
         have BK101 := n1_
         have HB := n2_
         clear n0_ n1_ n2_
         refine g9z (n := 21) (S := fun w' => w'.cell? ⟨gb101, 0, none⟩ = some (.int .i64 a0_0) ∧ w'.cell? ⟨gb101, 1, none⟩ = some (.int .i64 a0_1)) (ds := []) #[false, false, false, false, false, false, false, false, false, false, false, false, false, false, false, false, false, false, false, false, false] (by kernel_rfl) rfl rfl ⟨(b1z BK101.1 0).trans rfl, (b1z BK101.1 1).trans rfl⟩ (fun hHeld => ?_); refine f8z impl_span_blocks.tab5 impl_span_blocks.bits5 (fun HT_ HW_ => ?_)
         generalize wr.drew = w12 at HO_3 BK101 HB hHeld ⊢
         refine pure_ (i := 0) (N := some 12) (v := ?_) (a' := ?_) #[true, false, false, false, false, false, false, false, false, false, false, false, false, false, false, false, false, false, false, false, false] rfl rfl (b7z HT_.1 (by kernel_rfl)) (fun _ _ _ h => h) (Or.inl ⟨by rfl, ?_⟩) ?_ ?_
         rotate_left
         ·intro w'
          go_simp
          with_reducible rfl
         rotate_left
         ·simp only [Act.put, sA_, sZ_, sS_, i64_w, i32_w]
          rfl
         refine pure_ (i := 1) (N := some 13) (v := ?_) (a' := ?_) #[true, true, false, false, false, false, false, false, false, false, false, false, false, false, false, false, false, false, false, false, false] rfl rfl (b7z HT_.1 (by kernel_rfl)) (fun _ _ _ h => h) (Or.inl ⟨by rfl, ?_⟩) ?_ ?_
         rotate_left
         ·intro w'
          go_simp
          with_reducible rfl
         rotate_left
         ·simp only [Act.put, sA_, sZ_, sS_, i64_w, i32_w]
          rfl
         refine pure_ (i := 2) (N := some 14) (v := ?_) (a' := ?_) #[true, true, true, false, false, false, false, false, false, false, false, false, false, false, false, false, false, false, false, false, false] rfl rfl (b7z HT_.1 (by kernel_rfl)) (fun _ _ _ h => h) (Or.inl ⟨by rfl, ?_⟩) ?_ ?_
         rotate_left
         ·intro w'
          go_simp
          with_reducible rfl
         rotate_left
         ·simp only [Act.put, sA_, sZ_, sS_, i64_w, i32_w]
          rfl
         refine pure_ (i := 3) (N := some 15) (v := ?_) (a' := ?_) #[true, true, true, true, false, false, false, false, false, false, false, false, false, false, false, false, false, false, false, false, false] rfl rfl (b7z HT_.1 (by kernel_rfl)) (fun _ _ _ h => h) (Or.inl ⟨by rfl, ?_⟩) ?_ ?_
         rotate_left
         ·intro w'
          go_simp
          with_reducible rfl
         rotate_left
         ·simp only [Act.put, sA_, sZ_, sS_, i64_w, i32_w]
          rfl
         refine pure_ (i := 4) (N := some 16) (v := ?_) (a' := ?_) #[true, true, true, true, true, false, false, false, false, false, false, false, false, false, false, false, false, false, false, false, false] rfl rfl (b7z HT_.1 (by kernel_rfl)) (fun _ _ _ h => h) (Or.inl ⟨by rfl, ?_⟩) ?_ ?_
         rotate_left
         ·intro w'
          go_simp
          with_reducible rfl
         rotate_left
         ·simp only [Act.put, sA_, sZ_, sS_, i64_w, i32_w]
          rfl
         refine pure_ (i := 5) (N := some 17) (v := ?_) (a' := ?_) #[true, true, true, true, true, true, false, false, false, false, false, false, false, false, false, false, false, false, false, false, false] rfl rfl (b7z HT_.1 (by kernel_rfl)) (fun _ _ _ h => h) (Or.inl ⟨by rfl, ?_⟩) ?_ ?_
         rotate_left
         ·intro w'
          go_simp
          with_reducible rfl
         rotate_left
         ·simp only [Act.put, sA_, sZ_, sS_, i64_w, i32_w]
          rfl
         refine pure_ (i := 8) (N := some 20) (v := ?_) (a' := ?_) #[true, true, true, true, true, true, false, false, true, false, false, false, false, false, false, false, false, false, false, false, false] rfl rfl (b7z HT_.1 (by kernel_rfl)) (fun _ _ _ h => h) (Or.inl ⟨by rfl, ?_⟩) ?_ ?_
         rotate_left
         ·intro w'
          go_simp
          with_reducible rfl
         rotate_left
         ·simp only [Act.put, sA_, sZ_, sS_, i64_w, i32_w]
          rfl
         refine one_ (i := 6) (N := some 18) #[true, true, true, true, true, true, true, false, true, false, false, false, false, false, false, false, false, false, false, false, false] rfl rfl (f9z HT_.1 (by kernel_rfl)) (by decide) (fun K hK => ?_)
         refine goes_ Try.func73 (by kernel_rfl) rfl #[.int .i64 x4_1, .int .i64 (wrap64 (x5_2 - 1))] (by rfl) rfl rfl (by (try simp only [List.map_toArray, List.map_cons, List.map_nil]); first | done | rfl | (simp only [List.length_drop, List.length_take]; rfl)) ?_
         with_reducible refine (impl_around.calls x4_1 (wrap64 (x5_2 - 1)) t102 t103 _ A7.1).mono ?_
         rintro e w13 ⟨rfl, hb⟩
         refine ⟨_, rfl, ?_⟩
         have n0_ := a1z.mk (Kd.c7z (by (with_reducible repeat (first | apply Kd.R_alloc | apply Kd.a4z | apply Kd.a5z)); exact HO_3.1) hb)
         have n1_ := a1z.mk (d5z (g := gb101) (o := .cells #[.int .i64 a0_0, .int .i64 a0_1] 55 (0, 0)) (by (with_reducible repeat (first | refine a8z ?_ _ | refine a9z ?_ | refine a7z ?_ _)); exact BK101.1) hb)
         have n2_ := a1z.mk (b3z (by repeat (first | (with_reducible first | exact HB.1 | apply a3z | apply a0z | apply a2z | refine a6z ?_ GE101.1) | exact HB.1)) hb)
         clear HO_3
         clear BK101
         clear HB
         have HO_3 := n0_
         have BK101 := n1_
         have HB := n2_
         clear n0_ n1_ n2_
         (try clear hb)
         (try clear hb2)
         (try clear hk)
         (try clear hi)
         refine hK.out _ _ ⟨(b1z BK101.1 0).trans rfl, (b1z BK101.1 1).trans rfl⟩ (fun hHeld => ?_)
         clear hK K
         refine norm_ (a' := ?_) ?_ ?_
         rotate_left
         ·show Act.put _ (some 18) _ = _
          simp only [Act.put, sA_, sZ_, sS_, i64_w, i32_w]
          rfl
         refine pure_ (i := 7) (N := some 19) (v := ?_) (a' := ?_) #[true, true, true, true, true, true, true, true, true, false, false, false, false, false, false, false, false, false, false, false, false] rfl rfl (b7z HT_.1 (by kernel_rfl)) (fun _ _ _ h => h) (Or.inl ⟨by rfl, ?_⟩) ?_ ?_
         rotate_left
         ·intro w'
          go_simp
          with_reducible rfl
         rotate_left
         ·simp only [Act.put, sA_, sZ_, sS_, i64_w, i32_w]
          rfl
         refine pure_ (i := 9) (N := some 21) (v := ?_) (a' := ?_) #[true, true, true, true, true, true, true, true, true, true, false, false, false, false, false, false, false, false, false, false, false] rfl rfl (b7z HT_.1 (by kernel_rfl)) (fun _ _ _ h => h) (Or.inl ⟨by rfl, ?_⟩) ?_ ?_
         rotate_left
         ·intro w'
          go_simp
          with_reducible rfl
         rotate_left
         ·simp only [Act.put, sA_, sZ_, sS_, i64_w, i32_w]
          rfl
         refine pure_ (i := 10) (N := some 22) (v := ?_) (a' := ?_) #[true, true, true, true, true, true, true, true, true, true, true, false, false, false, false, false, false, false, false, false, false] rfl rfl (b7z HT_.1 (by kernel_rfl)) (fun _ _ _ h => h) (Or.inl ⟨by rfl, ?_⟩) ?_ ?_
         rotate_left
         ·intro w'
          go_simp
          with_reducible rfl
         rotate_left
         ·simp only [Act.put, sA_, sZ_, sS_, i64_w, i32_w]
          rfl
         refine pure_ (i := 11) (N := some 23) (v := ?_) (a' := ?_) #[true, true, true, true, true, true, true, true, true, true, true, true, false, false, false, false, false, false, false, false, false] rfl rfl (b7z HT_.1 (by kernel_rfl)) (fun _ _ _ h => h) (Or.inl ⟨by rfl, ?_⟩) ?_ ?_
         rotate_left
         ·intro w'
          go_simp
          with_reducible rfl
         rotate_left
         ·simp only [Act.put, sA_, sZ_, sS_, i64_w, i32_w]
          rfl
         refine pure_ (i := 12) (N := some 24) (v := ?_) (a' := ?_) #[true, true, true, true, true, true, true, true, true, true, true, true, true, false, false, false, false, false, false, false, false] rfl rfl (b7z HT_.1 (by kernel_rfl)) (fun _ _ _ h => h) (Or.inl ⟨by rfl, ?_⟩) ?_ ?_
         rotate_left
         ·intro w'
          go_simp
          with_reducible rfl
         rotate_left
         ·simp only [Act.put, sA_, sZ_, sS_, i64_w, i32_w]
          rfl
         refine pure_ (i := 13) (N := some 25) (v := ?_) (a' := ?_) #[true, true, true, true, true, true, true, true, true, true, true, true, true, true, false, false, false, false, false, false, false] rfl rfl (b7z HT_.1 (by kernel_rfl)) (fun _ _ _ h => h) (Or.inl ⟨by rfl, ?_⟩) ?_ ?_
         rotate_left
         ·intro w'
          go_simp
          with_reducible rfl
         rotate_left
         ·simp only [Act.put, sA_, sZ_, sS_, i64_w, i32_w]
          rfl
         refine pure_ (i := 14) (N := some 26) (v := ?_) (a' := ?_) #[true, true, true, true, true, true, true, true, true, true, true, true, true, true, true, false, false, false, false, false, false] rfl rfl (b7z HT_.1 (by kernel_rfl)) (fun _ _ _ h => h) (Or.inl ⟨by rfl, ?_⟩) ?_ ?_
         rotate_left
         ·intro w'
          go_simp
          with_reducible rfl
         rotate_left
         ·simp only [Act.put, sA_, sZ_, sS_, i64_w, i32_w]
          rfl
         refine pure_ (i := 17) (N := some 29) (v := ?_) (a' := ?_) #[true, true, true, true, true, true, true, true, true, true, true, true, true, true, true, false, false, true, false, false, false] rfl rfl (b7z HT_.1 (by kernel_rfl)) (fun _ _ _ h => h) (Or.inl ⟨by rfl, ?_⟩) ?_ ?_
         rotate_left
         ·intro w'
          go_simp
          with_reducible rfl
         rotate_left
         ·simp only [Act.put, sA_, sZ_, sS_, i64_w, i32_w]
          rfl
         refine take_ (i := 18) (N := some 30) (v := ?_) (a' := ?_) #[true, true, true, true, true, true, true, true, true, true, true, true, true, true, true, false, false, true, true, false, false] rfl rfl (f3z HT_.1 HW_.1 (by kernel_rfl)) (fun _ _ _ h => h) (Or.inl ⟨by rfl, ?_⟩) hHeld ?_ ?_
         rotate_left
         ·rintro w' ⟨s0, s1⟩
          go_simp
          with_reducible rfl
         rotate_left
         ·simp only [Act.put, sA_, sZ_, sS_, i64_w, i32_w]
          rfl
         refine one_ (i := 15) (N := some 27) #[true, true, true, true, true, true, true, true, true, true, true, true, true, true, true, true, false, true, true, false, false] rfl rfl (f9z HT_.1 (by kernel_rfl)) (by decide) (fun K hK => ?_)
         refine goes_ Try.func73 (by kernel_rfl) rfl #[.int .i64 x4_1, .int .i64 (wrap64 (x5_2 - 1))] (by rfl) rfl rfl (by (try simp only [List.map_toArray, List.map_cons, List.map_nil]); first | done | rfl | (simp only [List.length_drop, List.length_take]; rfl)) ?_
         with_reducible refine (impl_around.calls x4_1 (wrap64 (x5_2 - 1)) t104 t105 _ A9.1).mono ?_
         rintro e w14 ⟨rfl, hb⟩
         refine ⟨_, rfl, ?_⟩
         have n0_ := a1z.mk (Kd.c7z (by (with_reducible repeat (first | apply Kd.R_alloc | apply Kd.a4z | apply Kd.a5z)); exact HO_3.1) hb)
         have n1_ := a1z.mk (d5z (g := gb101) (o := .cells #[.int .i64 a0_0, .int .i64 a0_1] 55 (0, 0)) (by (with_reducible repeat (first | refine a8z ?_ _ | refine a9z ?_ | refine a7z ?_ _)); exact BK101.1) hb)
         have n2_ := a1z.mk (b3z (by repeat (first | (with_reducible first | exact HB.1 | apply a3z | apply a0z | apply a2z | refine a6z ?_ GE101.1) | exact HB.1)) hb)
         clear HO_3
         clear BK101
         clear HB
         have HO_3 := n0_
         have BK101 := n1_
         have HB := n2_
         clear n0_ n1_ n2_
         (try clear hb)
         (try clear hb2)
         (try clear hk)
         (try clear hi)
         refine hK.out _ _ ⟨(b1z BK101.1 0).trans rfl, (b1z BK101.1 1).trans rfl⟩ (fun hHeld => ?_)
         clear hK K
         refine norm_ (a' := ?_) ?_ ?_
         rotate_left
         ·show Act.put _ (some 27) _ = _
          simp only [Act.put, sA_, sZ_, sS_, i64_w, i32_w]
          rfl
         refine one_ (i := 16) (N := some 28) #[true, true, true, true, true, true, true, true, true, true, true, true, true, true, true, true, true, true, true, false, false] rfl rfl (f9z HT_.1 (by kernel_rfl)) (by decide) (fun K hK => ?_)
         refine goes_ Try.func58 (by kernel_rfl) rfl #[.agg #[.int .i64 t104, .int .i64 t105]] (by rfl) rfl rfl (by (try simp only [List.map_toArray, List.map_cons, List.map_nil]); first | done | rfl | (simp only [List.length_drop, List.length_take]; rfl)) ?_
         with_reducible refine (impl_Block_last.calls t104 t105 t106 _ A10.1).mono ?_
         rintro e w15 ⟨rfl, hb⟩
         refine ⟨_, rfl, ?_⟩
         have n0_ := a1z.mk (Kd.c7z (by (with_reducible repeat (first | apply Kd.R_alloc | apply Kd.a4z | apply Kd.a5z)); exact HO_3.1) hb)
         have n1_ := a1z.mk (d5z (g := gb101) (o := .cells #[.int .i64 a0_0, .int .i64 a0_1] 55 (0, 0)) (by (with_reducible repeat (first | refine a8z ?_ _ | refine a9z ?_ | refine a7z ?_ _)); exact BK101.1) hb)
         have n2_ := a1z.mk (b3z (by repeat (first | (with_reducible first | exact HB.1 | apply a3z | apply a0z | apply a2z | refine a6z ?_ GE101.1) | exact HB.1)) hb)
         clear HO_3
         clear BK101
         clear HB
         have HO_3 := n0_
         have BK101 := n1_
         have HB := n2_
         clear n0_ n1_ n2_
         (try clear hb)
         (try clear hb2)
         (try clear hk)
         (try clear hi)
         refine hK.out _ _ ⟨(b1z BK101.1 0).trans rfl, (b1z BK101.1 1).trans rfl⟩ (fun hHeld => ?_)
         clear hK K
         refine norm_ (a' := ?_) ?_ ?_
         rotate_left
         ·show Act.put _ (some 28) _ = _
          simp only [Act.put, sA_, sZ_, sS_, i64_w, i32_w]
          rfl
         refine pure_ (i := 19) (N := some 31) (v := ?_) (a' := ?_) #[true, true, true, true, true, true, true, true, true, true, true, true, true, true, true, true, true, true, true, true, false] rfl rfl (b7z HT_.1 (by kernel_rfl)) (fun _ _ _ h => h) (Or.inl ⟨by rfl, ?_⟩) ?_ ?_
         rotate_left
         ·intro w'
          go_simp
          with_reducible rfl
         rotate_left
         ·simp only [Act.put, sA_, sZ_, sS_, i64_w, i32_w]
          rfl
         refine pure_ (i := 20) (N := some 32) (v := ?_) (a' := ?_) #[true, true, true, true, true, true, true, true, true, true, true, true, true, true, true, true, true, true, true, true, true] rfl rfl (b7z HT_.1 (by kernel_rfl)) (fun _ _ _ h => h) (Or.inl ⟨by rfl, ?_⟩) ?_ ?_
         rotate_left
         ·intro w'
          go_simp
          with_reducible rfl
         rotate_left
         ·simp only [Act.put, sA_, sZ_, sS_, i64_w, i32_w]
          rfl
         refine done_ (g5z HT_.1 (by kernel_rfl)) ?_
         try go_wp2
         go_roundg k2
         case measure => have := HK1.1; have := HK2.1; omega
         case rel => exact ⟨(wrap64 (x5_2 - 1)), (by first | rfl | (simp; done) | (simp [*]; done)), H', ⟨by have := HK1.1; have := HK2.1; omega⟩, ⟨by (with_reducible repeat (first | apply Kd.R_alloc | apply Kd.a4z | apply Kd.a5z)); exact HO_3.1⟩, ⟨by (with_reducible repeat (first | refine a8z ?_ _ | refine a9z ?_ | refine a7z ?_ _)); exact BK101.1⟩, ⟨by repeat (first | (with_reducible first | exact HB.1 | apply a3z | apply a0z | apply a2z | refine a6z ?_ GE101.1) | exact HB.1)⟩⟩
        ·rw [if_neg c11] at H
         have c11b0 : decide (t106 ≤ a0_1) = false := decide_eq_false c11
         clear c11
         replace H := Option.bind_eq_some_iff.mp H
         obtain ⟨⟨t107, t108⟩, A160, H⟩ := H
         replace H : (if x3_1.length < 8796093022208 then ((some (x3_1 ++ [(⟨t107, t108⟩ : S44)] : List (S44))).bind fun y109 => (if 0 ≤ (wrap64 ((y109.length : Int) - 1)) then (if (wrap64 ((y109.length : Int) - 1)) < (y109.length : Int) then ((impl_Block_last.f ((b4z y109 (wrap64 ((y109.length : Int) - 1))).f0) ((b4z y109 (wrap64 ((y109.length : Int) - 1))).f1)).bind fun t113 => (impl_span_blocks.l0 k2 y109 (wrap64 (t113 + 1)) a0_0 a0_1)) else (none)) else (none))) else (none)) = some r := H
         have A16 := a1z.mk A160
         clear A160
         by_cases c17 : x3_1.length < 8796093022208
         ·rw [if_pos c17] at H
          have LMc17 := a1z.mk c17
          clear c17
          obtain ⟨y109, hy109⟩ : ∃ y_ : List (S44), y_ = (x3_1 ++ [(⟨t107, t108⟩ : S44)]) := ⟨_, rfl⟩
          replace H : (if 0 ≤ (wrap64 ((y109.length : Int) - 1)) then (if (wrap64 ((y109.length : Int) - 1)) < (y109.length : Int) then ((impl_Block_last.f ((b4z y109 (wrap64 ((y109.length : Int) - 1))).f0) ((b4z y109 (wrap64 ((y109.length : Int) - 1))).f1)).bind fun t113 => (impl_span_blocks.l0 k2 y109 (wrap64 (t113 + 1)) a0_0 a0_1)) else (none)) else (none)) = some r := by first | (rw [hy109]; with_reducible exact H) | (have H2_ := (Option.bind_some _ _).symm.trans H; rw [hy109]; with_reducible exact H2_) | (have H2_ := (Option.bind_some _ _).symm.trans H; with_reducible exact H2_) | with_reducible exact H | (rw [hy109]; exact H) | exact H
          have Ny109 := a1z.mk hy109
          clear hy109
          obtain ⟨ji18, hji18⟩ : ∃ j_ : Int, (wrap64 ((y109.length : Int) - 1)) = j_ := ⟨_, rfl⟩
          replace H : (if 0 ≤ (ji18) then (if (ji18) < (y109.length : Int) then ((impl_Block_last.f ((b4z y109 (ji18)).f0) ((b4z y109 (ji18)).f1)).bind fun t113 => (impl_span_blocks.l0 k2 y109 (wrap64 (t113 + 1)) a0_0 a0_1)) else (none)) else (none)) = some r := by first | (rw [hji18] at H; exact H) | (simp only [hji18] at H ⊢; exact H)
          (try rw [hji18] at A7)
          (try rw [hji18] at A9)
          (try rw [hji18] at A10)
          (try rw [hji18] at A16)
          have hji18w : (IntKind.i64.wrap ((y109.length : Int) - 1)) = ji18 := (i64_w _).trans hji18
          by_cases c19 : 0 ≤ (ji18)
          ·rw [if_pos c19] at H
           have c19b0 : decide (0 ≤ (ji18)) = true := decide_eq_true c19
           clear c19
           by_cases c20 : (ji18) < (y109.length : Int)
           ·rw [if_pos c20] at H
            have c20b0 : decide ((ji18) < (y109.length : Int)) = true := decide_eq_true c20
            clear c20
            replace H := Option.bind_eq_some_iff.mp H
            obtain ⟨t113, A210, H⟩ := H
            replace H : (impl_span_blocks.l0 k2 y109 (wrap64 (t113 + 1)) a0_0 a0_1) = some r := H
            have A21 := a1z.mk A210
            clear A210
            have H' := a1z.mk H
            clear H
            try go_wp2
            have n0_ := a1z.mk (Kd.a5z HO_3.1)
            have n1_ := a1z.mk (a9z BK101.1)
            have n2_ := a1z.mk (a2z HB.1)
            clear HO_3
            clear BK101
            clear HB
            have HO_3 := n0_
            have BK101 := n1_
            have HB := n2_
            clear n0_ n1_ n2_
            refine g9z (n := 21) (S := fun w' => w'.cell? ⟨gb101, 0, none⟩ = some (.int .i64 a0_0) ∧ w'.cell? ⟨gb101, 1, none⟩ = some (.int .i64 a0_1)) (ds := []) #[false, false, false, false, false, false, false, false, false, false, false, false, false, false, false, false, false, false, false, false, false] (by kernel_rfl) rfl rfl ⟨(b1z BK101.1 0).trans rfl, (b1z BK101.1 1).trans rfl⟩ (fun hHeld => ?_); refine f8z impl_span_blocks.tab5 impl_span_blocks.bits5 (fun HT_ HW_ => ?_)
            generalize wr.drew = w22 at HO_3 BK101 HB hHeld ⊢
            refine pure_ (i := 0) (N := some 12) (v := ?_) (a' := ?_) #[true, false, false, false, false, false, false, false, false, false, false, false, false, false, false, false, false, false, false, false, false] rfl rfl (b7z HT_.1 (by kernel_rfl)) (fun _ _ _ h => h) (Or.inl ⟨by rfl, ?_⟩) ?_ ?_
            rotate_left
            ·intro w'
             go_simp
             with_reducible rfl
            rotate_left
            ·simp only [Act.put, sA_, sZ_, sS_, i64_w, i32_w]
             rfl
            refine pure_ (i := 1) (N := some 13) (v := ?_) (a' := ?_) #[true, true, false, false, false, false, false, false, false, false, false, false, false, false, false, false, false, false, false, false, false] rfl rfl (b7z HT_.1 (by kernel_rfl)) (fun _ _ _ h => h) (Or.inl ⟨by rfl, ?_⟩) ?_ ?_
            rotate_left
            ·intro w'
             go_simp
             with_reducible rfl
            rotate_left
            ·simp only [Act.put, sA_, sZ_, sS_, i64_w, i32_w]
             rfl
            refine pure_ (i := 2) (N := some 14) (v := ?_) (a' := ?_) #[true, true, true, false, false, false, false, false, false, false, false, false, false, false, false, false, false, false, false, false, false] rfl rfl (b7z HT_.1 (by kernel_rfl)) (fun _ _ _ h => h) (Or.inl ⟨by rfl, ?_⟩) ?_ ?_
            rotate_left
            ·intro w'
             go_simp
             with_reducible rfl
            rotate_left
            ·simp only [Act.put, sA_, sZ_, sS_, i64_w, i32_w]
             rfl
            refine pure_ (i := 3) (N := some 15) (v := ?_) (a' := ?_) #[true, true, true, true, false, false, false, false, false, false, false, false, false, false, false, false, false, false, false, false, false] rfl rfl (b7z HT_.1 (by kernel_rfl)) (fun _ _ _ h => h) (Or.inl ⟨by rfl, ?_⟩) ?_ ?_
            rotate_left
            ·intro w'
             go_simp
             with_reducible rfl
            rotate_left
            ·simp only [Act.put, sA_, sZ_, sS_, i64_w, i32_w]
             rfl
            refine pure_ (i := 4) (N := some 16) (v := ?_) (a' := ?_) #[true, true, true, true, true, false, false, false, false, false, false, false, false, false, false, false, false, false, false, false, false] rfl rfl (b7z HT_.1 (by kernel_rfl)) (fun _ _ _ h => h) (Or.inl ⟨by rfl, ?_⟩) ?_ ?_
            rotate_left
            ·intro w'
             go_simp
             with_reducible rfl
            rotate_left
            ·simp only [Act.put, sA_, sZ_, sS_, i64_w, i32_w]
             rfl
            refine pure_ (i := 5) (N := some 17) (v := ?_) (a' := ?_) #[true, true, true, true, true, true, false, false, false, false, false, false, false, false, false, false, false, false, false, false, false] rfl rfl (b7z HT_.1 (by kernel_rfl)) (fun _ _ _ h => h) (Or.inl ⟨by rfl, ?_⟩) ?_ ?_
            rotate_left
            ·intro w'
             go_simp
             with_reducible rfl
            rotate_left
            ·simp only [Act.put, sA_, sZ_, sS_, i64_w, i32_w]
             rfl
            refine pure_ (i := 8) (N := some 20) (v := ?_) (a' := ?_) #[true, true, true, true, true, true, false, false, true, false, false, false, false, false, false, false, false, false, false, false, false] rfl rfl (b7z HT_.1 (by kernel_rfl)) (fun _ _ _ h => h) (Or.inl ⟨by rfl, ?_⟩) ?_ ?_
            rotate_left
            ·intro w'
             go_simp
             with_reducible rfl
            rotate_left
            ·simp only [Act.put, sA_, sZ_, sS_, i64_w, i32_w]
             rfl
            refine one_ (i := 6) (N := some 18) #[true, true, true, true, true, true, true, false, true, false, false, false, false, false, false, false, false, false, false, false, false] rfl rfl (f9z HT_.1 (by kernel_rfl)) (by decide) (fun K hK => ?_)
            refine goes_ Try.func73 (by kernel_rfl) rfl #[.int .i64 x4_1, .int .i64 (wrap64 (x5_2 - 1))] (by rfl) rfl rfl (by (try simp only [List.map_toArray, List.map_cons, List.map_nil]); first | done | rfl | (simp only [List.length_drop, List.length_take]; rfl)) ?_
            with_reducible refine (impl_around.calls x4_1 (wrap64 (x5_2 - 1)) t102 t103 _ A7.1).mono ?_
            rintro e w23 ⟨rfl, hb⟩
            refine ⟨_, rfl, ?_⟩
            have n0_ := a1z.mk (Kd.c7z (by (with_reducible repeat (first | apply Kd.R_alloc | apply Kd.a4z | apply Kd.a5z)); exact HO_3.1) hb)
            have n1_ := a1z.mk (d5z (g := gb101) (o := .cells #[.int .i64 a0_0, .int .i64 a0_1] 55 (0, 0)) (by (with_reducible repeat (first | refine a8z ?_ _ | refine a9z ?_ | refine a7z ?_ _)); exact BK101.1) hb)
            have n2_ := a1z.mk (b3z (by repeat (first | (with_reducible first | exact HB.1 | apply a3z | apply a0z | apply a2z | refine a6z ?_ GE101.1) | exact HB.1)) hb)
            clear HO_3
            clear BK101
            clear HB
            have HO_3 := n0_
            have BK101 := n1_
            have HB := n2_
            clear n0_ n1_ n2_
            (try clear hb)
            (try clear hb2)
            (try clear hk)
            (try clear hi)
            refine hK.out _ _ ⟨(b1z BK101.1 0).trans rfl, (b1z BK101.1 1).trans rfl⟩ (fun hHeld => ?_)
            clear hK K
            refine norm_ (a' := ?_) ?_ ?_
            rotate_left
            ·show Act.put _ (some 18) _ = _
             simp only [Act.put, sA_, sZ_, sS_, i64_w, i32_w]
             rfl
            refine pure_ (i := 7) (N := some 19) (v := ?_) (a' := ?_) #[true, true, true, true, true, true, true, true, true, false, false, false, false, false, false, false, false, false, false, false, false] rfl rfl (b7z HT_.1 (by kernel_rfl)) (fun _ _ _ h => h) (Or.inl ⟨by rfl, ?_⟩) ?_ ?_
            rotate_left
            ·intro w'
             go_simp
             with_reducible rfl
            rotate_left
            ·simp only [Act.put, sA_, sZ_, sS_, i64_w, i32_w]
             rfl
            refine pure_ (i := 9) (N := some 21) (v := ?_) (a' := ?_) #[true, true, true, true, true, true, true, true, true, true, false, false, false, false, false, false, false, false, false, false, false] rfl rfl (b7z HT_.1 (by kernel_rfl)) (fun _ _ _ h => h) (Or.inl ⟨by rfl, ?_⟩) ?_ ?_
            rotate_left
            ·intro w'
             go_simp
             with_reducible rfl
            rotate_left
            ·simp only [Act.put, sA_, sZ_, sS_, i64_w, i32_w]
             rfl
            refine pure_ (i := 10) (N := some 22) (v := ?_) (a' := ?_) #[true, true, true, true, true, true, true, true, true, true, true, false, false, false, false, false, false, false, false, false, false] rfl rfl (b7z HT_.1 (by kernel_rfl)) (fun _ _ _ h => h) (Or.inl ⟨by rfl, ?_⟩) ?_ ?_
            rotate_left
            ·intro w'
             go_simp
             with_reducible rfl
            rotate_left
            ·simp only [Act.put, sA_, sZ_, sS_, i64_w, i32_w]
             rfl
            refine pure_ (i := 11) (N := some 23) (v := ?_) (a' := ?_) #[true, true, true, true, true, true, true, true, true, true, true, true, false, false, false, false, false, false, false, false, false] rfl rfl (b7z HT_.1 (by kernel_rfl)) (fun _ _ _ h => h) (Or.inl ⟨by rfl, ?_⟩) ?_ ?_
            rotate_left
            ·intro w'
             go_simp
             with_reducible rfl
            rotate_left
            ·simp only [Act.put, sA_, sZ_, sS_, i64_w, i32_w]
             rfl
            refine pure_ (i := 12) (N := some 24) (v := ?_) (a' := ?_) #[true, true, true, true, true, true, true, true, true, true, true, true, true, false, false, false, false, false, false, false, false] rfl rfl (b7z HT_.1 (by kernel_rfl)) (fun _ _ _ h => h) (Or.inl ⟨by rfl, ?_⟩) ?_ ?_
            rotate_left
            ·intro w'
             go_simp
             with_reducible rfl
            rotate_left
            ·simp only [Act.put, sA_, sZ_, sS_, i64_w, i32_w]
             rfl
            refine pure_ (i := 13) (N := some 25) (v := ?_) (a' := ?_) #[true, true, true, true, true, true, true, true, true, true, true, true, true, true, false, false, false, false, false, false, false] rfl rfl (b7z HT_.1 (by kernel_rfl)) (fun _ _ _ h => h) (Or.inl ⟨by rfl, ?_⟩) ?_ ?_
            rotate_left
            ·intro w'
             go_simp
             with_reducible rfl
            rotate_left
            ·simp only [Act.put, sA_, sZ_, sS_, i64_w, i32_w]
             rfl
            refine pure_ (i := 14) (N := some 26) (v := ?_) (a' := ?_) #[true, true, true, true, true, true, true, true, true, true, true, true, true, true, true, false, false, false, false, false, false] rfl rfl (b7z HT_.1 (by kernel_rfl)) (fun _ _ _ h => h) (Or.inl ⟨by rfl, ?_⟩) ?_ ?_
            rotate_left
            ·intro w'
             go_simp
             with_reducible rfl
            rotate_left
            ·simp only [Act.put, sA_, sZ_, sS_, i64_w, i32_w]
             rfl
            refine pure_ (i := 17) (N := some 29) (v := ?_) (a' := ?_) #[true, true, true, true, true, true, true, true, true, true, true, true, true, true, true, false, false, true, false, false, false] rfl rfl (b7z HT_.1 (by kernel_rfl)) (fun _ _ _ h => h) (Or.inl ⟨by rfl, ?_⟩) ?_ ?_
            rotate_left
            ·intro w'
             go_simp
             with_reducible rfl
            rotate_left
            ·simp only [Act.put, sA_, sZ_, sS_, i64_w, i32_w]
             rfl
            refine take_ (i := 18) (N := some 30) (v := ?_) (a' := ?_) #[true, true, true, true, true, true, true, true, true, true, true, true, true, true, true, false, false, true, true, false, false] rfl rfl (f3z HT_.1 HW_.1 (by kernel_rfl)) (fun _ _ _ h => h) (Or.inl ⟨by rfl, ?_⟩) hHeld ?_ ?_
            rotate_left
            ·rintro w' ⟨s0, s1⟩
             go_simp
             with_reducible rfl
            rotate_left
            ·simp only [Act.put, sA_, sZ_, sS_, i64_w, i32_w]
             rfl
            refine one_ (i := 15) (N := some 27) #[true, true, true, true, true, true, true, true, true, true, true, true, true, true, true, true, false, true, true, false, false] rfl rfl (f9z HT_.1 (by kernel_rfl)) (by decide) (fun K hK => ?_)
            refine goes_ Try.func73 (by kernel_rfl) rfl #[.int .i64 x4_1, .int .i64 (wrap64 (x5_2 - 1))] (by rfl) rfl rfl (by (try simp only [List.map_toArray, List.map_cons, List.map_nil]); first | done | rfl | (simp only [List.length_drop, List.length_take]; rfl)) ?_
            with_reducible refine (impl_around.calls x4_1 (wrap64 (x5_2 - 1)) t104 t105 _ A9.1).mono ?_
            rintro e w24 ⟨rfl, hb⟩
            refine ⟨_, rfl, ?_⟩
            have n0_ := a1z.mk (Kd.c7z (by (with_reducible repeat (first | apply Kd.R_alloc | apply Kd.a4z | apply Kd.a5z)); exact HO_3.1) hb)
            have n1_ := a1z.mk (d5z (g := gb101) (o := .cells #[.int .i64 a0_0, .int .i64 a0_1] 55 (0, 0)) (by (with_reducible repeat (first | refine a8z ?_ _ | refine a9z ?_ | refine a7z ?_ _)); exact BK101.1) hb)
            have n2_ := a1z.mk (b3z (by repeat (first | (with_reducible first | exact HB.1 | apply a3z | apply a0z | apply a2z | refine a6z ?_ GE101.1) | exact HB.1)) hb)
            clear HO_3
            clear BK101
            clear HB
            have HO_3 := n0_
            have BK101 := n1_
            have HB := n2_
            clear n0_ n1_ n2_
            (try clear hb)
            (try clear hb2)
            (try clear hk)
            (try clear hi)
            refine hK.out _ _ ⟨(b1z BK101.1 0).trans rfl, (b1z BK101.1 1).trans rfl⟩ (fun hHeld => ?_)
            clear hK K
            refine norm_ (a' := ?_) ?_ ?_
            rotate_left
            ·show Act.put _ (some 27) _ = _
             simp only [Act.put, sA_, sZ_, sS_, i64_w, i32_w]
             rfl
            refine one_ (i := 16) (N := some 28) #[true, true, true, true, true, true, true, true, true, true, true, true, true, true, true, true, true, true, true, false, false] rfl rfl (f9z HT_.1 (by kernel_rfl)) (by decide) (fun K hK => ?_)
            refine goes_ Try.func58 (by kernel_rfl) rfl #[.agg #[.int .i64 t104, .int .i64 t105]] (by rfl) rfl rfl (by (try simp only [List.map_toArray, List.map_cons, List.map_nil]); first | done | rfl | (simp only [List.length_drop, List.length_take]; rfl)) ?_
            with_reducible refine (impl_Block_last.calls t104 t105 t106 _ A10.1).mono ?_
            rintro e w25 ⟨rfl, hb⟩
            refine ⟨_, rfl, ?_⟩
            have n0_ := a1z.mk (Kd.c7z (by (with_reducible repeat (first | apply Kd.R_alloc | apply Kd.a4z | apply Kd.a5z)); exact HO_3.1) hb)
            have n1_ := a1z.mk (d5z (g := gb101) (o := .cells #[.int .i64 a0_0, .int .i64 a0_1] 55 (0, 0)) (by (with_reducible repeat (first | refine a8z ?_ _ | refine a9z ?_ | refine a7z ?_ _)); exact BK101.1) hb)
            have n2_ := a1z.mk (b3z (by repeat (first | (with_reducible first | exact HB.1 | apply a3z | apply a0z | apply a2z | refine a6z ?_ GE101.1) | exact HB.1)) hb)
            clear HO_3
            clear BK101
            clear HB
            have HO_3 := n0_
            have BK101 := n1_
            have HB := n2_
            clear n0_ n1_ n2_
            (try clear hb)
            (try clear hb2)
            (try clear hk)
            (try clear hi)
            refine hK.out _ _ ⟨(b1z BK101.1 0).trans rfl, (b1z BK101.1 1).trans rfl⟩ (fun hHeld => ?_)
            clear hK K
            refine norm_ (a' := ?_) ?_ ?_
            rotate_left
            ·show Act.put _ (some 28) _ = _
             simp only [Act.put, sA_, sZ_, sS_, i64_w, i32_w]
             rfl
            refine pure_ (i := 19) (N := some 31) (v := ?_) (a' := ?_) #[true, true, true, true, true, true, true, true, true, true, true, true, true, true, true, true, true, true, true, true, false] rfl rfl (b7z HT_.1 (by kernel_rfl)) (fun _ _ _ h => h) (Or.inl ⟨by rfl, ?_⟩) ?_ ?_
            rotate_left
            ·intro w'
             go_simp
             with_reducible rfl
            rotate_left
            ·simp only [Act.put, sA_, sZ_, sS_, i64_w, i32_w]
             rfl
            refine pure_ (i := 20) (N := some 32) (v := ?_) (a' := ?_) #[true, true, true, true, true, true, true, true, true, true, true, true, true, true, true, true, true, true, true, true, true] rfl rfl (b7z HT_.1 (by kernel_rfl)) (fun _ _ _ h => h) (Or.inl ⟨by rfl, ?_⟩) ?_ ?_
            rotate_left
            ·intro w'
             go_simp
             with_reducible rfl
            rotate_left
            ·simp only [Act.put, sA_, sZ_, sS_, i64_w, i32_w]
             rfl
            refine done_ (g5z HT_.1 (by kernel_rfl)) ?_
            try go_wp2_with (first | ((with_reducible refine b8z (f := 73) rfl ?_); refine c8z (some 38) rfl rfl Try.func73 (by kernel_rfl) rfl #[.int .i64 x4_1, .int .i64 x5_2] rfl (by (try simp only [List.map_toArray, List.map_cons, List.map_nil]); first | done | rfl | (simp only [List.length_drop, List.length_take]; rfl)) ?_; (with_reducible refine (impl_around.calls x4_1 x5_2 t107 t108 _ A16.1).mono ?_); rintro e w26 ⟨rfl, hb⟩; refine ⟨_, rfl, ?_⟩; have n0_ := a1z.mk (Kd.c7z (by (with_reducible repeat (first | apply Kd.R_alloc | apply Kd.a4z | apply Kd.a5z)); exact HO_3.1) hb); have n1_ := a1z.mk (d5z (g := gb101) (o := .cells #[.int .i64 a0_0, .int .i64 a0_1] 55 (0, 0)) (by (with_reducible repeat (first | refine a8z ?_ _ | refine a9z ?_ | refine a7z ?_ _)); exact BK101.1) hb); have n2_ := a1z.mk (b3z (by repeat (first | (with_reducible first | exact HB.1 | apply a3z | apply a0z | apply a2z | refine a6z ?_ GE101.1) | exact HB.1)) hb); clear HO_3; clear BK101; clear HB; have HO_3 := n0_; have BK101 := n1_; have HB := n2_; clear n0_ n1_ n2_; (try clear hb); (try clear hb2); (try clear hk); (try clear hi)) | ((with_reducible refine e9z (b := .append) (xs := #[.tmp 35, .tmp 39]) rfl ?_); at_builtin; refine Kd.g4z k44 (w0 := w) w.heap.size rfl (.tmp 35) (.tmp 39) 25 44 (.agg #[(.int .i64 0), (.int .i64 0)]) 16 rfl Try.underlying25 info44 rfl (by decide) (by omega) u3 x3_1 (⟨t107, t108⟩ : S44) [.int .i64 t107, .int .i64 t108] (fun _ => True) (fun _ => False) rfl rfl ?aP (fun _ hk => hk.elim) ?aF ?aO ?aB ?aS ?aL ?_; (case aP => exact k44_mkM _ _ _ (⟨t107, t108⟩ : S44)); (case aB => exact (by repeat (first | (with_reducible first | exact HB.1 | apply a3z | apply a0z | apply a2z | refine a6z ?_ GE101.1) | exact HB.1))); (case aF => exact (fun _ _ => trivial)); (case aO => exact (by (with_reducible repeat (first | apply Kd.R_alloc | apply Kd.a4z | apply Kd.a5z)); exact HO_3.1)); (case aS => exact (b2z (by repeat (first | (with_reducible first | exact HB.1 | apply a3z | apply a0z | apply a2z | refine a6z ?_ GE101.1) | exact HB.1)))); (case aL => have := LMc17.1; omega); intro v110 w27 ho hb hg hat; rw [← Ny109.1] at ho; have n0_ := a1z.mk (f0z (g := gb101) (o := .cells #[.int .i64 a0_0, .int .i64 a0_1] 55 (0, 0)) (by (with_reducible repeat (first | refine a8z ?_ _ | refine a9z ?_ | refine a7z ?_ _)); exact BK101.1) hg (Kd.R_ne HO_3.1 BK101.1 (by decide))); have n1_ := a1z.mk (hb); have n2_ := a1z.mk (ho); clear BK101; clear HB; clear HO_3; have BK101 := n0_; have HB := n1_; have HO111 := n2_; clear n0_ n1_ n2_; clear ho hb hg hat; obtain ⟨Ao28, co28, eo28⟩ := Kd.e1z HO111.1; subst eo28; have p112 : 0 ≤ ((ji18) : Int) := of_decide_eq_true (by first | (with_reducible assumption) | assumption); have q112 : (ji18) < (y109.length : Int) := of_decide_eq_true (by first | (with_reducible assumption) | assumption); obtain ⟨ad112, e112, hx112_0, hx112_1⟩ := h1z (Kd.c0z HO111.1).2.2 (ji18) p112 q112; cases e112; replace p112 := eq_true p112; replace q112 := eq_true q112) | ((with_reducible refine b8z (f := 58) rfl ?_); refine c8z (some 47) rfl rfl Try.func58 (by kernel_rfl) rfl #[.agg #[.int .i64 ((b4z y109 (ji18)).f0), .int .i64 ((b4z y109 (ji18)).f1)]] rfl (by (try simp only [List.map_toArray, List.map_cons, List.map_nil]); first | done | (simp only [hji18]; rfl) | rfl | (simp only [List.length_drop, List.length_take]; rfl)) ?_; (with_reducible refine (impl_Block_last.calls ((b4z y109 (ji18)).f0) ((b4z y109 (ji18)).f1) t113 _ A21.1).mono ?_); rintro e w29 ⟨rfl, hb⟩; refine ⟨_, rfl, ?_⟩; have n0_ := a1z.mk (Kd.c7z (by (with_reducible repeat (first | apply Kd.R_alloc | apply Kd.a4z | apply Kd.a5z)); exact HO111.1) hb); have n1_ := a1z.mk (d5z (g := gb101) (o := .cells #[.int .i64 a0_0, .int .i64 a0_1] 55 (0, 0)) (by (with_reducible repeat (first | refine a8z ?_ _ | refine a9z ?_ | refine a7z ?_ _)); exact BK101.1) hb); have n2_ := a1z.mk (b3z (by repeat (first | (with_reducible first | exact HB.1 | apply a3z | apply a0z | apply a2z | refine a6z ?_ GE101.1) | exact HB.1)) hb); clear HO111; clear BK101; clear HB; have HO111 := n0_; have BK101 := n1_; have HB := n2_; clear n0_ n1_ n2_; (try clear hb); (try clear hb2); (try clear hk); (try clear hi)))
            go_roundg k2
            case measure => have := HK1.1; have := HK2.1; omega
            case rel => exact ⟨(y109), (wrap64 (t113 + 1)), (by first | rfl | (simp; done) | (simp [*]; done)), H', ⟨by have := HK1.1; have := HK2.1; omega⟩, ⟨by (with_reducible repeat (first | apply Kd.R_alloc | apply Kd.a4z | apply Kd.a5z)); exact HO111.1⟩, ⟨by (with_reducible repeat (first | refine a8z ?_ _ | refine a9z ?_ | refine a7z ?_ _)); exact BK101.1⟩, ⟨by repeat (first | (with_reducible first | exact HB.1 | apply a3z | apply a0z | apply a2z | refine a6z ?_ GE101.1) | exact HB.1)⟩⟩
           ·rw [if_neg c20] at H
            exact absurd H (by simp)
          ·rw [if_neg c19] at H
           exact absurd H (by simp)
         ·rw [if_neg c17] at H
          exact absurd H (by simp)
       ·rw [if_neg c8] at H
        have c8b0 : (t102 == x4_1) = false := beq_eq_false_iff_ne.mpr c8
        have c8b1 : (t102 != x4_1) = true := bne_iff_ne.mpr c8
        replace H := Option.bind_eq_some_iff.mp H
        obtain ⟨⟨t114, t115⟩, A300, H⟩ := H
        replace H : (if x3_1.length < 8796093022208 then ((some (x3_1 ++ [(⟨t114, t115⟩ : S44)] : List (S44))).bind fun y116 => (if 0 ≤ (wrap64 ((y116.length : Int) - 1)) then (if (wrap64 ((y116.length : Int) - 1)) < (y116.length : Int) then ((impl_Block_last.f ((b4z y116 (wrap64 ((y116.length : Int) - 1))).f0) ((b4z y116 (wrap64 ((y116.length : Int) - 1))).f1)).bind fun t120 => (impl_span_blocks.l0 k2 y116 (wrap64 (t120 + 1)) a0_0 a0_1)) else (none)) else (none))) else (none)) = some r := H
        have A30 := a1z.mk A300
        clear A300
        by_cases c31 : x3_1.length < 8796093022208
        ·rw [if_pos c31] at H
         have LMc31 := a1z.mk c31
         clear c31
         obtain ⟨y116, hy116⟩ : ∃ y_ : List (S44), y_ = (x3_1 ++ [(⟨t114, t115⟩ : S44)]) := ⟨_, rfl⟩
         replace H : (if 0 ≤ (wrap64 ((y116.length : Int) - 1)) then (if (wrap64 ((y116.length : Int) - 1)) < (y116.length : Int) then ((impl_Block_last.f ((b4z y116 (wrap64 ((y116.length : Int) - 1))).f0) ((b4z y116 (wrap64 ((y116.length : Int) - 1))).f1)).bind fun t120 => (impl_span_blocks.l0 k2 y116 (wrap64 (t120 + 1)) a0_0 a0_1)) else (none)) else (none)) = some r := by first | (rw [hy116]; with_reducible exact H) | (have H2_ := (Option.bind_some _ _).symm.trans H; rw [hy116]; with_reducible exact H2_) | (have H2_ := (Option.bind_some _ _).symm.trans H; with_reducible exact H2_) | with_reducible exact H | (rw [hy116]; exact H) | exact H
         have Ny116 := a1z.mk hy116
         clear hy116
         obtain ⟨ji32, hji32⟩ : ∃ j_ : Int, (wrap64 ((y116.length : Int) - 1)) = j_ := ⟨_, rfl⟩
         replace H : (if 0 ≤ (ji32) then (if (ji32) < (y116.length : Int) then ((impl_Block_last.f ((b4z y116 (ji32)).f0) ((b4z y116 (ji32)).f1)).bind fun t120 => (impl_span_blocks.l0 k2 y116 (wrap64 (t120 + 1)) a0_0 a0_1)) else (none)) else (none)) = some r := by first | (rw [hji32] at H; exact H) | (simp only [hji32] at H ⊢; exact H)
         (try rw [hji32] at A7)
         (try rw [hji32] at A30)
         have hji32w : (IntKind.i64.wrap ((y116.length : Int) - 1)) = ji32 := (i64_w _).trans hji32
         by_cases c33 : 0 ≤ (ji32)
         ·rw [if_pos c33] at H
          have c33b0 : decide (0 ≤ (ji32)) = true := decide_eq_true c33
          clear c33
          by_cases c34 : (ji32) < (y116.length : Int)
          ·rw [if_pos c34] at H
           have c34b0 : decide ((ji32) < (y116.length : Int)) = true := decide_eq_true c34
           clear c34
           replace H := Option.bind_eq_some_iff.mp H
           obtain ⟨t120, A350, H⟩ := H
           replace H : (impl_span_blocks.l0 k2 y116 (wrap64 (t120 + 1)) a0_0 a0_1) = some r := H
           have A35 := a1z.mk A350
           clear A350
           have H' := a1z.mk H
           clear H
           try go_wp2
           have n0_ := a1z.mk (Kd.a5z HO_3.1)
           have n1_ := a1z.mk (a9z BK101.1)
           have n2_ := a1z.mk (a2z HB.1)
           clear HO_3
           clear BK101
           clear HB
           have HO_3 := n0_
           have BK101 := n1_
           have HB := n2_
           clear n0_ n1_ n2_
           refine g9z (n := 21) (S := fun w' => True) (ds := []) #[false, false, false, false, false, false, false, false, false, false, false, false, false, false, false, false, false, false, false, false, false] (by kernel_rfl) rfl rfl trivial (fun hHeld => ?_); refine f8z impl_span_blocks.tab5 impl_span_blocks.bits5 (fun HT_ HW_ => ?_)
           generalize wr.drew = w36 at HO_3 BK101 HB hHeld ⊢
           refine pure_ (i := 0) (N := some 12) (v := ?_) (a' := ?_) #[true, false, false, false, false, false, false, false, false, false, false, false, false, false, false, false, false, false, false, false, false] rfl rfl (b7z HT_.1 (by kernel_rfl)) (fun _ _ _ h => h) (Or.inl ⟨by rfl, ?_⟩) ?_ ?_
           rotate_left
           ·intro w'
            go_simp
            with_reducible rfl
           rotate_left
           ·simp only [Act.put, sA_, sZ_, sS_, i64_w, i32_w]
            rfl
           refine pure_ (i := 1) (N := some 13) (v := ?_) (a' := ?_) #[true, true, false, false, false, false, false, false, false, false, false, false, false, false, false, false, false, false, false, false, false] rfl rfl (b7z HT_.1 (by kernel_rfl)) (fun _ _ _ h => h) (Or.inl ⟨by rfl, ?_⟩) ?_ ?_
           rotate_left
           ·intro w'
            go_simp
            with_reducible rfl
           rotate_left
           ·simp only [Act.put, sA_, sZ_, sS_, i64_w, i32_w]
            rfl
           refine pure_ (i := 2) (N := some 14) (v := ?_) (a' := ?_) #[true, true, true, false, false, false, false, false, false, false, false, false, false, false, false, false, false, false, false, false, false] rfl rfl (b7z HT_.1 (by kernel_rfl)) (fun _ _ _ h => h) (Or.inl ⟨by rfl, ?_⟩) ?_ ?_
           rotate_left
           ·intro w'
            go_simp
            with_reducible rfl
           rotate_left
           ·simp only [Act.put, sA_, sZ_, sS_, i64_w, i32_w]
            rfl
           refine pure_ (i := 3) (N := some 15) (v := ?_) (a' := ?_) #[true, true, true, true, false, false, false, false, false, false, false, false, false, false, false, false, false, false, false, false, false] rfl rfl (b7z HT_.1 (by kernel_rfl)) (fun _ _ _ h => h) (Or.inl ⟨by rfl, ?_⟩) ?_ ?_
           rotate_left
           ·intro w'
            go_simp
            with_reducible rfl
           rotate_left
           ·simp only [Act.put, sA_, sZ_, sS_, i64_w, i32_w]
            rfl
           refine pure_ (i := 4) (N := some 16) (v := ?_) (a' := ?_) #[true, true, true, true, true, false, false, false, false, false, false, false, false, false, false, false, false, false, false, false, false] rfl rfl (b7z HT_.1 (by kernel_rfl)) (fun _ _ _ h => h) (Or.inl ⟨by rfl, ?_⟩) ?_ ?_
           rotate_left
           ·intro w'
            go_simp
            with_reducible rfl
           rotate_left
           ·simp only [Act.put, sA_, sZ_, sS_, i64_w, i32_w]
            rfl
           refine pure_ (i := 5) (N := some 17) (v := ?_) (a' := ?_) #[true, true, true, true, true, true, false, false, false, false, false, false, false, false, false, false, false, false, false, false, false] rfl rfl (b7z HT_.1 (by kernel_rfl)) (fun _ _ _ h => h) (Or.inl ⟨by rfl, ?_⟩) ?_ ?_
           rotate_left
           ·intro w'
            go_simp
            with_reducible rfl
           rotate_left
           ·simp only [Act.put, sA_, sZ_, sS_, i64_w, i32_w]
            rfl
           refine pure_ (i := 8) (N := some 20) (v := ?_) (a' := ?_) #[true, true, true, true, true, true, false, false, true, false, false, false, false, false, false, false, false, false, false, false, false] rfl rfl (b7z HT_.1 (by kernel_rfl)) (fun _ _ _ h => h) (Or.inl ⟨by rfl, ?_⟩) ?_ ?_
           rotate_left
           ·intro w'
            go_simp
            with_reducible rfl
           rotate_left
           ·simp only [Act.put, sA_, sZ_, sS_, i64_w, i32_w]
            rfl
           refine one_ (i := 6) (N := some 18) #[true, true, true, true, true, true, true, false, true, false, false, false, false, false, false, false, false, false, false, false, false] rfl rfl (f9z HT_.1 (by kernel_rfl)) (by decide) (fun K hK => ?_)
           refine goes_ Try.func73 (by kernel_rfl) rfl #[.int .i64 x4_1, .int .i64 (wrap64 (x5_2 - 1))] (by rfl) rfl rfl (by (try simp only [List.map_toArray, List.map_cons, List.map_nil]); first | done | rfl | (simp only [List.length_drop, List.length_take]; rfl)) ?_
           with_reducible refine (impl_around.calls x4_1 (wrap64 (x5_2 - 1)) t102 t103 _ A7.1).mono ?_
           rintro e w37 ⟨rfl, hb⟩
           refine ⟨_, rfl, ?_⟩
           have n0_ := a1z.mk (Kd.c7z (by (with_reducible repeat (first | apply Kd.R_alloc | apply Kd.a4z | apply Kd.a5z)); exact HO_3.1) hb)
           have n1_ := a1z.mk (d5z (g := gb101) (o := .cells #[.int .i64 a0_0, .int .i64 a0_1] 55 (0, 0)) (by (with_reducible repeat (first | refine a8z ?_ _ | refine a9z ?_ | refine a7z ?_ _)); exact BK101.1) hb)
           have n2_ := a1z.mk (b3z (by repeat (first | (with_reducible first | exact HB.1 | apply a3z | apply a0z | apply a2z | refine a6z ?_ GE101.1) | exact HB.1)) hb)
           clear HO_3
           clear BK101
           clear HB
           have HO_3 := n0_
           have BK101 := n1_
           have HB := n2_
           clear n0_ n1_ n2_
           (try clear hb)
           (try clear hb2)
           (try clear hk)
           (try clear hi)
           refine hK.out _ _ trivial (fun hHeld => ?_)
           clear hK K
           refine norm_ (a' := ?_) ?_ ?_
           rotate_left
           ·show Act.put _ (some 18) _ = _
            simp only [Act.put, sA_, sZ_, sS_, i64_w, i32_w]
            rfl
           refine pure_ (i := 7) (N := some 19) (v := ?_) (a' := ?_) #[true, true, true, true, true, true, true, true, true, false, false, false, false, false, false, false, false, false, false, false, false] rfl rfl (b7z HT_.1 (by kernel_rfl)) (fun _ _ _ h => h) (Or.inl ⟨by rfl, ?_⟩) ?_ ?_
           rotate_left
           ·intro w'
            go_simp
            with_reducible rfl
           rotate_left
           ·simp only [Act.put, sA_, sZ_, sS_, i64_w, i32_w]
            rfl
           refine pure_ (i := 9) (N := some 21) (v := ?_) (a' := ?_) #[true, true, true, true, true, true, true, true, true, true, false, false, false, false, false, false, false, false, false, false, false] rfl rfl (b7z HT_.1 (by kernel_rfl)) (fun _ _ _ h => h) (Or.inl ⟨by rfl, ?_⟩) ?_ ?_
           rotate_left
           ·intro w'
            go_simp
            with_reducible rfl
           rotate_left
           ·simp only [Act.put, sA_, sZ_, sS_, i64_w, i32_w]
            rfl
           refine pure_ (i := 10) (N := some 22) (v := ?_) (a' := ?_) #[true, true, true, true, true, true, true, true, true, true, true, false, false, false, false, false, false, false, false, false, false] rfl rfl (b7z HT_.1 (by kernel_rfl)) (fun _ _ _ h => h) (Or.inl ⟨by rfl, ?_⟩) ?_ ?_
           rotate_left
           ·intro w'
            go_simp
            with_reducible rfl
           rotate_left
           ·simp only [Act.put, sA_, sZ_, sS_, i64_w, i32_w]
            rfl
           refine pure_ (i := 11) (N := some 23) (v := ?_) (a' := ?_) #[true, true, true, true, true, true, true, true, true, true, true, true, false, false, false, false, false, false, false, false, false] rfl rfl (b7z HT_.1 (by kernel_rfl)) (fun _ _ _ h => h) (Or.inl ⟨by rfl, ?_⟩) ?_ ?_
           rotate_left
           ·intro w'
            go_simp
            with_reducible rfl
           rotate_left
           ·simp only [Act.put, sA_, sZ_, sS_, i64_w, i32_w]
            rfl
           refine pure_ (i := 12) (N := some 24) (v := undef) (a' := ?_) #[true, true, true, true, true, true, true, true, true, true, true, true, true, false, false, false, false, false, false, false, false] rfl rfl (b7z HT_.1 (by kernel_rfl)) (fun _ _ _ h => h) (Or.inr ⟨by rfl, rfl⟩) ?_ ?_
           rotate_left
           ·simp only [Act.put, sA_, sZ_, sS_, i64_w, i32_w]
            rfl
           refine pure_ (i := 13) (N := some 25) (v := undef) (a' := ?_) #[true, true, true, true, true, true, true, true, true, true, true, true, true, true, false, false, false, false, false, false, false] rfl rfl (b7z HT_.1 (by kernel_rfl)) (fun _ _ _ h => h) (Or.inr ⟨by rfl, rfl⟩) ?_ ?_
           rotate_left
           ·simp only [Act.put, sA_, sZ_, sS_, i64_w, i32_w]
            rfl
           refine pure_ (i := 14) (N := some 26) (v := undef) (a' := ?_) #[true, true, true, true, true, true, true, true, true, true, true, true, true, true, true, false, false, false, false, false, false] rfl rfl (b7z HT_.1 (by kernel_rfl)) (fun _ _ _ h => h) (Or.inr ⟨by rfl, rfl⟩) ?_ ?_
           rotate_left
           ·simp only [Act.put, sA_, sZ_, sS_, i64_w, i32_w]
            rfl
           refine pure_ (i := 15) (N := some 27) (v := undef) (a' := ?_) #[true, true, true, true, true, true, true, true, true, true, true, true, true, true, true, true, false, false, false, false, false] rfl rfl (b7z HT_.1 (by kernel_rfl)) (fun _ _ _ h => h) (Or.inr ⟨by rfl, rfl⟩) ?_ ?_
           rotate_left
           ·simp only [Act.put, sA_, sZ_, sS_, i64_w, i32_w]
            rfl
           refine pure_ (i := 16) (N := some 28) (v := undef) (a' := ?_) #[true, true, true, true, true, true, true, true, true, true, true, true, true, true, true, true, true, false, false, false, false] rfl rfl (b7z HT_.1 (by kernel_rfl)) (fun _ _ _ h => h) (Or.inr ⟨by rfl, rfl⟩) ?_ ?_
           rotate_left
           ·simp only [Act.put, sA_, sZ_, sS_, i64_w, i32_w]
            rfl
           refine pure_ (i := 17) (N := some 29) (v := undef) (a' := ?_) #[true, true, true, true, true, true, true, true, true, true, true, true, true, true, true, true, true, true, false, false, false] rfl rfl (b7z HT_.1 (by kernel_rfl)) (fun _ _ _ h => h) (Or.inr ⟨by rfl, rfl⟩) ?_ ?_
           rotate_left
           ·simp only [Act.put, sA_, sZ_, sS_, i64_w, i32_w]
            rfl
           refine pure_ (i := 18) (N := some 30) (v := undef) (a' := ?_) #[true, true, true, true, true, true, true, true, true, true, true, true, true, true, true, true, true, true, true, false, false] rfl rfl (b7z HT_.1 (by kernel_rfl)) (fun _ _ _ h => h) (Or.inr ⟨by rfl, rfl⟩) ?_ ?_
           rotate_left
           ·simp only [Act.put, sA_, sZ_, sS_, i64_w, i32_w]
            rfl
           refine pure_ (i := 19) (N := some 31) (v := undef) (a' := ?_) #[true, true, true, true, true, true, true, true, true, true, true, true, true, true, true, true, true, true, true, true, false] rfl rfl (b7z HT_.1 (by kernel_rfl)) (fun _ _ _ h => h) (Or.inr ⟨by rfl, rfl⟩) ?_ ?_
           rotate_left
           ·simp only [Act.put, sA_, sZ_, sS_, i64_w, i32_w]
            rfl
           refine pure_ (i := 20) (N := some 32) (v := ?_) (a' := ?_) #[true, true, true, true, true, true, true, true, true, true, true, true, true, true, true, true, true, true, true, true, true] rfl rfl (b7z HT_.1 (by kernel_rfl)) (fun _ _ _ h => h) (Or.inl ⟨by rfl, ?_⟩) ?_ ?_
           rotate_left
           ·intro w'
            go_simp
            with_reducible rfl
           rotate_left
           ·simp only [Act.put, sA_, sZ_, sS_, i64_w, i32_w]
            rfl
           refine done_ (g5z HT_.1 (by kernel_rfl)) ?_
           try go_wp2_with (first | ((with_reducible refine b8z (f := 73) rfl ?_); refine c8z (some 38) rfl rfl Try.func73 (by kernel_rfl) rfl #[.int .i64 x4_1, .int .i64 x5_2] rfl (by (try simp only [List.map_toArray, List.map_cons, List.map_nil]); first | done | rfl | (simp only [List.length_drop, List.length_take]; rfl)) ?_; (with_reducible refine (impl_around.calls x4_1 x5_2 t114 t115 _ A30.1).mono ?_); rintro e w38 ⟨rfl, hb⟩; refine ⟨_, rfl, ?_⟩; have n0_ := a1z.mk (Kd.c7z (by (with_reducible repeat (first | apply Kd.R_alloc | apply Kd.a4z | apply Kd.a5z)); exact HO_3.1) hb); have n1_ := a1z.mk (d5z (g := gb101) (o := .cells #[.int .i64 a0_0, .int .i64 a0_1] 55 (0, 0)) (by (with_reducible repeat (first | refine a8z ?_ _ | refine a9z ?_ | refine a7z ?_ _)); exact BK101.1) hb); have n2_ := a1z.mk (b3z (by repeat (first | (with_reducible first | exact HB.1 | apply a3z | apply a0z | apply a2z | refine a6z ?_ GE101.1) | exact HB.1)) hb); clear HO_3; clear BK101; clear HB; have HO_3 := n0_; have BK101 := n1_; have HB := n2_; clear n0_ n1_ n2_; (try clear hb); (try clear hb2); (try clear hk); (try clear hi)) | ((with_reducible refine e9z (b := .append) (xs := #[.tmp 35, .tmp 39]) rfl ?_); at_builtin; refine Kd.g4z k44 (w0 := w) w.heap.size rfl (.tmp 35) (.tmp 39) 25 44 (.agg #[(.int .i64 0), (.int .i64 0)]) 16 rfl Try.underlying25 info44 rfl (by decide) (by omega) u3 x3_1 (⟨t114, t115⟩ : S44) [.int .i64 t114, .int .i64 t115] (fun _ => True) (fun _ => False) rfl rfl ?aP (fun _ hk => hk.elim) ?aF ?aO ?aB ?aS ?aL ?_; (case aP => exact k44_mkM _ _ _ (⟨t114, t115⟩ : S44)); (case aB => exact (by repeat (first | (with_reducible first | exact HB.1 | apply a3z | apply a0z | apply a2z | refine a6z ?_ GE101.1) | exact HB.1))); (case aF => exact (fun _ _ => trivial)); (case aO => exact (by (with_reducible repeat (first | apply Kd.R_alloc | apply Kd.a4z | apply Kd.a5z)); exact HO_3.1)); (case aS => exact (b2z (by repeat (first | (with_reducible first | exact HB.1 | apply a3z | apply a0z | apply a2z | refine a6z ?_ GE101.1) | exact HB.1)))); (case aL => have := LMc31.1; omega); intro v117 w39 ho hb hg hat; rw [← Ny116.1] at ho; have n0_ := a1z.mk (f0z (g := gb101) (o := .cells #[.int .i64 a0_0, .int .i64 a0_1] 55 (0, 0)) (by (with_reducible repeat (first | refine a8z ?_ _ | refine a9z ?_ | refine a7z ?_ _)); exact BK101.1) hg (Kd.R_ne HO_3.1 BK101.1 (by decide))); have n1_ := a1z.mk (hb); have n2_ := a1z.mk (ho); clear BK101; clear HB; clear HO_3; have BK101 := n0_; have HB := n1_; have HO118 := n2_; clear n0_ n1_ n2_; clear ho hb hg hat; obtain ⟨Ao40, co40, eo40⟩ := Kd.e1z HO118.1; subst eo40; have p119 : 0 ≤ ((ji32) : Int) := of_decide_eq_true (by first | (with_reducible assumption) | assumption); have q119 : (ji32) < (y116.length : Int) := of_decide_eq_true (by first | (with_reducible assumption) | assumption); obtain ⟨ad119, e119, hx119_0, hx119_1⟩ := h1z (Kd.c0z HO118.1).2.2 (ji32) p119 q119; cases e119; replace p119 := eq_true p119; replace q119 := eq_true q119) | ((with_reducible refine b8z (f := 58) rfl ?_); refine c8z (some 47) rfl rfl Try.func58 (by kernel_rfl) rfl #[.agg #[.int .i64 ((b4z y116 (ji32)).f0), .int .i64 ((b4z y116 (ji32)).f1)]] rfl (by (try simp only [List.map_toArray, List.map_cons, List.map_nil]); first | done | (simp only [hji32]; rfl) | rfl | (simp only [List.length_drop, List.length_take]; rfl)) ?_; (with_reducible refine (impl_Block_last.calls ((b4z y116 (ji32)).f0) ((b4z y116 (ji32)).f1) t120 _ A35.1).mono ?_); rintro e w41 ⟨rfl, hb⟩; refine ⟨_, rfl, ?_⟩; have n0_ := a1z.mk (Kd.c7z (by (with_reducible repeat (first | apply Kd.R_alloc | apply Kd.a4z | apply Kd.a5z)); exact HO118.1) hb); have n1_ := a1z.mk (d5z (g := gb101) (o := .cells #[.int .i64 a0_0, .int .i64 a0_1] 55 (0, 0)) (by (with_reducible repeat (first | refine a8z ?_ _ | refine a9z ?_ | refine a7z ?_ _)); exact BK101.1) hb); have n2_ := a1z.mk (b3z (by repeat (first | (with_reducible first | exact HB.1 | apply a3z | apply a0z | apply a2z | refine a6z ?_ GE101.1) | exact HB.1)) hb); clear HO118; clear BK101; clear HB; have HO118 := n0_; have BK101 := n1_; have HB := n2_; clear n0_ n1_ n2_; (try clear hb); (try clear hb2); (try clear hk); (try clear hi)))
           go_roundg k2
           case measure => have := HK1.1; have := HK2.1; omega
           case rel => exact ⟨(y116), (wrap64 (t120 + 1)), (by first | rfl | (simp; done) | (simp [*]; done)), H', ⟨by have := HK1.1; have := HK2.1; omega⟩, ⟨by (with_reducible repeat (first | apply Kd.R_alloc | apply Kd.a4z | apply Kd.a5z)); exact HO118.1⟩, ⟨by (with_reducible repeat (first | refine a8z ?_ _ | refine a9z ?_ | refine a7z ?_ _)); exact BK101.1⟩, ⟨by repeat (first | (with_reducible first | exact HB.1 | apply a3z | apply a0z | apply a2z | refine a6z ?_ GE101.1) | exact HB.1)⟩⟩
          ·rw [if_neg c34] at H
           exact absurd H (by simp)
         ·rw [if_neg c33] at H
          exact absurd H (by simp)
        ·rw [if_neg c31] at H
         exact absurd H (by simp)
      ·rw [if_neg c6] at H
       have c6b0 : decide (0 < x5_2) = false := decide_eq_false c6
       clear c6
       replace H := Option.bind_eq_some_iff.mp H
       obtain ⟨⟨t121, t122⟩, A420, H⟩ := H
       replace H : (if x3_1.length < 8796093022208 then ((some (x3_1 ++ [(⟨t121, t122⟩ : S44)] : List (S44))).bind fun y123 => (if 0 ≤ (wrap64 ((y123.length : Int) - 1)) then (if (wrap64 ((y123.length : Int) - 1)) < (y123.length : Int) then ((impl_Block_last.f ((b4z y123 (wrap64 ((y123.length : Int) - 1))).f0) ((b4z y123 (wrap64 ((y123.length : Int) - 1))).f1)).bind fun t127 => (impl_span_blocks.l0 k2 y123 (wrap64 (t127 + 1)) a0_0 a0_1)) else (none)) else (none))) else (none)) = some r := H
       have A42 := a1z.mk A420
       clear A420
       by_cases c43 : x3_1.length < 8796093022208
       ·rw [if_pos c43] at H
        have LMc43 := a1z.mk c43
        clear c43
        obtain ⟨y123, hy123⟩ : ∃ y_ : List (S44), y_ = (x3_1 ++ [(⟨t121, t122⟩ : S44)]) := ⟨_, rfl⟩
        replace H : (if 0 ≤ (wrap64 ((y123.length : Int) - 1)) then (if (wrap64 ((y123.length : Int) - 1)) < (y123.length : Int) then ((impl_Block_last.f ((b4z y123 (wrap64 ((y123.length : Int) - 1))).f0) ((b4z y123 (wrap64 ((y123.length : Int) - 1))).f1)).bind fun t127 => (impl_span_blocks.l0 k2 y123 (wrap64 (t127 + 1)) a0_0 a0_1)) else (none)) else (none)) = some r := by first | (rw [hy123]; with_reducible exact H) | (have H2_ := (Option.bind_some _ _).symm.trans H; rw [hy123]; with_reducible exact H2_) | (have H2_ := (Option.bind_some _ _).symm.trans H; with_reducible exact H2_) | with_reducible exact H | (rw [hy123]; exact H) | exact H
        have Ny123 := a1z.mk hy123
        clear hy123
        obtain ⟨ji44, hji44⟩ : ∃ j_ : Int, (wrap64 ((y123.length : Int) - 1)) = j_ := ⟨_, rfl⟩
        replace H : (if 0 ≤ (ji44) then (if (ji44) < (y123.length : Int) then ((impl_Block_last.f ((b4z y123 (ji44)).f0) ((b4z y123 (ji44)).f1)).bind fun t127 => (impl_span_blocks.l0 k2 y123 (wrap64 (t127 + 1)) a0_0 a0_1)) else (none)) else (none)) = some r := by first | (rw [hji44] at H; exact H) | (simp only [hji44] at H ⊢; exact H)
        (try rw [hji44] at A42)
        have hji44w : (IntKind.i64.wrap ((y123.length : Int) - 1)) = ji44 := (i64_w _).trans hji44
        by_cases c45 : 0 ≤ (ji44)
        ·rw [if_pos c45] at H
         have c45b0 : decide (0 ≤ (ji44)) = true := decide_eq_true c45
         clear c45
         by_cases c46 : (ji44) < (y123.length : Int)
         ·rw [if_pos c46] at H
          have c46b0 : decide ((ji44) < (y123.length : Int)) = true := decide_eq_true c46
          clear c46
          replace H := Option.bind_eq_some_iff.mp H
          obtain ⟨t127, A470, H⟩ := H
          replace H : (impl_span_blocks.l0 k2 y123 (wrap64 (t127 + 1)) a0_0 a0_1) = some r := H
          have A47 := a1z.mk A470
          clear A470
          have H' := a1z.mk H
          clear H
          try go_wp2
          have n0_ := a1z.mk (Kd.a5z HO_3.1)
          have n1_ := a1z.mk (a9z BK101.1)
          have n2_ := a1z.mk (a2z HB.1)
          clear HO_3
          clear BK101
          clear HB
          have HO_3 := n0_
          have BK101 := n1_
          have HB := n2_
          clear n0_ n1_ n2_
          refine g9z (n := 21) (S := fun w' => True) (ds := []) #[false, false, false, false, false, false, false, false, false, false, false, false, false, false, false, false, false, false, false, false, false] (by kernel_rfl) rfl rfl trivial (fun hHeld => ?_); refine f8z impl_span_blocks.tab5 impl_span_blocks.bits5 (fun HT_ HW_ => ?_)
          generalize wr.drew = w48 at HO_3 BK101 HB hHeld ⊢
          refine pure_ (i := 0) (N := some 12) (v := ?_) (a' := ?_) #[true, false, false, false, false, false, false, false, false, false, false, false, false, false, false, false, false, false, false, false, false] rfl rfl (b7z HT_.1 (by kernel_rfl)) (fun _ _ _ h => h) (Or.inl ⟨by rfl, ?_⟩) ?_ ?_
          rotate_left
          ·intro w'
           go_simp
           with_reducible rfl
          rotate_left
          ·simp only [Act.put, sA_, sZ_, sS_, i64_w, i32_w]
           rfl
          refine pure_ (i := 1) (N := some 13) (v := ?_) (a' := ?_) #[true, true, false, false, false, false, false, false, false, false, false, false, false, false, false, false, false, false, false, false, false] rfl rfl (b7z HT_.1 (by kernel_rfl)) (fun _ _ _ h => h) (Or.inl ⟨by rfl, ?_⟩) ?_ ?_
          rotate_left
          ·intro w'
           go_simp
           with_reducible rfl
          rotate_left
          ·simp only [Act.put, sA_, sZ_, sS_, i64_w, i32_w]
           rfl
          refine pure_ (i := 2) (N := some 14) (v := ?_) (a' := ?_) #[true, true, true, false, false, false, false, false, false, false, false, false, false, false, false, false, false, false, false, false, false] rfl rfl (b7z HT_.1 (by kernel_rfl)) (fun _ _ _ h => h) (Or.inl ⟨by rfl, ?_⟩) ?_ ?_
          rotate_left
          ·intro w'
           go_simp
           with_reducible rfl
          rotate_left
          ·simp only [Act.put, sA_, sZ_, sS_, i64_w, i32_w]
           rfl
          refine pure_ (i := 3) (N := some 15) (v := undef) (a' := ?_) #[true, true, true, true, false, false, false, false, false, false, false, false, false, false, false, false, false, false, false, false, false] rfl rfl (b7z HT_.1 (by kernel_rfl)) (fun _ _ _ h => h) (Or.inr ⟨by rfl, rfl⟩) ?_ ?_
          rotate_left
          ·simp only [Act.put, sA_, sZ_, sS_, i64_w, i32_w]
           rfl
          refine pure_ (i := 4) (N := some 16) (v := undef) (a' := ?_) #[true, true, true, true, true, false, false, false, false, false, false, false, false, false, false, false, false, false, false, false, false] rfl rfl (b7z HT_.1 (by kernel_rfl)) (fun _ _ _ h => h) (Or.inr ⟨by rfl, rfl⟩) ?_ ?_
          rotate_left
          ·simp only [Act.put, sA_, sZ_, sS_, i64_w, i32_w]
           rfl
          refine pure_ (i := 5) (N := some 17) (v := undef) (a' := ?_) #[true, true, true, true, true, true, false, false, false, false, false, false, false, false, false, false, false, false, false, false, false] rfl rfl (b7z HT_.1 (by kernel_rfl)) (fun _ _ _ h => h) (Or.inr ⟨by rfl, rfl⟩) ?_ ?_
          rotate_left
          ·simp only [Act.put, sA_, sZ_, sS_, i64_w, i32_w]
           rfl
          refine pure_ (i := 6) (N := some 18) (v := undef) (a' := ?_) #[true, true, true, true, true, true, true, false, false, false, false, false, false, false, false, false, false, false, false, false, false] rfl rfl (b7z HT_.1 (by kernel_rfl)) (fun _ _ _ h => h) (Or.inr ⟨by rfl, rfl⟩) ?_ ?_
          rotate_left
          ·simp only [Act.put, sA_, sZ_, sS_, i64_w, i32_w]
           rfl
          refine pure_ (i := 7) (N := some 19) (v := undef) (a' := ?_) #[true, true, true, true, true, true, true, true, false, false, false, false, false, false, false, false, false, false, false, false, false] rfl rfl (b7z HT_.1 (by kernel_rfl)) (fun _ _ _ h => h) (Or.inr ⟨by rfl, rfl⟩) ?_ ?_
          rotate_left
          ·simp only [Act.put, sA_, sZ_, sS_, i64_w, i32_w]
           rfl
          refine pure_ (i := 8) (N := some 20) (v := undef) (a' := ?_) #[true, true, true, true, true, true, true, true, true, false, false, false, false, false, false, false, false, false, false, false, false] rfl rfl (b7z HT_.1 (by kernel_rfl)) (fun _ _ _ h => h) (Or.inr ⟨by rfl, rfl⟩) ?_ ?_
          rotate_left
          ·simp only [Act.put, sA_, sZ_, sS_, i64_w, i32_w]
           rfl
          refine pure_ (i := 9) (N := some 21) (v := undef) (a' := ?_) #[true, true, true, true, true, true, true, true, true, true, false, false, false, false, false, false, false, false, false, false, false] rfl rfl (b7z HT_.1 (by kernel_rfl)) (fun _ _ _ h => h) (Or.inr ⟨by rfl, rfl⟩) ?_ ?_
          rotate_left
          ·simp only [Act.put, sA_, sZ_, sS_, i64_w, i32_w]
           rfl
          refine pure_ (i := 10) (N := some 22) (v := ?_) (a' := ?_) #[true, true, true, true, true, true, true, true, true, true, true, false, false, false, false, false, false, false, false, false, false] rfl rfl (b7z HT_.1 (by kernel_rfl)) (fun _ _ _ h => h) (Or.inl ⟨by rfl, ?_⟩) ?_ ?_
          rotate_left
          ·intro w'
           go_simp
           with_reducible rfl
          rotate_left
          ·simp only [Act.put, sA_, sZ_, sS_, i64_w, i32_w]
           rfl
          refine pure_ (i := 11) (N := some 23) (v := ?_) (a' := ?_) #[true, true, true, true, true, true, true, true, true, true, true, true, false, false, false, false, false, false, false, false, false] rfl rfl (b7z HT_.1 (by kernel_rfl)) (fun _ _ _ h => h) (Or.inl ⟨by rfl, ?_⟩) ?_ ?_
          rotate_left
          ·intro w'
           go_simp
           with_reducible rfl
          rotate_left
          ·simp only [Act.put, sA_, sZ_, sS_, i64_w, i32_w]
           rfl
          refine pure_ (i := 12) (N := some 24) (v := undef) (a' := ?_) #[true, true, true, true, true, true, true, true, true, true, true, true, true, false, false, false, false, false, false, false, false] rfl rfl (b7z HT_.1 (by kernel_rfl)) (fun _ _ _ h => h) (Or.inr ⟨by rfl, rfl⟩) ?_ ?_
          rotate_left
          ·simp only [Act.put, sA_, sZ_, sS_, i64_w, i32_w]
           rfl
          refine pure_ (i := 13) (N := some 25) (v := undef) (a' := ?_) #[true, true, true, true, true, true, true, true, true, true, true, true, true, true, false, false, false, false, false, false, false] rfl rfl (b7z HT_.1 (by kernel_rfl)) (fun _ _ _ h => h) (Or.inr ⟨by rfl, rfl⟩) ?_ ?_
          rotate_left
          ·simp only [Act.put, sA_, sZ_, sS_, i64_w, i32_w]
           rfl
          refine pure_ (i := 14) (N := some 26) (v := undef) (a' := ?_) #[true, true, true, true, true, true, true, true, true, true, true, true, true, true, true, false, false, false, false, false, false] rfl rfl (b7z HT_.1 (by kernel_rfl)) (fun _ _ _ h => h) (Or.inr ⟨by rfl, rfl⟩) ?_ ?_
          rotate_left
          ·simp only [Act.put, sA_, sZ_, sS_, i64_w, i32_w]
           rfl
          refine pure_ (i := 15) (N := some 27) (v := undef) (a' := ?_) #[true, true, true, true, true, true, true, true, true, true, true, true, true, true, true, true, false, false, false, false, false] rfl rfl (b7z HT_.1 (by kernel_rfl)) (fun _ _ _ h => h) (Or.inr ⟨by rfl, rfl⟩) ?_ ?_
          rotate_left
          ·simp only [Act.put, sA_, sZ_, sS_, i64_w, i32_w]
           rfl
          refine pure_ (i := 16) (N := some 28) (v := undef) (a' := ?_) #[true, true, true, true, true, true, true, true, true, true, true, true, true, true, true, true, true, false, false, false, false] rfl rfl (b7z HT_.1 (by kernel_rfl)) (fun _ _ _ h => h) (Or.inr ⟨by rfl, rfl⟩) ?_ ?_
          rotate_left
          ·simp only [Act.put, sA_, sZ_, sS_, i64_w, i32_w]
           rfl
          refine pure_ (i := 17) (N := some 29) (v := undef) (a' := ?_) #[true, true, true, true, true, true, true, true, true, true, true, true, true, true, true, true, true, true, false, false, false] rfl rfl (b7z HT_.1 (by kernel_rfl)) (fun _ _ _ h => h) (Or.inr ⟨by rfl, rfl⟩) ?_ ?_
          rotate_left
          ·simp only [Act.put, sA_, sZ_, sS_, i64_w, i32_w]
           rfl
          refine pure_ (i := 18) (N := some 30) (v := undef) (a' := ?_) #[true, true, true, true, true, true, true, true, true, true, true, true, true, true, true, true, true, true, true, false, false] rfl rfl (b7z HT_.1 (by kernel_rfl)) (fun _ _ _ h => h) (Or.inr ⟨by rfl, rfl⟩) ?_ ?_
          rotate_left
          ·simp only [Act.put, sA_, sZ_, sS_, i64_w, i32_w]
           rfl
          refine pure_ (i := 19) (N := some 31) (v := undef) (a' := ?_) #[true, true, true, true, true, true, true, true, true, true, true, true, true, true, true, true, true, true, true, true, false] rfl rfl (b7z HT_.1 (by kernel_rfl)) (fun _ _ _ h => h) (Or.inr ⟨by rfl, rfl⟩) ?_ ?_
          rotate_left
          ·simp only [Act.put, sA_, sZ_, sS_, i64_w, i32_w]
           rfl
          refine pure_ (i := 20) (N := some 32) (v := ?_) (a' := ?_) #[true, true, true, true, true, true, true, true, true, true, true, true, true, true, true, true, true, true, true, true, true] rfl rfl (b7z HT_.1 (by kernel_rfl)) (fun _ _ _ h => h) (Or.inl ⟨by rfl, ?_⟩) ?_ ?_
          rotate_left
          ·intro w'
           go_simp
           with_reducible rfl
          rotate_left
          ·simp only [Act.put, sA_, sZ_, sS_, i64_w, i32_w]
           rfl
          refine done_ (g5z HT_.1 (by kernel_rfl)) ?_
          try go_wp2_with (first | ((with_reducible refine b8z (f := 73) rfl ?_); refine c8z (some 38) rfl rfl Try.func73 (by kernel_rfl) rfl #[.int .i64 x4_1, .int .i64 x5_2] rfl (by (try simp only [List.map_toArray, List.map_cons, List.map_nil]); first | done | rfl | (simp only [List.length_drop, List.length_take]; rfl)) ?_; (with_reducible refine (impl_around.calls x4_1 x5_2 t121 t122 _ A42.1).mono ?_); rintro e w49 ⟨rfl, hb⟩; refine ⟨_, rfl, ?_⟩; have n0_ := a1z.mk (Kd.c7z (by (with_reducible repeat (first | apply Kd.R_alloc | apply Kd.a4z | apply Kd.a5z)); exact HO_3.1) hb); have n1_ := a1z.mk (d5z (g := gb101) (o := .cells #[.int .i64 a0_0, .int .i64 a0_1] 55 (0, 0)) (by (with_reducible repeat (first | refine a8z ?_ _ | refine a9z ?_ | refine a7z ?_ _)); exact BK101.1) hb); have n2_ := a1z.mk (b3z (by repeat (first | (with_reducible first | exact HB.1 | apply a3z | apply a0z | apply a2z | refine a6z ?_ GE101.1) | exact HB.1)) hb); clear HO_3; clear BK101; clear HB; have HO_3 := n0_; have BK101 := n1_; have HB := n2_; clear n0_ n1_ n2_; (try clear hb); (try clear hb2); (try clear hk); (try clear hi)) | ((with_reducible refine e9z (b := .append) (xs := #[.tmp 35, .tmp 39]) rfl ?_); at_builtin; refine Kd.g4z k44 (w0 := w) w.heap.size rfl (.tmp 35) (.tmp 39) 25 44 (.agg #[(.int .i64 0), (.int .i64 0)]) 16 rfl Try.underlying25 info44 rfl (by decide) (by omega) u3 x3_1 (⟨t121, t122⟩ : S44) [.int .i64 t121, .int .i64 t122] (fun _ => True) (fun _ => False) rfl rfl ?aP (fun _ hk => hk.elim) ?aF ?aO ?aB ?aS ?aL ?_; (case aP => exact k44_mkM _ _ _ (⟨t121, t122⟩ : S44)); (case aB => exact (by repeat (first | (with_reducible first | exact HB.1 | apply a3z | apply a0z | apply a2z | refine a6z ?_ GE101.1) | exact HB.1))); (case aF => exact (fun _ _ => trivial)); (case aO => exact (by (with_reducible repeat (first | apply Kd.R_alloc | apply Kd.a4z | apply Kd.a5z)); exact HO_3.1)); (case aS => exact (b2z (by repeat (first | (with_reducible first | exact HB.1 | apply a3z | apply a0z | apply a2z | refine a6z ?_ GE101.1) | exact HB.1)))); (case aL => have := LMc43.1; omega); intro v124 w50 ho hb hg hat; rw [← Ny123.1] at ho; have n0_ := a1z.mk (f0z (g := gb101) (o := .cells #[.int .i64 a0_0, .int .i64 a0_1] 55 (0, 0)) (by (with_reducible repeat (first | refine a8z ?_ _ | refine a9z ?_ | refine a7z ?_ _)); exact BK101.1) hg (Kd.R_ne HO_3.1 BK101.1 (by decide))); have n1_ := a1z.mk (hb); have n2_ := a1z.mk (ho); clear BK101; clear HB; clear HO_3; have BK101 := n0_; have HB := n1_; have HO125 := n2_; clear n0_ n1_ n2_; clear ho hb hg hat; obtain ⟨Ao51, co51, eo51⟩ := Kd.e1z HO125.1; subst eo51; have p126 : 0 ≤ ((ji44) : Int) := of_decide_eq_true (by first | (with_reducible assumption) | assumption); have q126 : (ji44) < (y123.length : Int) := of_decide_eq_true (by first | (with_reducible assumption) | assumption); obtain ⟨ad126, e126, hx126_0, hx126_1⟩ := h1z (Kd.c0z HO125.1).2.2 (ji44) p126 q126; cases e126; replace p126 := eq_true p126; replace q126 := eq_true q126) | ((with_reducible refine b8z (f := 58) rfl ?_); refine c8z (some 47) rfl rfl Try.func58 (by kernel_rfl) rfl #[.agg #[.int .i64 ((b4z y123 (ji44)).f0), .int .i64 ((b4z y123 (ji44)).f1)]] rfl (by (try simp only [List.map_toArray, List.map_cons, List.map_nil]); first | done | (simp only [hji44]; rfl) | rfl | (simp only [List.length_drop, List.length_take]; rfl)) ?_; (with_reducible refine (impl_Block_last.calls ((b4z y123 (ji44)).f0) ((b4z y123 (ji44)).f1) t127 _ A47.1).mono ?_); rintro e w52 ⟨rfl, hb⟩; refine ⟨_, rfl, ?_⟩; have n0_ := a1z.mk (Kd.c7z (by (with_reducible repeat (first | apply Kd.R_alloc | apply Kd.a4z | apply Kd.a5z)); exact HO125.1) hb); have n1_ := a1z.mk (d5z (g := gb101) (o := .cells #[.int .i64 a0_0, .int .i64 a0_1] 55 (0, 0)) (by (with_reducible repeat (first | refine a8z ?_ _ | refine a9z ?_ | refine a7z ?_ _)); exact BK101.1) hb); have n2_ := a1z.mk (b3z (by repeat (first | (with_reducible first | exact HB.1 | apply a3z | apply a0z | apply a2z | refine a6z ?_ GE101.1) | exact HB.1)) hb); clear HO125; clear BK101; clear HB; have HO125 := n0_; have BK101 := n1_; have HB := n2_; clear n0_ n1_ n2_; (try clear hb); (try clear hb2); (try clear hk); (try clear hi)))
          go_roundg k2
          case measure => have := HK1.1; have := HK2.1; omega
          case rel => exact ⟨(y123), (wrap64 (t127 + 1)), (by first | rfl | (simp; done) | (simp [*]; done)), H', ⟨by have := HK1.1; have := HK2.1; omega⟩, ⟨by (with_reducible repeat (first | apply Kd.R_alloc | apply Kd.a4z | apply Kd.a5z)); exact HO125.1⟩, ⟨by (with_reducible repeat (first | refine a8z ?_ _ | refine a9z ?_ | refine a7z ?_ _)); exact BK101.1⟩, ⟨by repeat (first | (with_reducible first | exact HB.1 | apply a3z | apply a0z | apply a2z | refine a6z ?_ GE101.1) | exact HB.1)⟩⟩
         ·rw [if_neg c46] at H
          exact absurd H (by simp)
        ·rw [if_neg c45] at H
         exact absurd H (by simp)
       ·rw [if_neg c43] at H
        exact absurd H (by simp)
   ·rw [if_neg c4] at H
    have c4b0 : decide (x4_1 ≤ a0_1) = false := decide_eq_false c4
    clear c4
    obtain rfl := Option.some.inj H
    have hcz53_0 : wr.cell? ⟨gb101, 0, none⟩ = some (.int .i64 a0_0) := (b1z BK101.1 0).trans rfl
    have hcz53_1 : wr.cell? ⟨gb101, 1, none⟩ = some (.int .i64 a0_1) := (b1z BK101.1 1).trans rfl
    have hfz53_0 := b5z BK101.1 0
    have hfz53_1 := b5z BK101.1 1
    go_wp2
    go_ret
    exact ⟨_, by first | rfl | (simp [c2z, c1z] <;> rfl) | (simp [*, c2z, c1z] <;> rfl), by (with_reducible repeat (first | apply Kd.R_alloc | apply Kd.a4z | apply Kd.a5z)); exact HO_3.1, by repeat (first | (with_reducible first | exact HB.1 | apply a3z | apply a0z | apply a2z | refine a6z ?_ GE101.1) | exact HB.1)⟩
end Go.Proofs.Ytmdhedkgpgoneaa.Q

namespace Go.Proofs.Ytmdhedkgpgoneaa.Q
open Go.RowKit Go.Proofs.YtmdhedkgpgoneaaW.PrintWords Go.Proofs.YtmdhedkgpgoneaaW.PrintLast Go.Proofs.YtmdhedkgpgoneaaW.PrintMore
attribute [local go_sem] e0z d8z e7z e6z d2z d1z d9z d7z
set_option linter.unusedVariables false
set_option linter.unusedSimpArgs false
def impl_set.l0 : Nat → List (S44) → List (S55) → Int → Int → Option ((List (S44)))
 | 0, _, _, _, _ => none
 | k + 1, x3, x7, x8, x9 => if x9 < x8 then (if 0 ≤ x9 then (if x9 < (x7.length : Int) then ((impl_span_blocks.f k ((b0z x7 x9).f0) ((b0z x7 x9).f1)).bind fun t106 => (if x3.length + t106.length < 8796093022208 then (impl_set.l0 k (x3 ++ t106) x7 x8 (wrap64 (x9 + 1))) else (none))) else (none)) else (none)) else (some x3)
def impl_set.f (k : Nat) (l0 : List (S55)) : Option ((List (S44))) := (impl_union.f k l0).bind fun t101 => (impl_set.l0 k ([] : List (S44)) t101 (t101.length : Int) 0)
set_option maxHeartbeats 8000000 in
set_option maxRecDepth 100000 in
theorem impl_set.calls (k : Nat) (A0 : Option Addr) (c0 : Nat) (l0 : List (S55)) (r : List (S44)) (w : World) (hr0 : Kd.C k55 w A0 l0.length l0) (hc0 : l0.length ≤ c0) (h : impl_set.f k l0 = some r) :
  Calls Try.prog 39 #[.slice A0 l0.length c0] w fun e w' => ∃ v0_ : Value, e = .returned (v0_) ∧ Kd.R k44 44 w' w.heap.size (fun _ => True) v0_ r ∧ Below w.heap.size w w' := by
 have hu55 := Try.underlying55
 have HR0 := a1z.mk hr0
 have HC0 := a1z.mk hc0
 clear hr0 hc0
 have HB := a1z.mk (Below.refl w.heap.size w)
 have H : ((impl_union.f k l0).bind fun t101 => (impl_set.l0 k ([] : List (S44)) t101 (t101.length : Int) 0)) = some r := h
 clear h
 replace H := Option.bind_eq_some_iff.mp H
 obtain ⟨t101, A20, H⟩ := H
 replace H : (impl_set.l0 k ([] : List (S44)) t101 (t101.length : Int) 0) = some r := H
 have A2 := a1z.mk A20
 clear A20
 have H' := a1z.mk H
 clear H
 go_enter Try.func39, Try.ntmps39
 go_wp2_with (first | ((with_reducible refine b8z (f := 48) rfl ?_); refine c8z (some 7) rfl rfl Try.func48 (by kernel_rfl) rfl #[.slice A0 l0.length c0] rfl (by (try simp only [List.map_toArray, List.map_cons, List.map_nil]); first | done | rfl | (simp only [List.length_drop, List.length_take]; rfl)) ?_; (with_reducible refine (impl_union.calls k _ _ l0 t101 _ ?side1 ?side2 A2.1).mono ?_); (case side1 => repeat (first | exact HR0.1 | (with_reducible refine Kd.C_alloc ?_ _) | (with_reducible refine Kd.C_drewN ?_ _) | (with_reducible refine Kd.C_drew ?_))); (case side2 => exact HC0.1); rintro e w3 ⟨v102, rfl, ho0, hb⟩; refine ⟨_, rfl, ?_⟩; have n0_ := a1z.mk (Kd.d4z ho0 (b2z (by repeat (first | (with_reducible first | exact HB.1 | apply a3z | apply a0z | apply a2z) | exact HB.1)))); have n1_ := a1z.mk (b3z (by repeat (first | (with_reducible first | exact HB.1 | apply a3z | apply a0z | apply a2z) | exact HB.1)) hb); clear HB; have HO103 := n0_; have HB := n1_; clear n0_ n1_; (try clear hb); (try clear hb2); (try clear hk); (try clear hi); (try clear ho0); obtain ⟨Ao4, co4, eo4⟩ := Kd.e1z HO103.1; subst eo4))
 go_loopg [3, 9] k (fun kq v3 v9 w' => ∃ (x3_1 : List (S44)) (x9_1 : Int), v9 = .int .i64 x9_1 ∧ a1z (impl_set.l0 kq x3_1 t101 (t101.length : Int) x9_1 = some r) ∧ a1z (kq ≤ k) ∧ a1z (Kd.R k44 44 w' w.heap.size (fun _ => True) v3 x3_1) ∧ a1z (Kd.R k55 55 w' w.heap.size (fun _ => True) (.slice Ao4 t101.length co4) t101) ∧ a1z (Below w.heap.size w w'))
 case atStart => exact ⟨(([] : List (S44))), (0), (by first | rfl | (simp; done) | (simp [*]; done)), H', ⟨Nat.le_refl _⟩, ⟨by first | exact Kd.R_nil _ _ _ _ _ | exact Kd.N_nil _ _ _ _ _ | exact Kd.V_nil _ _ _ _ _ | exact Kd.Q_nil _ _ _ _ _ | exact Kd.S_nil _ _ _ _ _⟩, ⟨by (with_reducible repeat (first | apply Kd.R_alloc | apply Kd.a4z | apply Kd.a5z)); exact HO103.1⟩, ⟨by repeat (first | (with_reducible first | exact HB.1 | apply a3z | apply a0z | apply a2z) | exact HB.1)⟩⟩
 case round =>
  clear H'
  try clear p2
  try clear c3
  try clear c4
  obtain ⟨x3_1, x9_1, rfl, HA, HK1, HO_3, HO_7, HB⟩ := hrel
  cases gk with
  | zero => exact absurd HA.1 (by simp [impl_set.l0])
  | succ k1 =>
   have H := HA.1
   clear HA
   simp only [impl_set.l0] at H
   by_cases c5 : x9_1 < (t101.length : Int)
   ·rw [if_pos c5] at H
    have c5b0 : decide (x9_1 < (t101.length : Int)) = true := decide_eq_true c5
    clear c5
    by_cases c6 : 0 ≤ x9_1
    ·rw [if_pos c6] at H
     have c6b0 : decide (0 ≤ x9_1) = true := decide_eq_true c6
     clear c6
     by_cases c7 : x9_1 < (t101.length : Int)
     ·rw [if_pos c7] at H
      have c7b0 : decide (x9_1 < (t101.length : Int)) = true := decide_eq_true c7
      clear c7
      replace H := Option.bind_eq_some_iff.mp H
      obtain ⟨t106, A80, H⟩ := H
      replace H : (if x3_1.length + t106.length < 8796093022208 then (impl_set.l0 k1 (x3_1 ++ t106) t101 (t101.length : Int) (wrap64 (x9_1 + 1))) else (none)) = some r := H
      have A8 := a1z.mk A80
      clear A80
      by_cases c9 : x3_1.length + t106.length < 8796093022208
      ·rw [if_pos c9] at H
       have LMc9 := a1z.mk c9
       clear c9
       obtain ⟨y109, hy109⟩ : ∃ y_ : List (S44), y_ = (x3_1 ++ t106) := ⟨_, rfl⟩
       replace H : (impl_set.l0 k1 y109 t101 (t101.length : Int) (wrap64 (x9_1 + 1))) = some r := by first | (rw [hy109]; with_reducible exact H) | (have H2_ := (Option.bind_some _ _).symm.trans H; rw [hy109]; with_reducible exact H2_) | (have H2_ := (Option.bind_some _ _).symm.trans H; with_reducible exact H2_) | with_reducible exact H | (rw [hy109]; exact H) | exact H
       have Ny109 := a1z.mk hy109
       clear hy109
       have H' := a1z.mk H
       clear H
       have p104 : 0 ≤ (x9_1 : Int) := of_decide_eq_true (by first | (with_reducible assumption) | assumption)
       have q104 : x9_1 < (t101.length : Int) := of_decide_eq_true (by first | (with_reducible assumption) | assumption)
       obtain ⟨ad104, e104, hx104_0, hx104_1⟩ := i5z (Kd.c0z HO_7.1).2.2 x9_1 p104 q104
       cases e104
       replace p104 := eq_true p104
       replace q104 := eq_true q104
       go_wp2_with (first | ((with_reducible refine d3z (N := 5) rfl ?_); refine d6z ?hg (N := 5) ?hd (cs := #[.int .i64 0, .int .i64 0]) (t := 55) ?hr ?_; (case hd => rfl); (case hg => rfl); (case hr => first | (go_simp; done) | (go_simp; rfl)); intro gb105 hg w10 hbox hb; have n0_ := a1z.mk (Kd.c7z (by (with_reducible repeat (first | apply Kd.R_alloc | apply Kd.a4z | apply Kd.a5z)); exact HO_3.1) hb); have n1_ := a1z.mk (Kd.c7z (Kd.f4z (by (with_reducible repeat (first | apply Kd.R_alloc | apply Kd.a4z | apply Kd.a5z)); exact HO_7.1) gb105 (Nat.le_of_eq hg.symm)) hb); have n2_ := a1z.mk (b3z (by repeat (first | (with_reducible first | exact HB.1 | apply a3z | apply a0z | apply a2z) | exact HB.1)) hb); have n3_ := a1z.mk (hbox); have n4_ := a1z.mk ((by rw [hg]; exact (b2z (by repeat (first | (with_reducible first | exact HB.1 | apply a3z | apply a0z | apply a2z) | exact HB.1))) : w.heap.size ≤ gb105)); have n5_ := a1z.mk ((by rw [hg]; exact (b2z (by repeat (first | (with_reducible first | exact HB.1 | apply a3z | apply a0z | apply a2z) | exact HB.1))) : w.heap.size ≤ gb105)); clear HO_3; clear HO_7; clear HB; have HO_3 := n0_; have HO_7 := n1_; have HB := n2_; have BK105 := n3_; have GW105 := n4_; have GE105 := n5_; clear n0_ n1_ n2_ n3_ n4_ n5_; clear hb hbox hg; have hcz11_0 : w10.cell? ⟨gb105, 0, none⟩ = some (.int .i64 0) := (b1z BK105.1 0).trans rfl; have hcz11_1 : w10.cell? ⟨gb105, 1, none⟩ = some (.int .i64 0) := (b1z BK105.1 1).trans rfl; have hfz11_0 := b5z BK105.1 0; have hfz11_1 := b5z BK105.1 1) | ((with_reducible refine b8z (f := 57) rfl ?_); refine c8z (some 15) rfl rfl Try.func57 (by kernel_rfl) rfl #[.agg #[.int .i64 ((b0z t101 x9_1).f0), .int .i64 ((b0z t101 x9_1).f1)]] rfl (by (try simp only [List.map_toArray, List.map_cons, List.map_nil]); first | done | rfl | (simp only [List.length_drop, List.length_take]; rfl)) ?_; (with_reducible refine (impl_span_blocks.calls k1 ((b0z t101 x9_1).f0) ((b0z t101 x9_1).f1) t106 _ A8.1).mono ?_); rintro e w12 ⟨v107, rfl, ho0, hb⟩; refine ⟨_, rfl, ?_⟩; have n0_ := a1z.mk (Kd.c9z (by (with_reducible repeat (first | apply Kd.R_alloc | apply Kd.a4z | apply Kd.a5z)); exact (Kd.b9z (Kd.R_far (p := ⟨gb105, 1, none⟩) (Kd.R_far (p := ⟨gb105, 0, none⟩) (Kd.R_types HO_3.1 BK105.1 (by decide)) (fun _ hk => hk.2) (.int .i64 ((b0z t101 x9_1).f0))) (fun _ hk => hk.2) (.int .i64 ((b0z t101 x9_1).f1))) (fun _ h_ => h_.1))) (Kd.e3z ho0) hb); have n1_ := a1z.mk (Kd.c7z (by (with_reducible repeat (first | apply Kd.R_alloc | apply Kd.a4z | apply Kd.a5z)); exact (Kd.b9z (Kd.R_far (p := ⟨gb105, 1, none⟩) (Kd.R_far (p := ⟨gb105, 0, none⟩) (Kd.b9z HO_7.1 (fun k_ hk => (⟨hk, hk.2⟩ : _ ∧ k_ ≠ gb105))) (fun _ hk => hk.2) (.int .i64 ((b0z t101 x9_1).f0))) (fun _ hk => hk.2) (.int .i64 ((b0z t101 x9_1).f1))) (fun _ h_ => h_.1))) hb); have n2_ := a1z.mk (Kd.d4z (Kd.e2z ho0 (Kd.R_lt (by (with_reducible repeat (first | apply Kd.R_alloc | apply Kd.a4z | apply Kd.a5z)); exact (Kd.b9z (Kd.R_far (p := ⟨gb105, 1, none⟩) (Kd.R_far (p := ⟨gb105, 0, none⟩) (Kd.R_types HO_3.1 BK105.1 (by decide)) (fun _ hk => hk.2) (.int .i64 ((b0z t101 x9_1).f0))) (fun _ hk => hk.2) (.int .i64 ((b0z t101 x9_1).f1))) (fun _ h_ => h_.1))))) (b2z (by repeat (first | (with_reducible first | exact HB.1 | apply a3z | apply a0z | apply a2z | refine a6z ?_ GE105.1) | exact HB.1)))); have n3_ := a1z.mk (d5z (g := gb105) (o := .cells #[.int .i64 ((b0z t101 x9_1).f0), .int .i64 ((b0z t101 x9_1).f1)] 55 (0, 0)) (by (with_reducible repeat (first | refine a8z ?_ _ | refine a9z ?_ | refine a7z ?_ _)); refine d0z (cs := #[.int .i64 ((b0z t101 x9_1).f0), .int .i64 0]) ?_ 1 _ rfl; (with_reducible repeat (first | refine a8z ?_ _ | refine a9z ?_ | refine a7z ?_ _)); refine d0z (cs := #[.int .i64 0, .int .i64 0]) ?_ 0 _ rfl; (with_reducible repeat (first | refine a8z ?_ _ | refine a9z ?_ | refine a7z ?_ _)); exact BK105.1) hb); have n4_ := a1z.mk (b3z (by repeat (first | (with_reducible first | exact HB.1 | apply a3z | apply a0z | apply a2z | refine a6z ?_ GE105.1) | exact HB.1)) hb); clear HO_3; clear HO_7; clear BK105; clear HB; have HO_3 := n0_; have HO_7 := n1_; have HO108 := n2_; have BK105 := n3_; have HB := n4_; clear n0_ n1_ n2_ n3_ n4_; (try clear hb); (try clear hb2); (try clear hk); (try clear hi); (try clear ho0); obtain ⟨Ao14, co14, eo14⟩ := Kd.e1z HO108.1; subst eo14) | ((with_reducible refine e9z (b := .append) (xs := #[.tmp 13, .tmp 15]) rfl ?_); at_builtin; refine Kd.R_append_rows k44 (w0 := w) w.heap.size rfl (.tmp 13) (.tmp 15) 25 44 (.agg #[(.int .i64 0), (.int .i64 0)]) 16 rfl Try.underlying25 info44 rfl (by decide) (by omega) u3 x3_1 t106 _ _ _ (fun k_ => some k_ ≠ (.slice Ao14 t106.length co14 : Value).ownBlock) (fun _ => False) rfl rfl ?aO ?aR (fun _ _ h => h) (fun _ h => h.elim) ?aF ?aB ?aS ?aL ?_; (case aR => repeat (first | exact (Kd.c0z HO108.1).2.2 | (with_reducible refine Kd.C_alloc ?_ _) | (with_reducible refine Kd.C_drewN ?_ _) | (with_reducible refine Kd.C_drew ?_))); (case aB => exact (by repeat (first | (with_reducible first | exact HB.1 | apply a3z | apply a0z | apply a2z | refine a6z ?_ GE105.1) | exact HB.1))); (case aF => exact (fun k_ hk => Kd.fresh' (Kd.R_lt (by (with_reducible repeat (first | apply Kd.R_alloc | apply Kd.a4z | apply Kd.a5z)); exact HO108.1)) k_ hk)); (case aO => exact (by (with_reducible repeat (first | apply Kd.R_alloc | apply Kd.a4z | apply Kd.a5z)); exact Kd.b9z HO_3.1 (fun _ hk => hk.2))); (case aS => exact (b2z (by repeat (first | (with_reducible first | exact HB.1 | apply a3z | apply a0z | apply a2z | refine a6z ?_ GE105.1) | exact HB.1)))); (case aL => have := LMc9.1; omega); intro v110 w13 ho hb hg hat; rw [← Ny109.1] at ho; have n0_ := a1z.mk (Kd.R_over' (by (with_reducible repeat (first | apply Kd.R_alloc | apply Kd.a4z | apply Kd.a5z)); exact HO_7.1) (Kd.R_typed (by (with_reducible repeat (first | apply Kd.R_alloc | apply Kd.a4z | apply Kd.a5z)); exact HO_3.1)) (by decide) hg); have n1_ := a1z.mk (f0z (g := gb105) (o := .cells #[.int .i64 ((b0z t101 x9_1).f0), .int .i64 ((b0z t101 x9_1).f1)] 55 (0, 0)) (by (with_reducible repeat (first | refine a8z ?_ _ | refine a9z ?_ | refine a7z ?_ _)); exact BK105.1) hg (Kd.R_ne HO_3.1 BK105.1 (by decide))); have n2_ := a1z.mk (Kd.e4z (ok := (fun _ => True)) (by (with_reducible repeat (first | apply Kd.R_alloc | apply Kd.a4z | apply Kd.a5z)); exact HO108.1) hg hat); have n3_ := a1z.mk (hb); have n4_ := a1z.mk (ho); clear HO_7; clear BK105; clear HO108; clear HB; clear HO_3; have HO_7 := n0_; have BK105 := n1_; have HO108 := n2_; have HB := n3_; have HO111 := n4_; clear n0_ n1_ n2_ n3_ n4_; clear ho hb hg hat))
       go_roundg k1
       case measure => have := HK1.1; omega
       case rel => exact ⟨(y109), (wrap64 (x9_1 + 1)), (by first | rfl | (simp; done) | (simp [*]; done)), H', ⟨by have := HK1.1; omega⟩, ⟨by (with_reducible repeat (first | apply Kd.R_alloc | apply Kd.a4z | apply Kd.a5z)); exact Kd.b9z HO111.1 (fun _ hk => trivial)⟩, ⟨by (with_reducible repeat (first | apply Kd.R_alloc | apply Kd.a4z | apply Kd.a5z)); exact Kd.b9z HO_7.1 (fun _ hk => trivial)⟩, ⟨by repeat (first | (with_reducible first | exact HB.1 | apply a3z | apply a0z | apply a2z | refine a6z ?_ GE105.1) | exact HB.1)⟩⟩
      ·rw [if_neg c9] at H
       exact absurd H (by simp)
     ·rw [if_neg c7] at H
      exact absurd H (by simp)
    ·rw [if_neg c6] at H
     exact absurd H (by simp)
   ·rw [if_neg c5] at H
    have c5b0 : decide (x9_1 < (t101.length : Int)) = false := decide_eq_false c5
    clear c5
    obtain rfl := Option.some.inj H
    go_wp2
    go_ret
    exact ⟨_, by first | rfl | (simp [c2z, c1z] <;> rfl) | (simp [*, c2z, c1z] <;> rfl), by (with_reducible repeat (first | apply Kd.R_alloc | apply Kd.a4z | apply Kd.a5z)); exact HO_3.1, by repeat (first | (with_reducible first | exact HB.1 | apply a3z | apply a0z | apply a2z) | exact HB.1)⟩
end Go.Proofs.Ytmdhedkgpgoneaa.Q

namespace Go.Proofs.Ytmdhedkgpgoneaa.Q
open Go.RowKit Go.Proofs.YtmdhedkgpgoneaaW.PrintWords Go.Proofs.YtmdhedkgpgoneaaW.PrintLast Go.Proofs.YtmdhedkgpgoneaaW.PrintMore
attribute [local go_sem] e0z d8z e7z e6z d2z d1z d9z d7z
set_option linter.unusedVariables false
set_option linter.unusedSimpArgs false
def impl_SetOk.f (k : Nat) (l0 : List (S44)) : Option (Bool) := (impl_blocksOk.f k l0).bind fun t101 => (if t101 = true then ((impl_spans.f k l0).bind fun t102 => ((impl_set.f k t102).bind fun t105 => ((slices_Equal_Block.f k t105 l0).bind fun t108 => (some t108)))) else (some false))
set_option maxHeartbeats 8000000 in
set_option maxRecDepth 100000 in
theorem impl_SetOk.calls (k : Nat) (A0 : Option Addr) (c0 : Nat) (l0 : List (S44)) (r : Bool) (w : World) (hr0 : Kd.C k44 w A0 l0.length l0) (hc0 : l0.length ≤ c0) (h : impl_SetOk.f k l0 = some r) :
  Calls Try.prog 16 #[.slice A0 l0.length c0] w fun e w' => e = .returned (.bool r) ∧ Below w.heap.size w w' := by
 have HR0 := a1z.mk hr0
 have HC0 := a1z.mk hc0
 clear hr0 hc0
 have HB := a1z.mk (Below.refl w.heap.size w)
 have H : ((impl_blocksOk.f k l0).bind fun t101 => (if t101 = true then ((impl_spans.f k l0).bind fun t102 => ((impl_set.f k t102).bind fun t105 => ((slices_Equal_Block.f k t105 l0).bind fun t108 => (some t108)))) else (some false))) = some r := h
 clear h
 replace H := Option.bind_eq_some_iff.mp H
 obtain ⟨t101, A20, H⟩ := H
 replace H : (if t101 = true then ((impl_spans.f k l0).bind fun t102 => ((impl_set.f k t102).bind fun t105 => ((slices_Equal_Block.f k t105 l0).bind fun t108 => (some t108)))) else (some false)) = some r := H
 have A2 := a1z.mk A20
 clear A20
 by_cases c3 : t101 = true
 ·subst c3
  have H1 : ((impl_spans.f k l0).bind fun t102 => ((impl_set.f k t102).bind fun t105 => ((slices_Equal_Block.f k t105 l0).bind fun t108 => (some t108)))) = some r := by rw [if_pos rfl] at H; exact H
  clear H
  have H := H1
  clear H1
  replace H := Option.bind_eq_some_iff.mp H
  obtain ⟨t102, A40, H⟩ := H
  replace H : ((impl_set.f k t102).bind fun t105 => ((slices_Equal_Block.f k t105 l0).bind fun t108 => (some t108))) = some r := H
  have A4 := a1z.mk A40
  clear A40
  replace H := Option.bind_eq_some_iff.mp H
  obtain ⟨t105, A50, H⟩ := H
  replace H : ((slices_Equal_Block.f k t105 l0).bind fun t108 => (some t108)) = some r := H
  have A5 := a1z.mk A50
  clear A50
  replace H := Option.bind_eq_some_iff.mp H
  obtain ⟨t108, A60, H⟩ := H
  replace H : (some t108) = some r := H
  have A6 := a1z.mk A60
  clear A60
  obtain rfl := Option.some.inj H
  go_enter Try.func16, Try.ntmps16
  go_wp2_with (first | ((with_reducible refine b8z (f := 37) rfl ?_); refine c8z (some 4) rfl rfl Try.func37 (by kernel_rfl) rfl #[.slice A0 l0.length c0] rfl (by (try simp only [List.map_toArray, List.map_cons, List.map_nil]); first | done | rfl | (simp only [List.length_drop, List.length_take]; rfl)) ?_; (with_reducible refine (impl_blocksOk.calls k _ _ l0 true _ ?side1 ?side2 A2.1).mono ?_); (case side1 => repeat (first | exact HR0.1 | (with_reducible refine Kd.C_alloc ?_ _) | (with_reducible refine Kd.C_drewN ?_ _) | (with_reducible refine Kd.C_drew ?_))); (case side2 => exact HC0.1); rintro e w7 ⟨rfl, hb⟩; refine ⟨_, rfl, ?_⟩; have n0_ := a1z.mk (b3z (by repeat (first | (with_reducible first | exact HB.1 | apply a3z | apply a0z | apply a2z) | exact HB.1)) hb); clear HB; have HB := n0_; clear n0_; (try clear hb); (try clear hb2); (try clear hk); (try clear hi)) | (go_at_call 40; (with_reducible refine (impl_spans.calls k _ _ l0 t102 _ ?side1 ?side2 A4.1).mono ?_); (case side1 => repeat (first | exact (Kd.f2z HR0.1 HB.1) | (with_reducible refine Kd.C_alloc ?_ _) | (with_reducible refine Kd.C_drewN ?_ _) | (with_reducible refine Kd.C_drew ?_))); (case side2 => exact HC0.1); rintro e w8 ⟨v103, rfl, ho0, hb⟩; have n0_ := a1z.mk (Kd.d4z ho0 (b2z (by repeat (first | (with_reducible first | exact HB.1 | apply a3z | apply a0z | apply a2z) | exact HB.1)))); have n1_ := a1z.mk (b3z (by repeat (first | (with_reducible first | exact HB.1 | apply a3z | apply a0z | apply a2z) | exact HB.1)) hb); clear HB; have HO104 := n0_; have HB := n1_; clear n0_ n1_; (try clear hb); (try clear hb2); (try clear hk); (try clear hi); (try clear ho0); obtain ⟨Ao9, co9, eo9⟩ := Kd.e1z HO104.1; subst eo9) | (go_at_call 39; (with_reducible refine (impl_set.calls k _ _ t102 t105 _ ?side1 ?side2 A5.1).mono ?_); (case side1 => repeat (first | exact (Kd.c0z HO104.1).2.2 | (with_reducible refine Kd.C_alloc ?_ _) | (with_reducible refine Kd.C_drewN ?_ _) | (with_reducible refine Kd.C_drew ?_))); (case side2 => exact (Kd.c0z HO104.1).2.1); rintro e w10 ⟨v106, rfl, ho0, hb⟩; have n0_ := a1z.mk (Kd.c7z (by (with_reducible repeat (first | apply Kd.R_alloc | apply Kd.a4z | apply Kd.a5z)); exact HO104.1) hb); have n1_ := a1z.mk (Kd.d4z ho0 (b2z (by repeat (first | (with_reducible first | exact HB.1 | apply a3z | apply a0z | apply a2z) | exact HB.1)))); have n2_ := a1z.mk (b3z (by repeat (first | (with_reducible first | exact HB.1 | apply a3z | apply a0z | apply a2z) | exact HB.1)) hb); clear HO104; clear HB; have HO104 := n0_; have HO107 := n1_; have HB := n2_; clear n0_ n1_ n2_; (try clear hb); (try clear hb2); (try clear hk); (try clear hi); (try clear ho0); obtain ⟨Ao11, co11, eo11⟩ := Kd.e1z HO107.1; subst eo11) | (go_at_call 38; (with_reducible refine (slices_Equal_Block.calls k _ _ t105 _ _ l0 t108 _ ?side1 ?side2 ?side3 ?side4 A6.1).mono ?_); (case side1 => repeat (first | exact (Kd.c0z HO107.1).2.2 | (with_reducible refine Kd.C_alloc ?_ _) | (with_reducible refine Kd.C_drewN ?_ _) | (with_reducible refine Kd.C_drew ?_))); (case side2 => exact (Kd.c0z HO107.1).2.1); (case side3 => repeat (first | exact (Kd.f2z HR0.1 HB.1) | (with_reducible refine Kd.C_alloc ?_ _) | (with_reducible refine Kd.C_drewN ?_ _) | (with_reducible refine Kd.C_drew ?_))); (case side4 => exact HC0.1); rintro e w' ⟨rfl, ⟨nd, rfl⟩⟩))
  go_ret
  exact ⟨by first | rfl | (simp [c2z, c1z] <;> rfl) | (simp [*, c2z, c1z] <;> rfl), by repeat (first | (with_reducible first | exact HB.1 | apply a3z | apply a0z | apply a2z) | exact HB.1)⟩
 ·replace c3 := Bool.eq_false_iff.mpr c3
  subst c3
  have H1 : (some false) = some r := by rw [if_neg (show ¬ (false = true) by decide)] at H; exact H
  clear H
  have H := H1
  clear H1
  obtain rfl := Option.some.inj H
  go_enter Try.func16, Try.ntmps16
  go_wp2_with (first | ((with_reducible refine b8z (f := 37) rfl ?_); refine c8z (some 4) rfl rfl Try.func37 (by kernel_rfl) rfl #[.slice A0 l0.length c0] rfl (by (try simp only [List.map_toArray, List.map_cons, List.map_nil]); first | done | rfl | (simp only [List.length_drop, List.length_take]; rfl)) ?_; (with_reducible refine (impl_blocksOk.calls k _ _ l0 false _ ?side1 ?side2 A2.1).mono ?_); (case side1 => repeat (first | exact HR0.1 | (with_reducible refine Kd.C_alloc ?_ _) | (with_reducible refine Kd.C_drewN ?_ _) | (with_reducible refine Kd.C_drew ?_))); (case side2 => exact HC0.1); rintro e w12 ⟨rfl, hb⟩; refine ⟨_, rfl, ?_⟩; have n0_ := a1z.mk (b3z (by repeat (first | (with_reducible first | exact HB.1 | apply a3z | apply a0z | apply a2z) | exact HB.1)) hb); clear HB; have HB := n0_; clear n0_; (try clear hb); (try clear hb2); (try clear hk); (try clear hi)))
  go_ret
  exact ⟨by first | rfl | (simp [c2z, c1z] <;> rfl) | (simp [*, c2z, c1z] <;> rfl), by repeat (first | (with_reducible first | exact HB.1 | apply a3z | apply a0z | apply a2z) | exact HB.1)⟩
end Go.Proofs.Ytmdhedkgpgoneaa.Q

namespace Go.Proofs.Ytmdhedkgpgoneaa.Q
open Go.RowKit Go.Proofs.YtmdhedkgpgoneaaW.PrintWords Go.Proofs.YtmdhedkgpgoneaaW.PrintLast Go.Proofs.YtmdhedkgpgoneaaW.PrintMore
attribute [local go_sem] e0z d8z e7z e6z d2z d1z d9z d7z
set_option linter.unusedVariables false
set_option linter.unusedSimpArgs false
def impl_SetSize.l0 : Nat → Int → List (S44) → Int → Int → Option (Int)
 | 0, _, _, _, _ => none
 | k + 1, x3, x9, x10, x11 => if x11 < x10 then (if 0 ≤ x11 then (if x11 < (x9.length : Int) then ((impl_Block_size.f ((b4z x9 x11).f0) ((b4z x9 x11).f1)).bind fun t104 => (impl_SetSize.l0 k (wrap64 (x3 + t104)) x9 x10 (wrap64 (x11 + 1)))) else (none)) else (none)) else (some x3)
def impl_SetSize.f (k : Nat) (l0 : List (S44)) : Option (Int) := (impl_SetOk.f k l0).bind fun t101 => (if t101 = true then (impl_SetSize.l0 k 0 l0 (l0.length : Int) 0) else (some 0))
set_option maxHeartbeats 8000000 in
set_option maxRecDepth 100000 in
theorem impl_SetSize.calls (k : Nat) (A0 : Option Addr) (c0 : Nat) (l0 : List (S44)) (r : Int) (w : World) (hr0 : Kd.C k44 w A0 l0.length l0) (hc0 : l0.length ≤ c0) (h : impl_SetSize.f k l0 = some r) :
  Calls Try.prog 23 #[.slice A0 l0.length c0] w fun e w' => e = .returned (.int .i64 r) ∧ Below w.heap.size w w' := by
 have hu44 := Try.underlying44
 have HR0 := a1z.mk hr0
 have HC0 := a1z.mk hc0
 clear hr0 hc0
 have HB := a1z.mk (Below.refl w.heap.size w)
 have H : ((impl_SetOk.f k l0).bind fun t101 => (if t101 = true then (impl_SetSize.l0 k 0 l0 (l0.length : Int) 0) else (some 0))) = some r := h
 clear h
 replace H := Option.bind_eq_some_iff.mp H
 obtain ⟨t101, A20, H⟩ := H
 replace H : (if t101 = true then (impl_SetSize.l0 k 0 l0 (l0.length : Int) 0) else (some 0)) = some r := H
 have A2 := a1z.mk A20
 clear A20
 by_cases c3 : t101 = true
 ·subst c3
  have H1 : (impl_SetSize.l0 k 0 l0 (l0.length : Int) 0) = some r := by rw [if_pos rfl] at H; exact H
  clear H
  have H := H1
  clear H1
  have H' := a1z.mk H
  clear H
  go_enter Try.func23, Try.ntmps23
  go_wp2_with (first | ((with_reducible refine b8z (f := 16) rfl ?_); refine c8z (some 7) rfl rfl Try.func16 (by kernel_rfl) rfl #[.slice A0 l0.length c0] rfl (by (try simp only [List.map_toArray, List.map_cons, List.map_nil]); first | done | rfl | (simp only [List.length_drop, List.length_take]; rfl)) ?_; (with_reducible refine (impl_SetOk.calls k _ _ l0 true _ ?side1 ?side2 A2.1).mono ?_); (case side1 => repeat (first | exact HR0.1 | (with_reducible refine Kd.C_alloc ?_ _) | (with_reducible refine Kd.C_drewN ?_ _) | (with_reducible refine Kd.C_drew ?_))); (case side2 => exact HC0.1); rintro e w4 ⟨rfl, hb⟩; refine ⟨_, rfl, ?_⟩; have n0_ := a1z.mk (b3z (by repeat (first | (with_reducible first | exact HB.1 | apply a3z | apply a0z | apply a2z) | exact HB.1)) hb); clear HB; have HB := n0_; clear n0_; (try clear hb); (try clear hb2); (try clear hk); (try clear hi)))
  go_loopg [3, 11] k (fun kq v3 v11 w' => ∃ (x3_1 : Int) (x11_1 : Int), v3 = .int .i64 x3_1 ∧ v11 = .int .i64 x11_1 ∧ a1z (impl_SetSize.l0 kq x3_1 l0 (l0.length : Int) x11_1 = some r) ∧ a1z (kq ≤ k) ∧ a1z (Below w.heap.size w w'))
  case atStart => exact ⟨(0), (0), (by first | rfl | (simp; done) | (simp [*]; done)), (by first | rfl | (simp; done) | (simp [*]; done)), H', ⟨Nat.le_refl _⟩, ⟨by repeat (first | (with_reducible first | exact HB.1 | apply a3z | apply a0z | apply a2z) | exact HB.1)⟩⟩
  case round =>
   clear H'
   try clear c1
   try clear c2
   try clear p2
   try clear c3
   obtain ⟨x3_1, x11_1, rfl, rfl, HA, HK1, HB⟩ := hrel
   cases gk with
   | zero => exact absurd HA.1 (by simp [impl_SetSize.l0])
   | succ k1 =>
    have H := HA.1
    clear HA
    simp only [impl_SetSize.l0] at H
    by_cases c5 : x11_1 < (l0.length : Int)
    ·rw [if_pos c5] at H
     have c5b0 : decide (x11_1 < (l0.length : Int)) = true := decide_eq_true c5
     clear c5
     by_cases c6 : 0 ≤ x11_1
     ·rw [if_pos c6] at H
      have c6b0 : decide (0 ≤ x11_1) = true := decide_eq_true c6
      clear c6
      by_cases c7 : x11_1 < (l0.length : Int)
      ·rw [if_pos c7] at H
       have c7b0 : decide (x11_1 < (l0.length : Int)) = true := decide_eq_true c7
       clear c7
       replace H := Option.bind_eq_some_iff.mp H
       obtain ⟨t104, A80, H⟩ := H
       replace H : (impl_SetSize.l0 k1 (wrap64 (x3_1 + t104)) l0 (l0.length : Int) (wrap64 (x11_1 + 1))) = some r := H
       have A8 := a1z.mk A80
       clear A80
       have H' := a1z.mk H
       clear H
       have p102 : 0 ≤ (x11_1 : Int) := of_decide_eq_true (by first | (with_reducible assumption) | assumption)
       have q102 : x11_1 < (l0.length : Int) := of_decide_eq_true (by first | (with_reducible assumption) | assumption)
       obtain ⟨ad102, e102, hx102_0, hx102_1⟩ := h1z HR0.1 x11_1 p102 q102
       cases e102
       replace hx102_0 := (HB.1.cell (World.block_lt_of_cell? w _ hx102_0)).trans hx102_0
       replace hx102_1 := (HB.1.cell (World.block_lt_of_cell? w _ hx102_1)).trans hx102_1
       replace p102 := eq_true p102
       replace q102 := eq_true q102
       go_wp2_with (first | ((with_reducible refine d3z (N := 5) rfl ?_); refine d6z ?hg (N := 5) ?hd (cs := #[.int .i64 0, .int .i64 0]) (t := 44) ?hr ?_; (case hd => rfl); (case hg => rfl); (case hr => first | (go_simp; done) | (go_simp; rfl)); intro gb103 hg w9 hbox hb; have n0_ := a1z.mk (b3z (by repeat (first | (with_reducible first | exact HB.1 | apply a3z | apply a0z | apply a2z) | exact HB.1)) hb); have n1_ := a1z.mk (hbox); have n2_ := a1z.mk ((by rw [hg]; exact (b2z (by repeat (first | (with_reducible first | exact HB.1 | apply a3z | apply a0z | apply a2z) | exact HB.1))) : w.heap.size ≤ gb103)); have n3_ := a1z.mk ((by rw [hg]; exact (b2z (by repeat (first | (with_reducible first | exact HB.1 | apply a3z | apply a0z | apply a2z) | exact HB.1))) : w.heap.size ≤ gb103)); clear HB; have HB := n0_; have BK103 := n1_; have GW103 := n2_; have GE103 := n3_; clear n0_ n1_ n2_ n3_; clear hb hbox hg; have hcz10_0 : w9.cell? ⟨gb103, 0, none⟩ = some (.int .i64 0) := (b1z BK103.1 0).trans rfl; have hcz10_1 : w9.cell? ⟨gb103, 1, none⟩ = some (.int .i64 0) := (b1z BK103.1 1).trans rfl; have hfz10_0 := b5z BK103.1 0; have hfz10_1 := b5z BK103.1 1) | ((with_reducible refine b8z (f := 45) rfl ?_); refine c8z (some 17) rfl rfl Try.func45 (by kernel_rfl) rfl #[.agg #[.int .i64 ((b4z l0 x11_1).f0), .int .i64 ((b4z l0 x11_1).f1)]] rfl (by (try simp only [List.map_toArray, List.map_cons, List.map_nil]); first | done | rfl | (simp only [List.length_drop, List.length_take]; rfl)) ?_; (with_reducible refine (impl_Block_size.calls ((b4z l0 x11_1).f0) ((b4z l0 x11_1).f1) t104 _ A8.1).mono ?_); rintro e w11 ⟨rfl, hb⟩; refine ⟨_, rfl, ?_⟩; have n0_ := a1z.mk (d5z (g := gb103) (o := .cells #[.int .i64 ((b4z l0 x11_1).f0), .int .i64 ((b4z l0 x11_1).f1)] 44 (0, 0)) (by (with_reducible repeat (first | refine a8z ?_ _ | refine a9z ?_ | refine a7z ?_ _)); refine d0z (cs := #[.int .i64 ((b4z l0 x11_1).f0), .int .i64 0]) ?_ 1 _ rfl; (with_reducible repeat (first | refine a8z ?_ _ | refine a9z ?_ | refine a7z ?_ _)); refine d0z (cs := #[.int .i64 0, .int .i64 0]) ?_ 0 _ rfl; (with_reducible repeat (first | refine a8z ?_ _ | refine a9z ?_ | refine a7z ?_ _)); exact BK103.1) hb); have n1_ := a1z.mk (b3z (by repeat (first | (with_reducible first | exact HB.1 | apply a3z | apply a0z | apply a2z | refine a6z ?_ GE103.1) | exact HB.1)) hb); clear BK103; clear HB; have BK103 := n0_; have HB := n1_; clear n0_ n1_; (try clear hb); (try clear hb2); (try clear hk); (try clear hi)))
       go_roundg k1
       case measure => have := HK1.1; omega
       case rel => exact ⟨(wrap64 (x3_1 + t104)), (wrap64 (x11_1 + 1)), (by first | rfl | (simp; done) | (simp [*]; done)), (by first | rfl | (simp; done) | (simp [*]; done)), H', ⟨by have := HK1.1; omega⟩, ⟨by repeat (first | (with_reducible first | exact HB.1 | apply a3z | apply a0z | apply a2z | refine a6z ?_ GE103.1) | exact HB.1)⟩⟩
      ·rw [if_neg c7] at H
       exact absurd H (by simp)
     ·rw [if_neg c6] at H
      exact absurd H (by simp)
    ·rw [if_neg c5] at H
     have c5b0 : decide (x11_1 < (l0.length : Int)) = false := decide_eq_false c5
     clear c5
     obtain rfl := Option.some.inj H
     go_wp2
     go_ret
     exact ⟨by first | rfl | (simp [c2z, c1z] <;> rfl) | (simp [*, c2z, c1z] <;> rfl), by repeat (first | (with_reducible first | exact HB.1 | apply a3z | apply a0z | apply a2z) | exact HB.1)⟩
 ·replace c3 := Bool.eq_false_iff.mpr c3
  subst c3
  have H1 : (some 0) = some r := by rw [if_neg (show ¬ (false = true) by decide)] at H; exact H
  clear H
  have H := H1
  clear H1
  obtain rfl := Option.some.inj H
  go_enter Try.func23, Try.ntmps23
  go_wp2_with (first | ((with_reducible refine b8z (f := 16) rfl ?_); refine c8z (some 7) rfl rfl Try.func16 (by kernel_rfl) rfl #[.slice A0 l0.length c0] rfl (by (try simp only [List.map_toArray, List.map_cons, List.map_nil]); first | done | rfl | (simp only [List.length_drop, List.length_take]; rfl)) ?_; (with_reducible refine (impl_SetOk.calls k _ _ l0 false _ ?side1 ?side2 A2.1).mono ?_); (case side1 => repeat (first | exact HR0.1 | (with_reducible refine Kd.C_alloc ?_ _) | (with_reducible refine Kd.C_drewN ?_ _) | (with_reducible refine Kd.C_drew ?_))); (case side2 => exact HC0.1); rintro e w12 ⟨rfl, hb⟩; refine ⟨_, rfl, ?_⟩; have n0_ := a1z.mk (b3z (by repeat (first | (with_reducible first | exact HB.1 | apply a3z | apply a0z | apply a2z) | exact HB.1)) hb); clear HB; have HB := n0_; clear n0_; (try clear hb); (try clear hb2); (try clear hk); (try clear hi)))
  go_ret
  exact ⟨by first | rfl | (simp [c2z, c1z] <;> rfl) | (simp [*, c2z, c1z] <;> rfl), by repeat (first | (with_reducible first | exact HB.1 | apply a3z | apply a0z | apply a2z) | exact HB.1)⟩
end Go.Proofs.Ytmdhedkgpgoneaa.Q

namespace Go.Proofs.Ytmdhedkgpgoneaa.Q
open Go.RowKit Go.Proofs.YtmdhedkgpgoneaaW.PrintWords Go.Proofs.YtmdhedkgpgoneaaW.PrintLast Go.Proofs.YtmdhedkgpgoneaaW.PrintMore
attribute [local go_sem] e0z d8z e7z e6z d2z d1z d9z d7z
set_option linter.unusedVariables false
set_option linter.unusedSimpArgs false
def impl_limited.f (l0 : List (S44)) : Option ((List (S44)) × Bool) := if (l0.length : Int) > 64 then (some (([] : List (S44)), false)) else (some (l0, true))
set_option maxHeartbeats 8000000 in
set_option maxRecDepth 100000 in
theorem impl_limited.calls (P0_ : Nat → Prop) (u9000_ : Value) (l0 : List (S44)) (r1 : List (S44)) (r2 : Bool) (w0 w : World) (hB : Below w0.heap.size w0 w) (ho0 : Kd.R k44 44 w w0.heap.size P0_ u9000_ l0) (h : impl_limited.f l0 = some (r1, r2)) :
  Calls Try.prog 43 #[u9000_] w fun e w' => ∃ v0_ : Value, e = .returned (.tuple #[v0_, .bool r2]) ∧ Kd.R k44 44 w' w0.heap.size (fun k_ => (P0_ k_ ∨ w.heap.size ≤ k_)) v0_ r1 ∧ Below w0.heap.size w0 w' ∧ Kept w w' (fun k_ => P0_ k_) := by
 have HO0 := a1z.mk (show Kd.R k44 44 w w0.heap.size (fun k_ => (P0_ k_ ∨ w.heap.size ≤ k_)) u9000_ l0 from Kd.b9z ho0 (fun k_ hk => (.inl hk)))
 have HK := a1z.mk (Kept.refl w (fun k_ => P0_ k_))
 have HW0 := a1z.mk hB.size
 have HB := a1z.mk hB
 clear hB
 have H : (if (l0.length : Int) > 64 then (some (([] : List (S44)), false)) else (some (l0, true))) = some (r1, r2) := h
 clear h
 by_cases c2 : (l0.length : Int) > 64
 ·rw [if_pos c2] at H
  have c2b0 : decide (64 < (l0.length : Int)) = true := decide_eq_true c2
  have c2b1 : decide (64 < l0.length) = true := decide_eq_true (by omega)
  clear c2
  simp only [Option.some.injEq, Prod.mk.injEq] at H
  obtain ⟨rfl, rfl⟩ := H
  obtain ⟨Ao3, co3, eo3⟩ := Kd.e1z HO0.1
  subst eo3
  go_enter Try.func43, Try.ntmps43
  go_wp2
  go_ret2
  exact ⟨_, by first | rfl | (simp [c2z, c1z] <;> rfl) | (simp [*, c2z, c1z] <;> rfl), by first | exact Kd.R_nil _ _ _ _ _ | exact Kd.N_nil _ _ _ _ _ | exact Kd.V_nil _ _ _ _ _ | exact Kd.Q_nil _ _ _ _ _ | exact Kd.S_nil _ _ _ _ _, by repeat (first | (with_reducible first | exact HB.1 | apply a3z | apply a0z | apply a2z) | exact HB.1), by repeat (first | (with_reducible first | exact HK.1 | apply Kept.alloc | apply Kept.drewN | apply Kept.drew) | exact HK.1)⟩
 ·rw [if_neg c2] at H
  have c2b0 : decide (64 < (l0.length : Int)) = false := decide_eq_false c2
  have c2b1 : decide (64 < l0.length) = false := decide_eq_false (by omega)
  clear c2
  simp only [Option.some.injEq, Prod.mk.injEq] at H
  obtain ⟨rfl, rfl⟩ := H
  obtain ⟨Ao4, co4, eo4⟩ := Kd.e1z HO0.1
  subst eo4
  go_enter Try.func43, Try.ntmps43
  go_wp2
  go_ret2
  exact ⟨_, by first | rfl | (simp [c2z, c1z] <;> rfl) | (simp [*, c2z, c1z] <;> rfl), by (with_reducible repeat (first | apply Kd.R_alloc | apply Kd.a4z | apply Kd.a5z)); exact HO0.1, by repeat (first | (with_reducible first | exact HB.1 | apply a3z | apply a0z | apply a2z) | exact HB.1), by repeat (first | (with_reducible first | exact HK.1 | apply Kept.alloc | apply Kept.drewN | apply Kept.drew) | exact HK.1)⟩
end Go.Proofs.Ytmdhedkgpgoneaa.Q

namespace Go.Proofs.Ytmdhedkgpgoneaa.Q
open Go.RowKit Go.Proofs.YtmdhedkgpgoneaaW.PrintWords Go.Proofs.YtmdhedkgpgoneaaW.PrintLast Go.Proofs.YtmdhedkgpgoneaaW.PrintMore
attribute [local go_sem] e0z d8z e7z e6z d2z d1z d9z d7z
set_option linter.unusedVariables false
set_option linter.unusedSimpArgs false
mutual
def impl_SetBoth.j0 : Nat → List (S44) → List (S44) → Bool → Option ((List (S44)) × Bool)
 | 0, _, _, _ => none
 | k + 1, x0, x1, x19 => if x19 = true then (some (([] : List (S44)), false)) else ((impl_spans.f k x0).bind fun t103 => (impl_SetBoth.l0 k x1 ([] : List (S55)) t103 (t103.length : Int) 0))
def impl_SetBoth.l0 : Nat → List (S44) → List (S55) → List (S55) → Int → Int → Option ((List (S44)) × Bool)
 | 0, _, _, _, _, _ => none
 | k + 1, x1, x6, x21, x22, x23 => if x23 < x22 then (if 0 ≤ x23 then (if x23 < (x21.length : Int) then ((impl_spans.f k x1).bind fun t115 => (impl_SetBoth.l1 k x1 x6 x21 x22 x23 t115 (t115.length : Int) 0 ((b0z x21 x23).f0) ((b0z x21 x23).f1))) else (none)) else (none)) else ((impl_set.f k x6).bind fun t106 => ((impl_limited.f t106).bind fun bt109 => (some (bt109.1, bt109.2))))
def impl_SetBoth.l1 : Nat → List (S44) → List (S55) → List (S55) → Int → Int → List (S55) → Int → Int → Int → Int → Option ((List (S44)) × Bool)
 | 0, _, _, _, _, _, _, _, _, _, _ => none
 | k + 1, x1, x6, x21, x22, x23, x28, x29, x30, x115000, x115001 => if x30 < x29 then (if 0 ≤ x30 then (if x30 < (x28.length : Int) then (if (mx x115000 ((b0z x28 x30).f0)) ≤ (mn x115001 ((b0z x28 x30).f1)) then (if x6.length < 8796093022208 then (impl_SetBoth.l1 k x1 (x6 ++ [(⟨mx x115000 ((b0z x28 x30).f0), mn x115001 ((b0z x28 x30).f1)⟩ : S55)]) x21 x22 x23 x28 x29 (wrap64 (x30 + 1)) x115000 x115001) else (none)) else (impl_SetBoth.l1 k x1 x6 x21 x22 x23 x28 x29 (wrap64 (x30 + 1)) x115000 x115001)) else (none)) else (none)) else (impl_SetBoth.l0 k x1 x6 x21 x22 (wrap64 (x23 + 1)))
end
def impl_SetBoth.f (k : Nat) (l0 : List (S44)) (l1 : List (S44)) : Option ((List (S44)) × Bool) := (impl_SetOk.f k l0).bind fun t101 => (if t101 = true then ((impl_SetOk.f k l1).bind fun t102 => (impl_SetBoth.j0 k l0 l1 (!t102))) else (impl_SetBoth.j0 k l0 l1 true))
set_option maxHeartbeats 8000000 in
set_option maxRecDepth 100000 in
theorem impl_SetBoth.calls (k : Nat) (A0 : Option Addr) (c0 : Nat) (l0 : List (S44)) (A1 : Option Addr) (c1 : Nat) (l1 : List (S44)) (r1 : List (S44)) (r2 : Bool) (w : World) (hr0 : Kd.C k44 w A0 l0.length l0) (hc0 : l0.length ≤ c0) (hr1 : Kd.C k44 w A1 l1.length l1) (hc1 : l1.length ≤ c1) (h : impl_SetBoth.f k l0 l1 = some (r1, r2)) :
  Calls Try.prog 25 #[.slice A0 l0.length c0, .slice A1 l1.length c1] w fun e w' => ∃ v0_ : Value, e = .returned (.tuple #[v0_, .bool r2]) ∧ Kd.R k44 44 w' w.heap.size (fun _ => True) v0_ r1 ∧ Below w.heap.size w w' := by
 have hu55 := Try.underlying55
 have HR0 := a1z.mk hr0
 have HC0 := a1z.mk hc0
 clear hr0 hc0
 have HR1 := a1z.mk hr1
 have HC1 := a1z.mk hc1
 clear hr1 hc1
 have HB := a1z.mk (Below.refl w.heap.size w)
 have H : ((impl_SetOk.f k l0).bind fun t101 => (if t101 = true then ((impl_SetOk.f k l1).bind fun t102 => (impl_SetBoth.j0 k l0 l1 (!t102))) else (impl_SetBoth.j0 k l0 l1 true))) = some (r1, r2) := h
 clear h
 have HC3 := a1z.mk H
 clear H
 go_enter Try.func25, Try.ntmps25
 go_upto_region 1 with (fail)
 go_cut [19] (fun v19 wc => ∃ (kq : Nat) (x19_2 : Bool), v19 = .bool x19_2 ∧ a1z (impl_SetBoth.j0 kq l0 l1 x19_2 = some (r1, r2)) ∧ a1z (kq ≤ k) ∧ a1z (Below w.heap.size w wc))
 case first =>
  have H := HC3.1
  clear HC3
  replace H := Option.bind_eq_some_iff.mp H
  obtain ⟨t101, A40, H⟩ := H
  replace H : (if t101 = true then ((impl_SetOk.f k l1).bind fun t102 => (impl_SetBoth.j0 k l0 l1 (!t102))) else (impl_SetBoth.j0 k l0 l1 true)) = some (r1, r2) := H
  have A4 := a1z.mk A40
  clear A40
  by_cases c5 : t101 = true
  ·subst c5
   have H1 : ((impl_SetOk.f k l1).bind fun t102 => (impl_SetBoth.j0 k l0 l1 (!t102))) = some (r1, r2) := by rw [if_pos rfl] at H; exact H
   clear H
   have H := H1
   clear H1
   replace H := Option.bind_eq_some_iff.mp H
   obtain ⟨t102, A60, H⟩ := H
   replace H : (impl_SetBoth.j0 k l0 l1 (!t102)) = some (r1, r2) := H
   have A6 := a1z.mk A60
   clear A60
   have H' := a1z.mk H
   clear H
   go_wp2_with (first | ((with_reducible refine b8z (f := 16) rfl ?_); refine c8z (some 13) rfl rfl Try.func16 (by kernel_rfl) rfl #[.slice A0 l0.length c0] rfl (by (try simp only [List.map_toArray, List.map_cons, List.map_nil]); first | done | rfl | (simp only [List.length_drop, List.length_take]; rfl)) ?_; (with_reducible refine (impl_SetOk.calls k _ _ l0 true _ ?side1 ?side2 A4.1).mono ?_); (case side1 => repeat (first | exact (Kd.f2z HR0.1 HB.1) | (with_reducible refine Kd.C_alloc ?_ _) | (with_reducible refine Kd.C_drewN ?_ _) | (with_reducible refine Kd.C_drew ?_))); (case side2 => exact HC0.1); rintro e w7 ⟨rfl, hb⟩; refine ⟨_, rfl, ?_⟩; have n0_ := a1z.mk (b3z (by repeat (first | (with_reducible first | exact HB.1 | apply a3z | apply a0z | apply a2z) | exact HB.1)) hb); clear HB; have HB := n0_; clear n0_; (try clear hb); (try clear hb2); (try clear hk); (try clear hi)) | (go_at_call 16; (with_reducible refine (impl_SetOk.calls k _ _ l1 t102 _ ?side1 ?side2 A6.1).mono ?_); (case side1 => repeat (first | exact (Kd.f2z HR1.1 HB.1) | (with_reducible refine Kd.C_alloc ?_ _) | (with_reducible refine Kd.C_drewN ?_ _) | (with_reducible refine Kd.C_drew ?_))); (case side2 => exact HC1.1); rintro e w8 ⟨rfl, hb⟩; have n0_ := a1z.mk (b3z (by repeat (first | (with_reducible first | exact HB.1 | apply a3z | apply a0z | apply a2z) | exact HB.1)) hb); clear HB; have HB := n0_; clear n0_; (try clear hb); (try clear hb2); (try clear hk); (try clear hi)))
   go_meet
   case rel => exact ⟨_, (!t102), (by first | rfl | (simp; done) | (simp [*]; done)), H', ⟨by first | omega | exact Nat.le_refl _⟩, ⟨by repeat (first | (with_reducible first | exact HB.1 | apply a3z | apply a0z | apply a2z) | exact HB.1)⟩⟩
  ·replace c5 := Bool.eq_false_iff.mpr c5
   subst c5
   have H1 : (impl_SetBoth.j0 k l0 l1 true) = some (r1, r2) := by rw [if_neg (show ¬ (false = true) by decide)] at H; exact H
   clear H
   have H := H1
   clear H1
   have H' := a1z.mk H
   clear H
   go_wp2_with (first | ((with_reducible refine b8z (f := 16) rfl ?_); refine c8z (some 13) rfl rfl Try.func16 (by kernel_rfl) rfl #[.slice A0 l0.length c0] rfl (by (try simp only [List.map_toArray, List.map_cons, List.map_nil]); first | done | rfl | (simp only [List.length_drop, List.length_take]; rfl)) ?_; (with_reducible refine (impl_SetOk.calls k _ _ l0 false _ ?side1 ?side2 A4.1).mono ?_); (case side1 => repeat (first | exact (Kd.f2z HR0.1 HB.1) | (with_reducible refine Kd.C_alloc ?_ _) | (with_reducible refine Kd.C_drewN ?_ _) | (with_reducible refine Kd.C_drew ?_))); (case side2 => exact HC0.1); rintro e w9 ⟨rfl, hb⟩; refine ⟨_, rfl, ?_⟩; have n0_ := a1z.mk (b3z (by repeat (first | (with_reducible first | exact HB.1 | apply a3z | apply a0z | apply a2z) | exact HB.1)) hb); clear HB; have HB := n0_; clear n0_; (try clear hb); (try clear hb2); (try clear hk); (try clear hi)))
   go_meet
   case rel => exact ⟨_, (true), (by first | rfl | (simp; done) | (simp [*]; done)), H', ⟨by first | omega | exact Nat.le_refl _⟩, ⟨by repeat (first | (with_reducible first | exact HB.1 | apply a3z | apply a0z | apply a2z) | exact HB.1)⟩⟩
 case rest =>
  clear HC3
  try clear c1
  try clear c2
  try clear p2
  try clear c5
  obtain ⟨kq, x19_2, rfl, HA, HJ2, HB⟩ := hcut
  cases kq with
  | zero => exact absurd HA.1 (by simp [impl_SetBoth.j0])
  | succ kj2 =>
   have H := HA.1
   clear HA
   simp only [impl_SetBoth.j0] at H
   by_cases c10 : x19_2 = true
   ·subst c10
    have H1 : (some (([] : List (S44)), false)) = some (r1, r2) := by rw [if_pos rfl] at H; exact H
    clear H
    have H := H1
    clear H1
    simp only [Option.some.injEq, Prod.mk.injEq] at H
    obtain ⟨rfl, rfl⟩ := H
    go_wp2
    go_ret2
    exact ⟨_, by first | rfl | (simp [c2z, c1z] <;> rfl) | (simp [*, c2z, c1z] <;> rfl), by first | exact Kd.R_nil _ _ _ _ _ | exact Kd.N_nil _ _ _ _ _ | exact Kd.V_nil _ _ _ _ _ | exact Kd.Q_nil _ _ _ _ _ | exact Kd.S_nil _ _ _ _ _, by repeat (first | (with_reducible first | exact HB.1 | apply a3z | apply a0z | apply a2z) | exact HB.1)⟩
   ·replace c10 := Bool.eq_false_iff.mpr c10
    subst c10
    have H1 : ((impl_spans.f kj2 l0).bind fun t103 => (impl_SetBoth.l0 kj2 l1 ([] : List (S55)) t103 (t103.length : Int) 0)) = some (r1, r2) := by rw [if_neg (show ¬ (false = true) by decide)] at H; exact H
    clear H
    have H := H1
    clear H1
    replace H := Option.bind_eq_some_iff.mp H
    obtain ⟨t103, A110, H⟩ := H
    replace H : (impl_SetBoth.l0 kj2 l1 ([] : List (S55)) t103 (t103.length : Int) 0) = some (r1, r2) := H
    have A11 := a1z.mk A110
    clear A110
    have H' := a1z.mk H
    clear H
    go_wp2_with (first | ((with_reducible refine b8z (f := 40) rfl ?_); refine c8z (some 21) rfl rfl Try.func40 (by kernel_rfl) rfl #[.slice A0 l0.length c0] rfl (by (try simp only [List.map_toArray, List.map_cons, List.map_nil]); first | done | rfl | (simp only [List.length_drop, List.length_take]; rfl)) ?_; (with_reducible refine (impl_spans.calls kj2 _ _ l0 t103 _ ?side1 ?side2 A11.1).mono ?_); (case side1 => repeat (first | exact (Kd.f2z HR0.1 HB.1) | (with_reducible refine Kd.C_alloc ?_ _) | (with_reducible refine Kd.C_drewN ?_ _) | (with_reducible refine Kd.C_drew ?_))); (case side2 => exact HC0.1); rintro e w12 ⟨v104, rfl, ho0, hb⟩; refine ⟨_, rfl, ?_⟩; have n0_ := a1z.mk (Kd.d4z ho0 (b2z (by repeat (first | (with_reducible first | exact HB.1 | apply a3z | apply a0z | apply a2z) | exact HB.1)))); have n1_ := a1z.mk (b3z (by repeat (first | (with_reducible first | exact HB.1 | apply a3z | apply a0z | apply a2z) | exact HB.1)) hb); clear HB; have HO105 := n0_; have HB := n1_; clear n0_ n1_; (try clear hb); (try clear hb2); (try clear hk); (try clear hi); (try clear ho0); obtain ⟨Ao13, co13, eo13⟩ := Kd.e1z HO105.1; subst eo13))
    go_loopg [6, 23] kj2 (fun kq v6 v23 w' => ∃ (x6_2 : List (S55)) (x23_2 : Int), v23 = .int .i64 x23_2 ∧ a1z (impl_SetBoth.l0 kq l1 x6_2 t103 (t103.length : Int) x23_2 = some (r1, r2)) ∧ a1z (kq ≤ kj2) ∧ a1z (Kd.R k55 55 w' w.heap.size (fun k_ => some k_ ≠ ((.slice Ao13 t103.length co13) : Value).ownBlock) v6 x6_2) ∧ a1z (Kd.R k55 55 w' w.heap.size (fun k_ => some k_ ≠ (v6 : Value).ownBlock) (.slice Ao13 t103.length co13) t103) ∧ a1z (Below w.heap.size w w'))
    case atStart => exact ⟨(([] : List (S55))), (0), (by first | rfl | (simp; done) | (simp [*]; done)), H', ⟨Nat.le_refl _⟩, ⟨by first | exact Kd.R_nil _ _ _ _ _ | exact Kd.N_nil _ _ _ _ _ | exact Kd.V_nil _ _ _ _ _ | exact Kd.Q_nil _ _ _ _ _ | exact Kd.S_nil _ _ _ _ _⟩, ⟨by (with_reducible repeat (first | apply Kd.R_alloc | apply Kd.a4z | apply Kd.a5z)); exact Kd.b9z HO105.1 (fun _ hk => (by simp [Value.ownBlock]))⟩, ⟨by repeat (first | (with_reducible first | exact HB.1 | apply a3z | apply a0z | apply a2z) | exact HB.1)⟩⟩
    case round =>
     clear H'
     try clear c1
     try clear c2
     try clear p2
     try clear c4
     try clear c5
     try clear c10
     try clear p2
     obtain ⟨x6_2, x23_2, rfl, HA, HK2, HO_6, HO_21, HB⟩ := hrel
     cases gk with
     | zero => exact absurd HA.1 (by simp [impl_SetBoth.l0])
     | succ k2 =>
      have H := HA.1
      clear HA
      simp only [impl_SetBoth.l0] at H
      by_cases c14 : x23_2 < (t103.length : Int)
      ·rw [if_pos c14] at H
       have c14b0 : decide (x23_2 < (t103.length : Int)) = true := decide_eq_true c14
       clear c14
       by_cases c15 : 0 ≤ x23_2
       ·rw [if_pos c15] at H
        have c15b0 : decide (0 ≤ x23_2) = true := decide_eq_true c15
        clear c15
        by_cases c16 : x23_2 < (t103.length : Int)
        ·rw [if_pos c16] at H
         have c16b0 : decide (x23_2 < (t103.length : Int)) = true := decide_eq_true c16
         clear c16
         replace H := Option.bind_eq_some_iff.mp H
         obtain ⟨t115, A170, H⟩ := H
         replace H : (impl_SetBoth.l1 k2 l1 x6_2 t103 (t103.length : Int) x23_2 t115 (t115.length : Int) 0 ((b0z t103 x23_2).f0) ((b0z t103 x23_2).f1)) = some (r1, r2) := H
         have A17 := a1z.mk A170
         clear A170
         have H' := a1z.mk H
         clear H
         have p113 : 0 ≤ (x23_2 : Int) := of_decide_eq_true (by first | (with_reducible assumption) | assumption)
         have q113 : x23_2 < (t103.length : Int) := of_decide_eq_true (by first | (with_reducible assumption) | assumption)
         obtain ⟨ad113, e113, hx113_0, hx113_1⟩ := i5z (Kd.c0z HO_21.1).2.2 x23_2 p113 q113
         cases e113
         replace p113 := eq_true p113
         replace q113 := eq_true q113
         go_wp2_with (first | ((with_reducible refine d3z (N := 8) rfl ?_); refine d6z ?hg (N := 8) ?hd (cs := #[.int .i64 0, .int .i64 0]) (t := 55) ?hr ?_; (case hd => rfl); (case hg => rfl); (case hr => first | (go_simp; done) | (go_simp; rfl)); intro gb114 hg w18 hbox hb; have n0_ := a1z.mk (Kd.c7z (Kd.f4z (by (with_reducible repeat (first | apply Kd.R_alloc | apply Kd.a4z | apply Kd.a5z)); exact HO_6.1) gb114 (Nat.le_of_eq hg.symm)) hb); have n1_ := a1z.mk (Kd.c7z (Kd.f4z (by (with_reducible repeat (first | apply Kd.R_alloc | apply Kd.a4z | apply Kd.a5z)); exact HO_21.1) gb114 (Nat.le_of_eq hg.symm)) hb); have n2_ := a1z.mk (b3z (by repeat (first | (with_reducible first | exact HB.1 | apply a3z | apply a0z | apply a2z) | exact HB.1)) hb); have n3_ := a1z.mk (hbox); have n4_ := a1z.mk ((by rw [hg]; exact (b2z (by repeat (first | (with_reducible first | exact HB.1 | apply a3z | apply a0z | apply a2z) | exact HB.1))) : w.heap.size ≤ gb114)); have n5_ := a1z.mk ((by rw [hg]; exact (b2z (by repeat (first | (with_reducible first | exact HB.1 | apply a3z | apply a0z | apply a2z) | exact HB.1))) : w.heap.size ≤ gb114)); clear HO_6; clear HO_21; clear HB; have HO_6 := n0_; have HO_21 := n1_; have HB := n2_; have BK114 := n3_; have GW114 := n4_; have GE114 := n5_; clear n0_ n1_ n2_ n3_ n4_ n5_; clear hb hbox hg; have hcz19_0 : w18.cell? ⟨gb114, 0, none⟩ = some (.int .i64 0) := (b1z BK114.1 0).trans rfl; have hcz19_1 : w18.cell? ⟨gb114, 1, none⟩ = some (.int .i64 0) := (b1z BK114.1 1).trans rfl; have hfz19_0 := b5z BK114.1 0; have hfz19_1 := b5z BK114.1 1) | ((with_reducible refine b8z (f := 40) rfl ?_); refine c8z (some 28) rfl rfl Try.func40 (by kernel_rfl) rfl #[.slice A1 l1.length c1] rfl (by (try simp only [List.map_toArray, List.map_cons, List.map_nil]); first | done | rfl | (simp only [List.length_drop, List.length_take]; rfl)) ?_; (with_reducible refine (impl_spans.calls k2 _ _ l1 t115 _ ?side1 ?side2 A17.1).mono ?_); (case side1 => exact Kd.f2z HR1.1 (by repeat (first | (with_reducible first | exact HB.1 | apply a3z | apply a0z | apply a2z | refine a6z ?_ GE114.1) | exact HB.1))); (case side2 => exact HC1.1); rintro e w20 ⟨v116, rfl, ho0, hb⟩; refine ⟨_, rfl, ?_⟩; have n0_ := a1z.mk (Kd.c9z (by (with_reducible repeat (first | apply Kd.R_alloc | apply Kd.a4z | apply Kd.a5z)); exact (Kd.b9z (Kd.R_far (p := ⟨gb114, 1, none⟩) (Kd.R_far (p := ⟨gb114, 0, none⟩) (Kd.b9z HO_6.1 (fun k_ hk => (⟨hk, hk.2⟩ : _ ∧ k_ ≠ gb114))) (fun _ hk => hk.2) (.int .i64 ((b0z t103 x23_2).f0))) (fun _ hk => hk.2) (.int .i64 ((b0z t103 x23_2).f1))) (fun _ h_ => h_.1))) (Kd.e3z ho0) hb); have n1_ := a1z.mk (Kd.c9z (by (with_reducible repeat (first | apply Kd.R_alloc | apply Kd.a4z | apply Kd.a5z)); exact (Kd.b9z (Kd.R_far (p := ⟨gb114, 1, none⟩) (Kd.R_far (p := ⟨gb114, 0, none⟩) (Kd.b9z HO_21.1 (fun k_ hk => (⟨hk, hk.2⟩ : _ ∧ k_ ≠ gb114))) (fun _ hk => hk.2) (.int .i64 ((b0z t103 x23_2).f0))) (fun _ hk => hk.2) (.int .i64 ((b0z t103 x23_2).f1))) (fun _ h_ => h_.1))) (Kd.e3z ho0) hb); have n2_ := a1z.mk (Kd.d4z (Kd.R_newB (Kd.e2z (Kd.e2z ho0 (Kd.R_lt (by (with_reducible repeat (first | apply Kd.R_alloc | apply Kd.a4z | apply Kd.a5z)); exact (Kd.b9z (Kd.R_far (p := ⟨gb114, 1, none⟩) (Kd.R_far (p := ⟨gb114, 0, none⟩) (Kd.b9z HO_6.1 (fun k_ hk => (⟨hk, hk.2⟩ : _ ∧ k_ ≠ gb114))) (fun _ hk => hk.2) (.int .i64 ((b0z t103 x23_2).f0))) (fun _ hk => hk.2) (.int .i64 ((b0z t103 x23_2).f1))) (fun _ h_ => h_.1))))) (Kd.R_lt (by (with_reducible repeat (first | apply Kd.R_alloc | apply Kd.a4z | apply Kd.a5z)); exact (Kd.b9z (Kd.R_far (p := ⟨gb114, 1, none⟩) (Kd.R_far (p := ⟨gb114, 0, none⟩) (Kd.b9z HO_21.1 (fun k_ hk => (⟨hk, hk.2⟩ : _ ∧ k_ ≠ gb114))) (fun _ hk => hk.2) (.int .i64 ((b0z t103 x23_2).f0))) (fun _ hk => hk.2) (.int .i64 ((b0z t103 x23_2).f1))) (fun _ h_ => h_.1))))) (g := gb114) (o := .cells #[.int .i64 ((b0z t103 x23_2).f0), .int .i64 ((b0z t103 x23_2).f1)] 55 (0, 0)) (by (with_reducible repeat (first | refine a8z ?_ _ | refine a9z ?_ | refine a7z ?_ _)); refine d0z (cs := #[.int .i64 ((b0z t103 x23_2).f0), .int .i64 0]) ?_ 1 _ rfl; (with_reducible repeat (first | refine a8z ?_ _ | refine a9z ?_ | refine a7z ?_ _)); refine d0z (cs := #[.int .i64 0, .int .i64 0]) ?_ 0 _ rfl; (with_reducible repeat (first | refine a8z ?_ _ | refine a9z ?_ | refine a7z ?_ _)); exact BK114.1)) (b2z (by repeat (first | (with_reducible first | exact HB.1 | apply a3z | apply a0z | apply a2z | refine a6z ?_ GE114.1) | exact HB.1)))); have n3_ := a1z.mk (d5z (g := gb114) (o := .cells #[.int .i64 ((b0z t103 x23_2).f0), .int .i64 ((b0z t103 x23_2).f1)] 55 (0, 0)) (by (with_reducible repeat (first | refine a8z ?_ _ | refine a9z ?_ | refine a7z ?_ _)); refine d0z (cs := #[.int .i64 ((b0z t103 x23_2).f0), .int .i64 0]) ?_ 1 _ rfl; (with_reducible repeat (first | refine a8z ?_ _ | refine a9z ?_ | refine a7z ?_ _)); refine d0z (cs := #[.int .i64 0, .int .i64 0]) ?_ 0 _ rfl; (with_reducible repeat (first | refine a8z ?_ _ | refine a9z ?_ | refine a7z ?_ _)); exact BK114.1) hb); have n4_ := a1z.mk (b3z (by repeat (first | (with_reducible first | exact HB.1 | apply a3z | apply a0z | apply a2z | refine a6z ?_ GE114.1) | exact HB.1)) hb); clear HO_6; clear HO_21; clear BK114; clear HB; have HO_6 := n0_; have HO_21 := n1_; have HO117 := n2_; have BK114 := n3_; have HB := n4_; clear n0_ n1_ n2_ n3_ n4_; (try clear hb); (try clear hb2); (try clear hk); (try clear hi); (try clear ho0); obtain ⟨Ao21, co21, eo21⟩ := Kd.e1z HO117.1; subst eo21))
         go_loopg [6, 30] k2 (fun kq v6 v30 w' => ∃ (x6_3 : List (S55)) (x30_3 : Int), v30 = .int .i64 x30_3 ∧ a1z (impl_SetBoth.l1 kq l1 x6_3 t103 (t103.length : Int) x23_2 t115 (t115.length : Int) x30_3 ((b0z t103 x23_2).f0) ((b0z t103 x23_2).f1) = some (r1, r2)) ∧ a1z (kq ≤ k2) ∧ a1z (Kd.R k55 55 w' w.heap.size (fun k_ => some k_ ≠ ((.slice (some ad113) t103.length co13) : Value).ownBlock ∧ some k_ ≠ ((.slice Ao21 t115.length co21) : Value).ownBlock ∧ k_ ≠ gb114) v6 x6_3) ∧ a1z (Kd.R k55 55 w' w.heap.size (fun k_ => some k_ ≠ (v6 : Value).ownBlock ∧ some k_ ≠ ((.slice Ao21 t115.length co21) : Value).ownBlock ∧ k_ ≠ gb114) (.slice (some ad113) t103.length co13) t103) ∧ a1z (Kd.R k55 55 w' w.heap.size (fun k_ => some k_ ≠ (v6 : Value).ownBlock ∧ some k_ ≠ ((.slice (some ad113) t103.length co13) : Value).ownBlock ∧ k_ ≠ gb114) (.slice Ao21 t115.length co21) t115) ∧ a1z (w'.heap[gb114]? = some (.cells #[.int .i64 ((b0z t103 x23_2).f0), .int .i64 ((b0z t103 x23_2).f1)] 55 (0, 0))) ∧ a1z (Below w.heap.size w w'))
         case atStart => exact ⟨(x6_2), (0), (by first | rfl | (simp; done) | (simp [*]; done)), H', ⟨Nat.le_refl _⟩, ⟨by (with_reducible repeat (first | apply Kd.R_alloc | apply Kd.a4z | apply Kd.a5z)); exact Kd.b9z HO_6.1 (fun _ hk => ⟨hk.1.1, ⟨hk.2, hk.1.2⟩⟩)⟩, ⟨by (with_reducible repeat (first | apply Kd.R_alloc | apply Kd.a4z | apply Kd.a5z)); exact Kd.b9z HO_21.1 (fun _ hk => ⟨hk.1.1, ⟨hk.2, hk.1.2⟩⟩)⟩, ⟨by (with_reducible repeat (first | apply Kd.R_alloc | apply Kd.a4z | apply Kd.a5z)); exact Kd.b9z HO117.1 (fun _ hk => ⟨hk.1.1.2, ⟨hk.1.2, hk.2⟩⟩)⟩, ⟨by (with_reducible repeat (first | refine a8z ?_ _ | refine a9z ?_ | refine a7z ?_ _)); exact BK114.1⟩, ⟨by repeat (first | (with_reducible first | exact HB.1 | apply a3z | apply a0z | apply a2z | refine a6z ?_ GE114.1) | exact HB.1)⟩⟩
         case round =>
          clear H'
          try clear c1
          try clear p1
          try clear q1
          try clear hx1
          try clear c2
          try clear p2
          try clear c4
          try clear c5
          try clear c10
          try clear p11
          try clear q11
          try clear hx11
          try clear c14
          try clear c14b0
          try clear c15
          try clear c15b0
          try clear c16
          try clear c16b0
          try clear hcz19_0
          try clear hcz19_1
          try clear hfz19_0
          try clear hfz19_1
          try clear hx113_0
          try clear hx113_1
          try clear p113
          try clear p2
          try clear q113
          obtain ⟨x6_3, x30_3, rfl, HA, HK3, HO_6, HO_21, HO_28, BK114, HB⟩ := hrel
          cases gk with
          | zero => exact absurd HA.1 (by simp [impl_SetBoth.l1])
          | succ k3 =>
           have H := HA.1
           clear HA
           simp only [impl_SetBoth.l1] at H
           by_cases c22 : x30_3 < (t115.length : Int)
           ·rw [if_pos c22] at H
            have c22b0 : decide (x30_3 < (t115.length : Int)) = true := decide_eq_true c22
            clear c22
            by_cases c23 : 0 ≤ x30_3
            ·rw [if_pos c23] at H
             have c23b0 : decide (0 ≤ x30_3) = true := decide_eq_true c23
             clear c23
             by_cases c24 : x30_3 < (t115.length : Int)
             ·rw [if_pos c24] at H
              have c24b0 : decide (x30_3 < (t115.length : Int)) = true := decide_eq_true c24
              clear c24
              obtain ⟨ji25, hji25⟩ : ∃ j_ : Int, (mx ((b0z t103 x23_2).f0) ((b0z t115 x30_3).f0)) = j_ := ⟨_, rfl⟩
              replace H : (if (ji25) ≤ (mn ((b0z t103 x23_2).f1) ((b0z t115 x30_3).f1)) then (if x6_3.length < 8796093022208 then (impl_SetBoth.l1 k3 l1 (x6_3 ++ [(⟨ji25, mn ((b0z t103 x23_2).f1) ((b0z t115 x30_3).f1)⟩ : S55)]) t103 (t103.length : Int) x23_2 t115 (t115.length : Int) (wrap64 (x30_3 + 1)) ((b0z t103 x23_2).f0) ((b0z t103 x23_2).f1)) else (none)) else (impl_SetBoth.l1 k3 l1 x6_3 t103 (t103.length : Int) x23_2 t115 (t115.length : Int) (wrap64 (x30_3 + 1)) ((b0z t103 x23_2).f0) ((b0z t103 x23_2).f1))) = some (r1, r2) := by first | (rw [hji25] at H; exact H) | (simp only [hji25] at H ⊢; exact H)
              have hji25_ : (if ((b0z t103 x23_2).f0) < ((b0z t115 x30_3).f0) then ((b0z t115 x30_3).f0) else ((b0z t103 x23_2).f0)) = ji25 := hji25
              obtain ⟨ji26, hji26⟩ : ∃ j_ : Int, (mn ((b0z t103 x23_2).f1) ((b0z t115 x30_3).f1)) = j_ := ⟨_, rfl⟩
              replace H : (if (ji25) ≤ (ji26) then (if x6_3.length < 8796093022208 then (impl_SetBoth.l1 k3 l1 (x6_3 ++ [(⟨ji25, ji26⟩ : S55)]) t103 (t103.length : Int) x23_2 t115 (t115.length : Int) (wrap64 (x30_3 + 1)) ((b0z t103 x23_2).f0) ((b0z t103 x23_2).f1)) else (none)) else (impl_SetBoth.l1 k3 l1 x6_3 t103 (t103.length : Int) x23_2 t115 (t115.length : Int) (wrap64 (x30_3 + 1)) ((b0z t103 x23_2).f0) ((b0z t103 x23_2).f1))) = some (r1, r2) := by first | (rw [hji26] at H; exact H) | (simp only [hji26] at H ⊢; exact H)
              have hji26_ : (if ((b0z t115 x30_3).f1) < ((b0z t103 x23_2).f1) then ((b0z t115 x30_3).f1) else ((b0z t103 x23_2).f1)) = ji26 := hji26
              by_cases c27 : (ji25) ≤ (ji26)
              ·rw [if_pos c27] at H
               have c27b0 : decide ((ji25) ≤ (ji26)) = true := decide_eq_true c27
               clear c27
               by_cases c28 : x6_3.length < 8796093022208
               ·rw [if_pos c28] at H
                have LMc28 := a1z.mk c28
                clear c28
                obtain ⟨y121, hy121⟩ : ∃ y_ : List (S55), y_ = (x6_3 ++ [(⟨ji25, ji26⟩ : S55)]) := ⟨_, rfl⟩
                replace H : (impl_SetBoth.l1 k3 l1 y121 t103 (t103.length : Int) x23_2 t115 (t115.length : Int) (wrap64 (x30_3 + 1)) ((b0z t103 x23_2).f0) ((b0z t103 x23_2).f1)) = some (r1, r2) := by first | (rw [hy121]; with_reducible exact H) | (have H2_ := (Option.bind_some _ _).symm.trans H; rw [hy121]; with_reducible exact H2_) | (have H2_ := (Option.bind_some _ _).symm.trans H; with_reducible exact H2_) | with_reducible exact H | (rw [hy121]; exact H) | exact H
                have Ny121 := a1z.mk hy121
                clear hy121
                have H' := a1z.mk H
                clear H
                have p118 : 0 ≤ (x30_3 : Int) := of_decide_eq_true (by first | (with_reducible assumption) | assumption)
                have q118 : x30_3 < (t115.length : Int) := of_decide_eq_true (by first | (with_reducible assumption) | assumption)
                obtain ⟨ad118, e118, hx118_0, hx118_1⟩ := i5z (Kd.c0z HO_28.1).2.2 x30_3 p118 q118
                cases e118
                replace p118 := eq_true p118
                replace q118 := eq_true q118
                go_wp2_with (first | ((with_reducible refine d3z (N := 10) rfl ?_); refine d6z ?hg (N := 10) ?hd (cs := #[.int .i64 0, .int .i64 0]) (t := 55) ?hr ?_; (case hd => rfl); (case hg => rfl); (case hr => first | (go_simp; done) | (go_simp; rfl)); intro gb119 hg w29 hbox hb; have n0_ := a1z.mk (Kd.c7z (Kd.f4z (by (with_reducible repeat (first | apply Kd.R_alloc | apply Kd.a4z | apply Kd.a5z)); exact HO_6.1) gb119 (Nat.le_of_eq hg.symm)) hb); have n1_ := a1z.mk (Kd.c7z (Kd.f4z (by (with_reducible repeat (first | apply Kd.R_alloc | apply Kd.a4z | apply Kd.a5z)); exact HO_21.1) gb119 (Nat.le_of_eq hg.symm)) hb); have n2_ := a1z.mk (Kd.c7z (Kd.f4z (by (with_reducible repeat (first | apply Kd.R_alloc | apply Kd.a4z | apply Kd.a5z)); exact HO_28.1) gb119 (Nat.le_of_eq hg.symm)) hb); have n3_ := a1z.mk (d5z (g := gb114) (o := .cells #[.int .i64 ((b0z t103 x23_2).f0), .int .i64 ((b0z t103 x23_2).f1)] 55 (0, 0)) (by (with_reducible repeat (first | refine a8z ?_ _ | refine a9z ?_ | refine a7z ?_ _)); exact BK114.1) hb); have n4_ := a1z.mk (b3z (by repeat (first | (with_reducible first | exact HB.1 | apply a3z | apply a0z | apply a2z | refine a6z ?_ GE114.1) | exact HB.1)) hb); have n5_ := a1z.mk (hbox); have n6_ := a1z.mk ((by rw [hg]; exact (b2z (by repeat (first | (with_reducible first | exact HB.1 | apply a3z | apply a0z | apply a2z | refine a6z ?_ GE114.1) | exact HB.1))) : w.heap.size ≤ gb119)); have n7_ := a1z.mk ((by rw [hg]; exact (b2z (by repeat (first | (with_reducible first | exact HB.1 | apply a3z | apply a0z | apply a2z | refine a6z ?_ GE114.1) | exact HB.1))) : w.heap.size ≤ gb119)); have n8_ := a1z.mk ((by rw [hg]; exact Nat.ne_of_lt (g8z (g := gb114) (o := .cells #[.int .i64 ((b0z t103 x23_2).f0), .int .i64 ((b0z t103 x23_2).f1)] 55 (0, 0)) (by (with_reducible repeat (first | refine a8z ?_ _ | refine a9z ?_ | refine a7z ?_ _)); exact BK114.1)) : gb114 ≠ gb119)); have n9_ := a1z.mk ((by rw [hg]; exact Nat.ne_of_gt (g8z (g := gb114) (o := .cells #[.int .i64 ((b0z t103 x23_2).f0), .int .i64 ((b0z t103 x23_2).f1)] 55 (0, 0)) (by (with_reducible repeat (first | refine a8z ?_ _ | refine a9z ?_ | refine a7z ?_ _)); exact BK114.1)) : gb119 ≠ gb114)); clear HO_6; clear HO_21; clear HO_28; clear BK114; clear HB; have HO_6 := n0_; have HO_21 := n1_; have HO_28 := n2_; have BK114 := n3_; have HB := n4_; have BK119 := n5_; have GW119 := n6_; have GE119 := n7_; have NB114_119 := n8_; have NB119_114 := n9_; clear n0_ n1_ n2_ n3_ n4_ n5_ n6_ n7_ n8_ n9_; clear hb hbox hg; have hnb30 := NB119_114.1; have hnc30 := NB114_119.1; have hcz31_0 : w29.cell? ⟨gb119, 0, none⟩ = some (.int .i64 0) := (b1z BK119.1 0).trans rfl; have hcz31_1 : w29.cell? ⟨gb119, 1, none⟩ = some (.int .i64 0) := (b1z BK119.1 1).trans rfl; have hfz31_0 := b5z BK119.1 0; have hfz31_1 := b5z BK119.1 1; have hcz32_0 : w29.cell? ⟨gb114, 0, none⟩ = some (.int .i64 ((b0z t103 x23_2).f0)) := (b1z BK114.1 0).trans rfl; have hcz32_1 : w29.cell? ⟨gb114, 1, none⟩ = some (.int .i64 ((b0z t103 x23_2).f1)) := (b1z BK114.1 1).trans rfl; have hfz32_0 := b5z BK114.1 0; have hfz32_1 := b5z BK114.1 1) | ((with_reducible refine d3z (N := 11) rfl ?_); refine d6z ?hg (N := 11) ?hd (cs := #[.int .i64 0, .int .i64 0]) (t := 55) ?hr ?_; (case hd => rfl); (case hg => rfl); (case hr => first | (go_simp; done) | (go_simp; rfl)); intro gb120 hg w33 hbox hb; have n0_ := a1z.mk (Kd.c7z (Kd.f4z (by (with_reducible repeat (first | apply Kd.R_alloc | apply Kd.a4z | apply Kd.a5z)); exact (Kd.b9z (Kd.R_far (p := ⟨gb119, 1, none⟩) (Kd.R_far (p := ⟨gb119, 0, none⟩) (Kd.b9z HO_6.1 (fun k_ hk => (⟨hk, hk.2⟩ : _ ∧ k_ ≠ gb119))) (fun _ hk => hk.2) (.int .i64 ((b0z t115 x30_3).f0))) (fun _ hk => hk.2) (.int .i64 ((b0z t115 x30_3).f1))) (fun _ h_ => h_.1))) gb120 (Nat.le_of_eq hg.symm)) hb); have n1_ := a1z.mk (Kd.c7z (Kd.f4z (by (with_reducible repeat (first | apply Kd.R_alloc | apply Kd.a4z | apply Kd.a5z)); exact (Kd.b9z (Kd.R_far (p := ⟨gb119, 1, none⟩) (Kd.R_far (p := ⟨gb119, 0, none⟩) (Kd.b9z HO_21.1 (fun k_ hk => (⟨hk, hk.2⟩ : _ ∧ k_ ≠ gb119))) (fun _ hk => hk.2) (.int .i64 ((b0z t115 x30_3).f0))) (fun _ hk => hk.2) (.int .i64 ((b0z t115 x30_3).f1))) (fun _ h_ => h_.1))) gb120 (Nat.le_of_eq hg.symm)) hb); have n2_ := a1z.mk (Kd.c7z (Kd.f4z (by (with_reducible repeat (first | apply Kd.R_alloc | apply Kd.a4z | apply Kd.a5z)); exact (Kd.b9z (Kd.R_far (p := ⟨gb119, 1, none⟩) (Kd.R_far (p := ⟨gb119, 0, none⟩) (Kd.b9z HO_28.1 (fun k_ hk => (⟨hk, hk.2⟩ : _ ∧ k_ ≠ gb119))) (fun _ hk => hk.2) (.int .i64 ((b0z t115 x30_3).f0))) (fun _ hk => hk.2) (.int .i64 ((b0z t115 x30_3).f1))) (fun _ h_ => h_.1))) gb120 (Nat.le_of_eq hg.symm)) hb); have n3_ := a1z.mk (d5z (g := gb114) (o := .cells #[.int .i64 ((b0z t103 x23_2).f0), .int .i64 ((b0z t103 x23_2).f1)] 55 (0, 0)) (by (with_reducible repeat (first | refine a8z ?_ _ | refine a9z ?_ | refine a7z ?_ _)); refine f6z ?_ NB114_119.1 _; (with_reducible repeat (first | refine a8z ?_ _ | refine a9z ?_ | refine a7z ?_ _)); refine f6z ?_ NB114_119.1 _; (with_reducible repeat (first | refine a8z ?_ _ | refine a9z ?_ | refine a7z ?_ _)); exact BK114.1) hb); have n4_ := a1z.mk (d5z (g := gb119) (o := .cells #[.int .i64 ((b0z t115 x30_3).f0), .int .i64 ((b0z t115 x30_3).f1)] 55 (0, 0)) (by (with_reducible repeat (first | refine a8z ?_ _ | refine a9z ?_ | refine a7z ?_ _)); refine d0z (cs := #[.int .i64 ((b0z t115 x30_3).f0), .int .i64 0]) ?_ 1 _ rfl; (with_reducible repeat (first | refine a8z ?_ _ | refine a9z ?_ | refine a7z ?_ _)); refine d0z (cs := #[.int .i64 0, .int .i64 0]) ?_ 0 _ rfl; (with_reducible repeat (first | refine a8z ?_ _ | refine a9z ?_ | refine a7z ?_ _)); exact BK119.1) hb); have n5_ := a1z.mk (b3z (by repeat (first | (with_reducible first | exact HB.1 | apply a3z | apply a0z | apply a2z | refine a6z ?_ GE114.1 | refine a6z ?_ GE119.1) | exact HB.1)) hb); have n6_ := a1z.mk (hbox); have n7_ := a1z.mk ((by rw [hg]; exact (b2z (by repeat (first | (with_reducible first | exact HB.1 | apply a3z | apply a0z | apply a2z | refine a6z ?_ GE114.1 | refine a6z ?_ GE119.1) | exact HB.1))) : w.heap.size ≤ gb120)); have n8_ := a1z.mk ((by rw [hg]; exact (b2z (by repeat (first | (with_reducible first | exact HB.1 | apply a3z | apply a0z | apply a2z | refine a6z ?_ GE114.1 | refine a6z ?_ GE119.1) | exact HB.1))) : w.heap.size ≤ gb120)); have n9_ := a1z.mk ((by rw [hg]; exact Nat.ne_of_lt (g8z (g := gb114) (o := .cells #[.int .i64 ((b0z t103 x23_2).f0), .int .i64 ((b0z t103 x23_2).f1)] 55 (0, 0)) (by (with_reducible repeat (first | refine a8z ?_ _ | refine a9z ?_ | refine a7z ?_ _)); refine f6z ?_ NB114_119.1 _; (with_reducible repeat (first | refine a8z ?_ _ | refine a9z ?_ | refine a7z ?_ _)); refine f6z ?_ NB114_119.1 _; (with_reducible repeat (first | refine a8z ?_ _ | refine a9z ?_ | refine a7z ?_ _)); exact BK114.1)) : gb114 ≠ gb120)); have n10_ := a1z.mk ((by rw [hg]; exact Nat.ne_of_gt (g8z (g := gb114) (o := .cells #[.int .i64 ((b0z t103 x23_2).f0), .int .i64 ((b0z t103 x23_2).f1)] 55 (0, 0)) (by (with_reducible repeat (first | refine a8z ?_ _ | refine a9z ?_ | refine a7z ?_ _)); refine f6z ?_ NB114_119.1 _; (with_reducible repeat (first | refine a8z ?_ _ | refine a9z ?_ | refine a7z ?_ _)); refine f6z ?_ NB114_119.1 _; (with_reducible repeat (first | refine a8z ?_ _ | refine a9z ?_ | refine a7z ?_ _)); exact BK114.1)) : gb120 ≠ gb114)); have n11_ := a1z.mk ((by rw [hg]; exact Nat.ne_of_lt (g8z (g := gb119) (o := .cells #[.int .i64 ((b0z t115 x30_3).f0), .int .i64 ((b0z t115 x30_3).f1)] 55 (0, 0)) (by (with_reducible repeat (first | refine a8z ?_ _ | refine a9z ?_ | refine a7z ?_ _)); refine d0z (cs := #[.int .i64 ((b0z t115 x30_3).f0), .int .i64 0]) ?_ 1 _ rfl; (with_reducible repeat (first | refine a8z ?_ _ | refine a9z ?_ | refine a7z ?_ _)); refine d0z (cs := #[.int .i64 0, .int .i64 0]) ?_ 0 _ rfl; (with_reducible repeat (first | refine a8z ?_ _ | refine a9z ?_ | refine a7z ?_ _)); exact BK119.1)) : gb119 ≠ gb120)); have n12_ := a1z.mk ((by rw [hg]; exact Nat.ne_of_gt (g8z (g := gb119) (o := .cells #[.int .i64 ((b0z t115 x30_3).f0), .int .i64 ((b0z t115 x30_3).f1)] 55 (0, 0)) (by (with_reducible repeat (first | refine a8z ?_ _ | refine a9z ?_ | refine a7z ?_ _)); refine d0z (cs := #[.int .i64 ((b0z t115 x30_3).f0), .int .i64 0]) ?_ 1 _ rfl; (with_reducible repeat (first | refine a8z ?_ _ | refine a9z ?_ | refine a7z ?_ _)); refine d0z (cs := #[.int .i64 0, .int .i64 0]) ?_ 0 _ rfl; (with_reducible repeat (first | refine a8z ?_ _ | refine a9z ?_ | refine a7z ?_ _)); exact BK119.1)) : gb120 ≠ gb119)); clear HO_6; clear HO_21; clear HO_28; clear BK114; clear BK119; clear HB; have HO_6 := n0_; have HO_21 := n1_; have HO_28 := n2_; have BK114 := n3_; have BK119 := n4_; have HB := n5_; have BK120 := n6_; have GW120 := n7_; have GE120 := n8_; have NB114_120 := n9_; have NB120_114 := n10_; have NB119_120 := n11_; have NB120_119 := n12_; clear n0_ n1_ n2_ n3_ n4_ n5_ n6_ n7_ n8_ n9_ n10_ n11_ n12_; clear hb hbox hg; have hnb34 := NB120_114.1; have hnc34 := NB114_120.1; have hnb35 := NB120_119.1; have hnc35 := NB119_120.1; have hcz36_0 : w33.cell? ⟨gb120, 0, none⟩ = some (.int .i64 0) := (b1z BK120.1 0).trans rfl; have hcz36_1 : w33.cell? ⟨gb120, 1, none⟩ = some (.int .i64 0) := (b1z BK120.1 1).trans rfl; have hfz36_0 := b5z BK120.1 0; have hfz36_1 := b5z BK120.1 1) | ((with_reducible refine e9z (b := .append) (xs := #[.tmp 50, .tmp 52]) rfl ?_); at_builtin; refine Kd.g4z k55 (w0 := w) w.heap.size rfl (.tmp 50) (.tmp 52) 48 55 (.agg #[(.int .i64 0), (.int .i64 0)]) 16 rfl Try.underlying48 info55 rfl (by decide) (by omega) u6 x6_3 (⟨ji25, ji26⟩ : S55) [.int .i64 ji25, .int .i64 ji26] (fun k_ => some k_ ≠ (.slice (some ad113) t103.length co13 : Value).ownBlock ∧ some k_ ≠ (.slice (some ad118) t115.length co21 : Value).ownBlock ∧ k_ ≠ gb114 ∧ k_ ≠ gb119 ∧ k_ ≠ gb120) (fun _ => False) rfl (by first | (go_simp; done) | (go_simp; rfl)) ?aP (fun _ hk => hk.elim) ?aF ?aO ?aB ?aS ?aL ?_; (case aP => exact k55_mkM _ _ _ (⟨ji25, ji26⟩ : S55)); (case aB => exact (by repeat (first | (with_reducible first | exact HB.1 | apply a3z | apply a0z | apply a2z | refine a6z ?_ GE114.1 | refine a6z ?_ GE119.1 | refine a6z ?_ GE120.1) | exact HB.1))); (case aF => exact (fun k_ hk => ⟨Kd.fresh' (Kd.R_lt (by (with_reducible repeat (first | apply Kd.R_alloc | apply Kd.a4z | apply Kd.a5z)); exact (Kd.b9z (Kd.R_far (p := ⟨gb120, 1, none⟩) (Kd.R_far (p := ⟨gb120, 0, none⟩) (Kd.b9z HO_21.1 (fun k_ hk => (⟨hk, hk.2⟩ : _ ∧ k_ ≠ gb120))) (fun _ hk => hk.2) (.int .i64 ji25)) (fun _ hk => hk.2) (.int .i64 ji26)) (fun _ h_ => h_.1)))) k_ hk, Kd.fresh' (Kd.R_lt (by (with_reducible repeat (first | apply Kd.R_alloc | apply Kd.a4z | apply Kd.a5z)); exact (Kd.b9z (Kd.R_far (p := ⟨gb120, 1, none⟩) (Kd.R_far (p := ⟨gb120, 0, none⟩) (Kd.b9z HO_28.1 (fun k_ hk => (⟨hk, hk.2⟩ : _ ∧ k_ ≠ gb120))) (fun _ hk => hk.2) (.int .i64 ji25)) (fun _ hk => hk.2) (.int .i64 ji26)) (fun _ h_ => h_.1)))) k_ hk, Kd.freshB (g := gb114) (o := .cells #[.int .i64 ((b0z t103 x23_2).f0), .int .i64 ((b0z t103 x23_2).f1)] 55 (0, 0)) (by (with_reducible repeat (first | refine a8z ?_ _ | refine a9z ?_ | refine a7z ?_ _)); refine f6z ?_ NB114_120.1 _; (with_reducible repeat (first | refine a8z ?_ _ | refine a9z ?_ | refine a7z ?_ _)); refine f6z ?_ NB114_120.1 _; (with_reducible repeat (first | refine a8z ?_ _ | refine a9z ?_ | refine a7z ?_ _)); exact BK114.1) k_ hk, Kd.freshB (g := gb119) (o := .cells #[.int .i64 ((b0z t115 x30_3).f0), .int .i64 ((b0z t115 x30_3).f1)] 55 (0, 0)) (by (with_reducible repeat (first | refine a8z ?_ _ | refine a9z ?_ | refine a7z ?_ _)); refine f6z ?_ NB119_120.1 _; (with_reducible repeat (first | refine a8z ?_ _ | refine a9z ?_ | refine a7z ?_ _)); refine f6z ?_ NB119_120.1 _; (with_reducible repeat (first | refine a8z ?_ _ | refine a9z ?_ | refine a7z ?_ _)); exact BK119.1) k_ hk, Kd.freshB (g := gb120) (o := .cells #[.int .i64 ji25, .int .i64 ji26] 55 (0, 0)) (by (with_reducible repeat (first | refine a8z ?_ _ | refine a9z ?_ | refine a7z ?_ _)); refine d0z (cs := #[.int .i64 ji25, .int .i64 0]) ?_ 1 _ rfl; (with_reducible repeat (first | refine a8z ?_ _ | refine a9z ?_ | refine a7z ?_ _)); refine d0z (cs := #[.int .i64 0, .int .i64 0]) ?_ 0 _ rfl; (with_reducible repeat (first | refine a8z ?_ _ | refine a9z ?_ | refine a7z ?_ _)); exact BK120.1) k_ hk⟩)); (case aO => exact (by (with_reducible repeat (first | apply Kd.R_alloc | apply Kd.a4z | apply Kd.a5z)); exact Kd.b9z (Kd.R_far (p := ⟨gb120, 1, none⟩) (Kd.R_far (p := ⟨gb120, 0, none⟩) (Kd.b9z HO_6.1 (fun k_ hk => (⟨hk, hk.2⟩ : _ ∧ k_ ≠ gb120))) (fun _ hk => hk.2) (.int .i64 ji25)) (fun _ hk => hk.2) (.int .i64 ji26)) (fun _ hk => ⟨hk.1.1.1.1, ⟨hk.1.1.1.2.1, ⟨hk.1.1.1.2.2, ⟨hk.1.1.2, hk.1.2⟩⟩⟩⟩))); (case aS => exact (b2z (by repeat (first | (with_reducible first | exact HB.1 | apply a3z | apply a0z | apply a2z | refine a6z ?_ GE114.1 | refine a6z ?_ GE119.1 | refine a6z ?_ GE120.1) | exact HB.1)))); (case aL => have := LMc28.1; omega); intro v122 w37 ho hb hg hat; rw [← Ny121.1] at ho; have n0_ := a1z.mk (Kd.e4z (ok := (fun k_ => some k_ ≠ (.slice (some ad118) t115.length co21 : Value).ownBlock ∧ k_ ≠ gb114 ∧ k_ ≠ gb119 ∧ k_ ≠ gb120)) (by (with_reducible repeat (first | apply Kd.R_alloc | apply Kd.a4z | apply Kd.a5z)); exact Kd.b9z (Kd.R_far (p := ⟨gb120, 1, none⟩) (Kd.R_far (p := ⟨gb120, 0, none⟩) (Kd.b9z HO_21.1 (fun k_ hk => (⟨hk, hk.2⟩ : _ ∧ k_ ≠ gb120))) (fun _ hk => hk.2) (.int .i64 ji25)) (fun _ hk => hk.2) (.int .i64 ji26)) (fun _ hk => ⟨⟨hk.1.1.1.2.1, ⟨hk.1.1.1.2.2, ⟨hk.1.1.2, hk.1.2⟩⟩⟩, hk.1.1.1.1⟩)) hg hat); have n1_ := a1z.mk (Kd.e4z (ok := (fun k_ => some k_ ≠ (.slice (some ad113) t103.length co13 : Value).ownBlock ∧ k_ ≠ gb114 ∧ k_ ≠ gb119 ∧ k_ ≠ gb120)) (by (with_reducible repeat (first | apply Kd.R_alloc | apply Kd.a4z | apply Kd.a5z)); exact Kd.b9z (Kd.R_far (p := ⟨gb120, 1, none⟩) (Kd.R_far (p := ⟨gb120, 0, none⟩) (Kd.b9z HO_28.1 (fun k_ hk => (⟨hk, hk.2⟩ : _ ∧ k_ ≠ gb120))) (fun _ hk => hk.2) (.int .i64 ji25)) (fun _ hk => hk.2) (.int .i64 ji26)) (fun _ hk => ⟨⟨hk.1.1.1.2.1, ⟨hk.1.1.1.2.2, ⟨hk.1.1.2, hk.1.2⟩⟩⟩, hk.1.1.1.1⟩)) hg hat); have n2_ := a1z.mk (f0z (g := gb114) (o := .cells #[.int .i64 ((b0z t103 x23_2).f0), .int .i64 ((b0z t103 x23_2).f1)] 55 (0, 0)) (by (with_reducible repeat (first | refine a8z ?_ _ | refine a9z ?_ | refine a7z ?_ _)); refine f6z ?_ NB114_120.1 _; (with_reducible repeat (first | refine a8z ?_ _ | refine a9z ?_ | refine a7z ?_ _)); refine f6z ?_ NB114_120.1 _; (with_reducible repeat (first | refine a8z ?_ _ | refine a9z ?_ | refine a7z ?_ _)); exact BK114.1) hg (Kd.h0z HO_6.1 (fun _ hk => hk.1.1.2.2))); have n3_ := a1z.mk (f0z (g := gb119) (o := .cells #[.int .i64 ((b0z t115 x30_3).f0), .int .i64 ((b0z t115 x30_3).f1)] 55 (0, 0)) (by (with_reducible repeat (first | refine a8z ?_ _ | refine a9z ?_ | refine a7z ?_ _)); refine f6z ?_ NB119_120.1 _; (with_reducible repeat (first | refine a8z ?_ _ | refine a9z ?_ | refine a7z ?_ _)); refine f6z ?_ NB119_120.1 _; (with_reducible repeat (first | refine a8z ?_ _ | refine a9z ?_ | refine a7z ?_ _)); exact BK119.1) hg (Kd.h0z HO_6.1 (fun _ hk => hk.1.2))); have n4_ := a1z.mk (f0z (g := gb120) (o := .cells #[.int .i64 ji25, .int .i64 ji26] 55 (0, 0)) (by (with_reducible repeat (first | refine a8z ?_ _ | refine a9z ?_ | refine a7z ?_ _)); refine d0z (cs := #[.int .i64 ji25, .int .i64 0]) ?_ 1 _ rfl; (with_reducible repeat (first | refine a8z ?_ _ | refine a9z ?_ | refine a7z ?_ _)); refine d0z (cs := #[.int .i64 0, .int .i64 0]) ?_ 0 _ rfl; (with_reducible repeat (first | refine a8z ?_ _ | refine a9z ?_ | refine a7z ?_ _)); exact BK120.1) hg (Kd.h0z HO_6.1 (fun _ hk => hk.2))); have n5_ := a1z.mk (hb); have n6_ := a1z.mk (ho); clear HO_21; clear HO_28; clear BK114; clear BK119; clear BK120; clear HB; clear HO_6; have HO_21 := n0_; have HO_28 := n1_; have BK114 := n2_; have BK119 := n3_; have BK120 := n4_; have HB := n5_; have HO123 := n6_; clear n0_ n1_ n2_ n3_ n4_ n5_ n6_; clear ho hb hg hat))
                go_roundg k3
                case measure => have := HJ2.1; have := HK2.1; have := HK3.1; omega
                case rel => exact ⟨(y121), (wrap64 (x30_3 + 1)), (by first | rfl | (simp; done) | (simp [*]; done)), H', ⟨by have := HJ2.1; have := HK2.1; have := HK3.1; omega⟩, ⟨by (with_reducible repeat (first | apply Kd.R_alloc | apply Kd.a4z | apply Kd.a5z)); exact Kd.b9z HO123.1 (fun _ hk => ⟨hk.1, ⟨hk.2.1, hk.2.2.1⟩⟩)⟩, ⟨by (with_reducible repeat (first | apply Kd.R_alloc | apply Kd.a4z | apply Kd.a5z)); exact Kd.b9z HO_21.1 (fun _ hk => ⟨hk.2, ⟨hk.1.1, hk.1.2.1⟩⟩)⟩, ⟨by (with_reducible repeat (first | apply Kd.R_alloc | apply Kd.a4z | apply Kd.a5z)); exact Kd.b9z HO_28.1 (fun _ hk => ⟨hk.2, ⟨hk.1.1, hk.1.2.1⟩⟩)⟩, ⟨by (with_reducible repeat (first | refine a8z ?_ _ | refine a9z ?_ | refine a7z ?_ _)); exact BK114.1⟩, ⟨by repeat (first | (with_reducible first | exact HB.1 | apply a3z | apply a0z | apply a2z | refine a6z ?_ GE114.1 | refine a6z ?_ GE119.1 | refine a6z ?_ GE120.1) | exact HB.1)⟩⟩
               ·rw [if_neg c28] at H
                exact absurd H (by simp)
              ·rw [if_neg c27] at H
               have c27b0 : decide ((ji25) ≤ (ji26)) = false := decide_eq_false c27
               clear c27
               have H' := a1z.mk H
               clear H
               have p118 : 0 ≤ (x30_3 : Int) := of_decide_eq_true (by first | (with_reducible assumption) | assumption)
               have q118 : x30_3 < (t115.length : Int) := of_decide_eq_true (by first | (with_reducible assumption) | assumption)
               obtain ⟨ad118, e118, hx118_0, hx118_1⟩ := i5z (Kd.c0z HO_28.1).2.2 x30_3 p118 q118
               cases e118
               replace p118 := eq_true p118
               replace q118 := eq_true q118
               go_wp2_with (first | ((with_reducible refine d3z (N := 10) rfl ?_); refine d6z ?hg (N := 10) ?hd (cs := #[.int .i64 0, .int .i64 0]) (t := 55) ?hr ?_; (case hd => rfl); (case hg => rfl); (case hr => first | (go_simp; done) | (go_simp; rfl)); intro gb119 hg w38 hbox hb; have n0_ := a1z.mk (Kd.c7z (Kd.f4z (by (with_reducible repeat (first | apply Kd.R_alloc | apply Kd.a4z | apply Kd.a5z)); exact HO_6.1) gb119 (Nat.le_of_eq hg.symm)) hb); have n1_ := a1z.mk (Kd.c7z (Kd.f4z (by (with_reducible repeat (first | apply Kd.R_alloc | apply Kd.a4z | apply Kd.a5z)); exact HO_21.1) gb119 (Nat.le_of_eq hg.symm)) hb); have n2_ := a1z.mk (Kd.c7z (Kd.f4z (by (with_reducible repeat (first | apply Kd.R_alloc | apply Kd.a4z | apply Kd.a5z)); exact HO_28.1) gb119 (Nat.le_of_eq hg.symm)) hb); have n3_ := a1z.mk (d5z (g := gb114) (o := .cells #[.int .i64 ((b0z t103 x23_2).f0), .int .i64 ((b0z t103 x23_2).f1)] 55 (0, 0)) (by (with_reducible repeat (first | refine a8z ?_ _ | refine a9z ?_ | refine a7z ?_ _)); exact BK114.1) hb); have n4_ := a1z.mk (b3z (by repeat (first | (with_reducible first | exact HB.1 | apply a3z | apply a0z | apply a2z | refine a6z ?_ GE114.1) | exact HB.1)) hb); have n5_ := a1z.mk (hbox); have n6_ := a1z.mk ((by rw [hg]; exact (b2z (by repeat (first | (with_reducible first | exact HB.1 | apply a3z | apply a0z | apply a2z | refine a6z ?_ GE114.1) | exact HB.1))) : w.heap.size ≤ gb119)); have n7_ := a1z.mk ((by rw [hg]; exact (b2z (by repeat (first | (with_reducible first | exact HB.1 | apply a3z | apply a0z | apply a2z | refine a6z ?_ GE114.1) | exact HB.1))) : w.heap.size ≤ gb119)); have n8_ := a1z.mk ((by rw [hg]; exact Nat.ne_of_lt (g8z (g := gb114) (o := .cells #[.int .i64 ((b0z t103 x23_2).f0), .int .i64 ((b0z t103 x23_2).f1)] 55 (0, 0)) (by (with_reducible repeat (first | refine a8z ?_ _ | refine a9z ?_ | refine a7z ?_ _)); exact BK114.1)) : gb114 ≠ gb119)); have n9_ := a1z.mk ((by rw [hg]; exact Nat.ne_of_gt (g8z (g := gb114) (o := .cells #[.int .i64 ((b0z t103 x23_2).f0), .int .i64 ((b0z t103 x23_2).f1)] 55 (0, 0)) (by (with_reducible repeat (first | refine a8z ?_ _ | refine a9z ?_ | refine a7z ?_ _)); exact BK114.1)) : gb119 ≠ gb114)); clear HO_6; clear HO_21; clear HO_28; clear BK114; clear HB; have HO_6 := n0_; have HO_21 := n1_; have HO_28 := n2_; have BK114 := n3_; have HB := n4_; have BK119 := n5_; have GW119 := n6_; have GE119 := n7_; have NB114_119 := n8_; have NB119_114 := n9_; clear n0_ n1_ n2_ n3_ n4_ n5_ n6_ n7_ n8_ n9_; clear hb hbox hg; have hnb39 := NB119_114.1; have hnc39 := NB114_119.1; have hcz40_0 : w38.cell? ⟨gb119, 0, none⟩ = some (.int .i64 0) := (b1z BK119.1 0).trans rfl; have hcz40_1 : w38.cell? ⟨gb119, 1, none⟩ = some (.int .i64 0) := (b1z BK119.1 1).trans rfl; have hfz40_0 := b5z BK119.1 0; have hfz40_1 := b5z BK119.1 1; have hcz41_0 : w38.cell? ⟨gb114, 0, none⟩ = some (.int .i64 ((b0z t103 x23_2).f0)) := (b1z BK114.1 0).trans rfl; have hcz41_1 : w38.cell? ⟨gb114, 1, none⟩ = some (.int .i64 ((b0z t103 x23_2).f1)) := (b1z BK114.1 1).trans rfl; have hfz41_0 := b5z BK114.1 0; have hfz41_1 := b5z BK114.1 1) | ((with_reducible refine d3z (N := 11) rfl ?_); refine d6z ?hg (N := 11) ?hd (cs := #[.int .i64 0, .int .i64 0]) (t := 55) ?hr ?_; (case hd => rfl); (case hg => rfl); (case hr => first | (go_simp; done) | (go_simp; rfl)); intro gb120 hg w42 hbox hb; have n0_ := a1z.mk (Kd.c7z (Kd.f4z (by (with_reducible repeat (first | apply Kd.R_alloc | apply Kd.a4z | apply Kd.a5z)); exact (Kd.b9z (Kd.R_far (p := ⟨gb119, 1, none⟩) (Kd.R_far (p := ⟨gb119, 0, none⟩) (Kd.b9z HO_6.1 (fun k_ hk => (⟨hk, hk.2⟩ : _ ∧ k_ ≠ gb119))) (fun _ hk => hk.2) (.int .i64 ((b0z t115 x30_3).f0))) (fun _ hk => hk.2) (.int .i64 ((b0z t115 x30_3).f1))) (fun _ h_ => h_.1))) gb120 (Nat.le_of_eq hg.symm)) hb); have n1_ := a1z.mk (Kd.c7z (Kd.f4z (by (with_reducible repeat (first | apply Kd.R_alloc | apply Kd.a4z | apply Kd.a5z)); exact (Kd.b9z (Kd.R_far (p := ⟨gb119, 1, none⟩) (Kd.R_far (p := ⟨gb119, 0, none⟩) (Kd.b9z HO_21.1 (fun k_ hk => (⟨hk, hk.2⟩ : _ ∧ k_ ≠ gb119))) (fun _ hk => hk.2) (.int .i64 ((b0z t115 x30_3).f0))) (fun _ hk => hk.2) (.int .i64 ((b0z t115 x30_3).f1))) (fun _ h_ => h_.1))) gb120 (Nat.le_of_eq hg.symm)) hb); have n2_ := a1z.mk (Kd.c7z (Kd.f4z (by (with_reducible repeat (first | apply Kd.R_alloc | apply Kd.a4z | apply Kd.a5z)); exact (Kd.b9z (Kd.R_far (p := ⟨gb119, 1, none⟩) (Kd.R_far (p := ⟨gb119, 0, none⟩) (Kd.b9z HO_28.1 (fun k_ hk => (⟨hk, hk.2⟩ : _ ∧ k_ ≠ gb119))) (fun _ hk => hk.2) (.int .i64 ((b0z t115 x30_3).f0))) (fun _ hk => hk.2) (.int .i64 ((b0z t115 x30_3).f1))) (fun _ h_ => h_.1))) gb120 (Nat.le_of_eq hg.symm)) hb); have n3_ := a1z.mk (d5z (g := gb114) (o := .cells #[.int .i64 ((b0z t103 x23_2).f0), .int .i64 ((b0z t103 x23_2).f1)] 55 (0, 0)) (by (with_reducible repeat (first | refine a8z ?_ _ | refine a9z ?_ | refine a7z ?_ _)); refine f6z ?_ NB114_119.1 _; (with_reducible repeat (first | refine a8z ?_ _ | refine a9z ?_ | refine a7z ?_ _)); refine f6z ?_ NB114_119.1 _; (with_reducible repeat (first | refine a8z ?_ _ | refine a9z ?_ | refine a7z ?_ _)); exact BK114.1) hb); have n4_ := a1z.mk (d5z (g := gb119) (o := .cells #[.int .i64 ((b0z t115 x30_3).f0), .int .i64 ((b0z t115 x30_3).f1)] 55 (0, 0)) (by (with_reducible repeat (first | refine a8z ?_ _ | refine a9z ?_ | refine a7z ?_ _)); refine d0z (cs := #[.int .i64 ((b0z t115 x30_3).f0), .int .i64 0]) ?_ 1 _ rfl; (with_reducible repeat (first | refine a8z ?_ _ | refine a9z ?_ | refine a7z ?_ _)); refine d0z (cs := #[.int .i64 0, .int .i64 0]) ?_ 0 _ rfl; (with_reducible repeat (first | refine a8z ?_ _ | refine a9z ?_ | refine a7z ?_ _)); exact BK119.1) hb); have n5_ := a1z.mk (b3z (by repeat (first | (with_reducible first | exact HB.1 | apply a3z | apply a0z | apply a2z | refine a6z ?_ GE114.1 | refine a6z ?_ GE119.1) | exact HB.1)) hb); have n6_ := a1z.mk (hbox); have n7_ := a1z.mk ((by rw [hg]; exact (b2z (by repeat (first | (with_reducible first | exact HB.1 | apply a3z | apply a0z | apply a2z | refine a6z ?_ GE114.1 | refine a6z ?_ GE119.1) | exact HB.1))) : w.heap.size ≤ gb120)); have n8_ := a1z.mk ((by rw [hg]; exact (b2z (by repeat (first | (with_reducible first | exact HB.1 | apply a3z | apply a0z | apply a2z | refine a6z ?_ GE114.1 | refine a6z ?_ GE119.1) | exact HB.1))) : w.heap.size ≤ gb120)); have n9_ := a1z.mk ((by rw [hg]; exact Nat.ne_of_lt (g8z (g := gb114) (o := .cells #[.int .i64 ((b0z t103 x23_2).f0), .int .i64 ((b0z t103 x23_2).f1)] 55 (0, 0)) (by (with_reducible repeat (first | refine a8z ?_ _ | refine a9z ?_ | refine a7z ?_ _)); refine f6z ?_ NB114_119.1 _; (with_reducible repeat (first | refine a8z ?_ _ | refine a9z ?_ | refine a7z ?_ _)); refine f6z ?_ NB114_119.1 _; (with_reducible repeat (first | refine a8z ?_ _ | refine a9z ?_ | refine a7z ?_ _)); exact BK114.1)) : gb114 ≠ gb120)); have n10_ := a1z.mk ((by rw [hg]; exact Nat.ne_of_gt (g8z (g := gb114) (o := .cells #[.int .i64 ((b0z t103 x23_2).f0), .int .i64 ((b0z t103 x23_2).f1)] 55 (0, 0)) (by (with_reducible repeat (first | refine a8z ?_ _ | refine a9z ?_ | refine a7z ?_ _)); refine f6z ?_ NB114_119.1 _; (with_reducible repeat (first | refine a8z ?_ _ | refine a9z ?_ | refine a7z ?_ _)); refine f6z ?_ NB114_119.1 _; (with_reducible repeat (first | refine a8z ?_ _ | refine a9z ?_ | refine a7z ?_ _)); exact BK114.1)) : gb120 ≠ gb114)); have n11_ := a1z.mk ((by rw [hg]; exact Nat.ne_of_lt (g8z (g := gb119) (o := .cells #[.int .i64 ((b0z t115 x30_3).f0), .int .i64 ((b0z t115 x30_3).f1)] 55 (0, 0)) (by (with_reducible repeat (first | refine a8z ?_ _ | refine a9z ?_ | refine a7z ?_ _)); refine d0z (cs := #[.int .i64 ((b0z t115 x30_3).f0), .int .i64 0]) ?_ 1 _ rfl; (with_reducible repeat (first | refine a8z ?_ _ | refine a9z ?_ | refine a7z ?_ _)); refine d0z (cs := #[.int .i64 0, .int .i64 0]) ?_ 0 _ rfl; (with_reducible repeat (first | refine a8z ?_ _ | refine a9z ?_ | refine a7z ?_ _)); exact BK119.1)) : gb119 ≠ gb120)); have n12_ := a1z.mk ((by rw [hg]; exact Nat.ne_of_gt (g8z (g := gb119) (o := .cells #[.int .i64 ((b0z t115 x30_3).f0), .int .i64 ((b0z t115 x30_3).f1)] 55 (0, 0)) (by (with_reducible repeat (first | refine a8z ?_ _ | refine a9z ?_ | refine a7z ?_ _)); refine d0z (cs := #[.int .i64 ((b0z t115 x30_3).f0), .int .i64 0]) ?_ 1 _ rfl; (with_reducible repeat (first | refine a8z ?_ _ | refine a9z ?_ | refine a7z ?_ _)); refine d0z (cs := #[.int .i64 0, .int .i64 0]) ?_ 0 _ rfl; (with_reducible repeat (first | refine a8z ?_ _ | refine a9z ?_ | refine a7z ?_ _)); exact BK119.1)) : gb120 ≠ gb119)); clear HO_6; clear HO_21; clear HO_28; clear BK114; clear BK119; clear HB; have HO_6 := n0_; have HO_21 := n1_; have HO_28 := n2_; have BK114 := n3_; have BK119 := n4_; have HB := n5_; have BK120 := n6_; have GW120 := n7_; have GE120 := n8_; have NB114_120 := n9_; have NB120_114 := n10_; have NB119_120 := n11_; have NB120_119 := n12_; clear n0_ n1_ n2_ n3_ n4_ n5_ n6_ n7_ n8_ n9_ n10_ n11_ n12_; clear hb hbox hg; have hnb43 := NB120_114.1; have hnc43 := NB114_120.1; have hnb44 := NB120_119.1; have hnc44 := NB119_120.1; have hcz45_0 : w42.cell? ⟨gb120, 0, none⟩ = some (.int .i64 0) := (b1z BK120.1 0).trans rfl; have hcz45_1 : w42.cell? ⟨gb120, 1, none⟩ = some (.int .i64 0) := (b1z BK120.1 1).trans rfl; have hfz45_0 := b5z BK120.1 0; have hfz45_1 := b5z BK120.1 1))
               go_roundg k3
               case measure => have := HJ2.1; have := HK2.1; have := HK3.1; omega
               case rel => exact ⟨(x6_3), (wrap64 (x30_3 + 1)), (by first | rfl | (simp; done) | (simp [*]; done)), H', ⟨by have := HJ2.1; have := HK2.1; have := HK3.1; omega⟩, ⟨by (with_reducible repeat (first | apply Kd.R_alloc | apply Kd.a4z | apply Kd.a5z)); exact Kd.b9z (Kd.R_far (p := ⟨gb120, 1, none⟩) (Kd.R_far (p := ⟨gb120, 0, none⟩) (Kd.b9z HO_6.1 (fun k_ hk => (⟨hk, hk.2⟩ : _ ∧ k_ ≠ gb120))) (fun _ hk => hk.2) (.int .i64 ji25)) (fun _ hk => hk.2) (.int .i64 ji26)) (fun _ hk => ⟨hk.1.1.1.1, ⟨hk.1.1.1.2.1, hk.1.1.1.2.2⟩⟩)⟩, ⟨by (with_reducible repeat (first | apply Kd.R_alloc | apply Kd.a4z | apply Kd.a5z)); exact Kd.b9z (Kd.R_far (p := ⟨gb120, 1, none⟩) (Kd.R_far (p := ⟨gb120, 0, none⟩) (Kd.b9z HO_21.1 (fun k_ hk => (⟨hk, hk.2⟩ : _ ∧ k_ ≠ gb120))) (fun _ hk => hk.2) (.int .i64 ji25)) (fun _ hk => hk.2) (.int .i64 ji26)) (fun _ hk => ⟨hk.1.1.1.1, ⟨hk.1.1.1.2.1, hk.1.1.1.2.2⟩⟩)⟩, ⟨by (with_reducible repeat (first | apply Kd.R_alloc | apply Kd.a4z | apply Kd.a5z)); exact Kd.b9z (Kd.R_far (p := ⟨gb120, 1, none⟩) (Kd.R_far (p := ⟨gb120, 0, none⟩) (Kd.b9z HO_28.1 (fun k_ hk => (⟨hk, hk.2⟩ : _ ∧ k_ ≠ gb120))) (fun _ hk => hk.2) (.int .i64 ji25)) (fun _ hk => hk.2) (.int .i64 ji26)) (fun _ hk => ⟨hk.1.1.1.1, ⟨hk.1.1.1.2.1, hk.1.1.1.2.2⟩⟩)⟩, ⟨by (with_reducible repeat (first | refine a8z ?_ _ | refine a9z ?_ | refine a7z ?_ _)); refine f6z ?_ NB114_120.1 _; (with_reducible repeat (first | refine a8z ?_ _ | refine a9z ?_ | refine a7z ?_ _)); refine f6z ?_ NB114_120.1 _; (with_reducible repeat (first | refine a8z ?_ _ | refine a9z ?_ | refine a7z ?_ _)); exact BK114.1⟩, ⟨by repeat (first | (with_reducible first | exact HB.1 | apply a3z | apply a0z | apply a2z | refine a6z ?_ GE114.1 | refine a6z ?_ GE119.1 | refine a6z ?_ GE120.1) | exact HB.1)⟩⟩
             ·rw [if_neg c24] at H
              exact absurd H (by simp)
            ·rw [if_neg c23] at H
             exact absurd H (by simp)
           ·rw [if_neg c22] at H
            have c22b0 : decide (x30_3 < (t115.length : Int)) = false := decide_eq_false c22
            clear c22
            have H' := a1z.mk H
            clear H
            go_wp2
            go_roundg k3
            case measure => have := HJ2.1; have := HK2.1; have := HK3.1; omega
            case rel => exact ⟨(x6_3), (wrap64 (x23_2 + 1)), (by first | rfl | (simp; done) | (simp [*]; done)), H', ⟨by have := HJ2.1; have := HK2.1; have := HK3.1; omega⟩, ⟨by (with_reducible repeat (first | apply Kd.R_alloc | apply Kd.a4z | apply Kd.a5z)); exact Kd.b9z HO_6.1 (fun _ hk => hk.1)⟩, ⟨by (with_reducible repeat (first | apply Kd.R_alloc | apply Kd.a4z | apply Kd.a5z)); exact Kd.b9z HO_21.1 (fun _ hk => hk.1)⟩, ⟨by repeat (first | (with_reducible first | exact HB.1 | apply a3z | apply a0z | apply a2z | refine a6z ?_ GE114.1) | exact HB.1)⟩⟩
        ·rw [if_neg c16] at H
         exact absurd H (by simp)
       ·rw [if_neg c15] at H
        exact absurd H (by simp)
      ·rw [if_neg c14] at H
       have c14b0 : decide (x23_2 < (t103.length : Int)) = false := decide_eq_false c14
       clear c14
       replace H := Option.bind_eq_some_iff.mp H
       obtain ⟨t106, A460, H⟩ := H
       replace H : ((impl_limited.f t106).bind fun bt109 => (some (bt109.1, bt109.2))) = some (r1, r2) := H
       have A46 := a1z.mk A460
       clear A460
       replace H := Option.bind_eq_some_iff.mp H
       obtain ⟨⟨t109, t112⟩, A470, H⟩ := H
       replace H : (some (t109, t112)) = some (r1, r2) := H
       have A47 := a1z.mk A470
       clear A470
       simp only [Option.some.injEq, Prod.mk.injEq] at H
       obtain ⟨rfl, rfl⟩ := H
       obtain ⟨Ao48, co48, eo48⟩ := Kd.e1z HO_6.1
       subst eo48
       go_wp2_with (first | ((with_reducible refine b8z (f := 39) rfl ?_); refine c8z (some 57) rfl rfl Try.func39 (by kernel_rfl) rfl #[.slice Ao48 x6_2.length co48] rfl (by (try simp only [List.map_toArray, List.map_cons, List.map_nil]); first | done | rfl | (simp only [List.length_drop, List.length_take]; rfl)) ?_; (with_reducible refine (impl_set.calls k2 _ _ x6_2 t106 _ ?side1 ?side2 A46.1).mono ?_); (case side1 => repeat (first | exact (Kd.c0z HO_6.1).2.2 | (with_reducible refine Kd.C_alloc ?_ _) | (with_reducible refine Kd.C_drewN ?_ _) | (with_reducible refine Kd.C_drew ?_))); (case side2 => exact (Kd.c0z HO_6.1).2.1); rintro e w49 ⟨v107, rfl, ho0, hb⟩; refine ⟨_, rfl, ?_⟩; have n0_ := a1z.mk (Kd.c7z (by (with_reducible repeat (first | apply Kd.R_alloc | apply Kd.a4z | apply Kd.a5z)); exact HO_6.1) hb); have n1_ := a1z.mk (Kd.c7z (by (with_reducible repeat (first | apply Kd.R_alloc | apply Kd.a4z | apply Kd.a5z)); exact HO_21.1) hb); have n2_ := a1z.mk (Kd.d4z ho0 (b2z (by repeat (first | (with_reducible first | exact HB.1 | apply a3z | apply a0z | apply a2z) | exact HB.1)))); have n3_ := a1z.mk (b3z (by repeat (first | (with_reducible first | exact HB.1 | apply a3z | apply a0z | apply a2z) | exact HB.1)) hb); clear HO_6; clear HO_21; clear HB; have HO_6 := n0_; have HO_21 := n1_; have HO108 := n2_; have HB := n3_; clear n0_ n1_ n2_ n3_; (try clear hb); (try clear hb2); (try clear hk); (try clear hi); (try clear ho0); obtain ⟨Ao50, co50, eo50⟩ := Kd.e1z HO108.1; subst eo50) | ((with_reducible refine b8z (f := 43) rfl ?_); refine c8z (some 58) rfl rfl Try.func43 (by kernel_rfl) rfl #[.slice Ao50 t106.length co50] rfl (by (try simp only [List.map_toArray, List.map_cons, List.map_nil]); first | done | rfl | (simp only [List.length_drop, List.length_take]; rfl)) ?_; (with_reducible refine (impl_limited.calls (fun k_ => some k_ = (.slice Ao50 t106.length co50 : Value).ownBlock) (.slice Ao50 t106.length co50) t106 t109 t112 w _ ?side1 ?side2 A47.1).mono ?_); (case side1 => repeat (first | (with_reducible first | exact HB.1 | apply a3z | apply a0z | apply a2z) | exact HB.1)); (case side2 => exact Kd.R_tight rfl HO108.1); rintro e w51 ⟨v110, rfl, ho0, hb, hkp⟩; refine ⟨_, rfl, ?_⟩; have n0_ := a1z.mk (Kd.b9z (ok' := fun k_ => some k_ ≠ (.slice Ao13 t103.length co13 : Value).ownBlock) (Kd.R_keptB ((Kd.i6z HO_6.1 (Kd.R_typed HO108.1) (by decide))) hkp (fun k_ hk_ hs_ => (hk_.2) hs_)) (fun k_ hk_ => hk_.1.1)); have n1_ := a1z.mk (Kd.b9z (ok' := fun k_ => some k_ ≠ (.slice Ao48 x6_2.length co48 : Value).ownBlock) (Kd.R_keptB ((Kd.i6z HO_21.1 (Kd.R_typed HO108.1) (by decide))) hkp (fun k_ hk_ hs_ => (hk_.2) hs_)) (fun k_ hk_ => hk_.1.1)); have n2_ := a1z.mk (Kd.b9z (ok' := fun k_ => True) ho0 (fun k_ hk_ => trivial)); have n3_ := a1z.mk (hb); clear HO_6; clear HO_21; clear HB; clear HO108; have HO_6 := n0_; have HO_21 := n1_; have HO111 := n2_; have HB := n3_; clear n0_ n1_ n2_ n3_; (try clear hb); (try clear hkp); (try clear ho0)))
       go_ret2
       exact ⟨_, by first | rfl | (simp [c2z, c1z] <;> rfl) | (simp [*, c2z, c1z] <;> rfl), by (with_reducible repeat (first | apply Kd.R_alloc | apply Kd.a4z | apply Kd.a5z)); exact HO111.1, by repeat (first | (with_reducible first | exact HB.1 | apply a3z | apply a0z | apply a2z) | exact HB.1)⟩
end Go.Proofs.Ytmdhedkgpgoneaa.Q

namespace Go.Proofs.Ytmdhedkgpgoneaa.Q
open Go.RowKit Go.Proofs.YtmdhedkgpgoneaaW.PrintWords Go.Proofs.YtmdhedkgpgoneaaW.PrintLast Go.Proofs.YtmdhedkgpgoneaaW.PrintMore
attribute [local go_sem] e0z d8z e7z e6z d2z d1z d9z d7z
set_option linter.unusedVariables false
set_option linter.unusedSimpArgs false
def spec_l1Two.l0 : Nat → Int → Int → Option (Int)
 | 0, _, _ => none
 | k + 1, x0, x3 => if x0 > 0 then (spec_l1Two.l0 k (wrap64 (x0 - 1)) (wrap64 (x3 * 2))) else (some x3)
def spec_l1Two.f (k : Nat) (a0 : Int) : Option (Int) := spec_l1Two.l0 k a0 1
set_option maxHeartbeats 8000000 in
set_option maxRecDepth 100000 in
theorem spec_l1Two.calls (k : Nat) (a0 : Int) (r : Int) (w : World) (h : spec_l1Two.f k a0 = some r) :
  Calls Try.prog 59 #[.int .i64 a0] w fun e w' => e = .returned (.int .i64 r) ∧ Drawn0 w w' := by
 have H : (spec_l1Two.l0 k a0 1) = some r := h
 clear h
 have H' := a1z.mk H
 clear H
 go_enter Try.func59, Try.ntmps59
 go_wp2
 go_loopg [0, 3] k (fun kq v0 v3 w' => ∃ (x0_1 : Int) (x3_1 : Int), v0 = .int .i64 x0_1 ∧ v3 = .int .i64 x3_1 ∧ a1z (spec_l1Two.l0 kq x0_1 x3_1 = some r) ∧ a1z (kq ≤ k) ∧ Drawn0 w w')
 case atStart => exact ⟨(a0), (1), (by first | rfl | (simp; done) | (simp [*]; done)), (by first | rfl | (simp; done) | (simp [*]; done)), H', ⟨Nat.le_refl _⟩, by repeat (first | exact Drawn0.refl _ | apply Drawn0.step)⟩
 case round =>
  clear H'
  obtain ⟨x0_1, x3_1, rfl, rfl, HA, HK1, ⟨m1, rfl⟩⟩ := hrel
  cases gk with
  | zero => exact absurd HA.1 (by simp [spec_l1Two.l0])
  | succ k1 =>
   have H := HA.1
   clear HA
   simp only [spec_l1Two.l0] at H
   by_cases c2 : x0_1 > 0
   ·rw [if_pos c2] at H
    have c2b0 : decide (0 < x0_1) = true := decide_eq_true c2
    clear c2
    have H' := a1z.mk H
    clear H
    go_wp2
    go_roundg k1
    case measure => have := HK1.1; omega
    case rel => exact ⟨(wrap64 (x0_1 - 1)), (wrap64 (x3_1 * 2)), (by first | rfl | (simp; done) | (simp [*]; done)), (by first | rfl | (simp; done) | (simp [*]; done)), H', ⟨by have := HK1.1; omega⟩, by repeat (first | exact Drawn0.refl _ | apply Drawn0.step)⟩
   ·rw [if_neg c2] at H
    have c2b0 : decide (0 < x0_1) = false := decide_eq_false c2
    clear c2
    obtain rfl := Option.some.inj H
    go_wp2
    go_ret
    exact ⟨by first | rfl | (simp; done) | (simp [*]; done), by repeat (first | exact Drawn0.refl _ | apply Drawn0.step)⟩
end Go.Proofs.Ytmdhedkgpgoneaa.Q

namespace Go.Proofs.Ytmdhedkgpgoneaa.Q
open Go.RowKit Go.Proofs.YtmdhedkgpgoneaaW.PrintWords Go.Proofs.YtmdhedkgpgoneaaW.PrintLast Go.Proofs.YtmdhedkgpgoneaaW.PrintMore
attribute [local go_sem] e0z d8z e7z e6z d2z d1z d9z d7z
set_option linter.unusedVariables false
set_option linter.unusedSimpArgs false
def spec_l1Size.f (k : Nat) (a0 : Int) : Option (Int) := (spec_l1Two.f k (wrap64 (32 - a0))).bind fun t101 => (some t101)
set_option maxHeartbeats 8000000 in
set_option maxRecDepth 100000 in
theorem spec_l1Size.calls (k : Nat) (a0 : Int) (r : Int) (w : World) (h : spec_l1Size.f k a0 = some r) :
  Calls Try.prog 44 #[.int .i64 a0] w fun e w' => e = .returned (.int .i64 r) ∧ Drawn0 w w' := by
 have H : ((spec_l1Two.f k (wrap64 (32 - a0))).bind fun t101 => (some t101)) = some r := h
 clear h
 replace H := Option.bind_eq_some_iff.mp H
 obtain ⟨t101, A20, H⟩ := H
 replace H : (some t101) = some r := H
 have A2 := a1z.mk A20
 clear A20
 obtain rfl := Option.some.inj H
 go_enter Try.func44, Try.ntmps44
 go_wp2_with (first | ((with_reducible refine b8z (f := 59) rfl ?_); refine c8z (some 5) rfl rfl Try.func59 (by kernel_rfl) rfl #[.int .i64 (wrap64 (32 - a0))] rfl (by (try simp only [List.map_toArray, List.map_cons, List.map_nil]); first | done | rfl | (simp only [List.length_drop, List.length_take]; rfl)) ?_; (with_reducible refine (spec_l1Two.calls k (wrap64 (32 - a0)) t101 _ A2.1).mono ?_); rintro e w' ⟨rfl, ⟨nd, rfl⟩⟩; refine ⟨_, rfl, ?_⟩))
 go_ret
 exact ⟨by first | rfl | (simp; done) | (simp [*]; done), by repeat (first | exact Drawn0.refl _ | apply Drawn0.step)⟩
end Go.Proofs.Ytmdhedkgpgoneaa.Q

namespace Go.Proofs.Ytmdhedkgpgoneaa.Q
open Go.RowKit Go.Proofs.YtmdhedkgpgoneaaW.PrintWords Go.Proofs.YtmdhedkgpgoneaaW.PrintLast Go.Proofs.YtmdhedkgpgoneaaW.PrintMore
attribute [local go_sem] e0z d8z e7z e6z d2z d1z d9z d7z
set_option linter.unusedVariables false
set_option linter.unusedSimpArgs false
def spec_l2First.l0 : Nat → Int → Int → Int → Option (Int × Int)
 | 0, _, _, _ => none
 | k + 1, x0, x1, x5 => (spec_l1Size.f k x5).bind fun t102 => (if t102 = 0 then (none) else (if (Int.tmod x0 t102) = 0 then ((spec_l1Size.f k x5).bind fun t103 => (if (wrap64 ((wrap64 (x0 + t103)) - 1)) > x1 then (spec_l2First.l0 k x0 x1 (wrap64 (x5 + 1))) else (some (x0, x5)))) else (spec_l2First.l0 k x0 x1 (wrap64 (x5 + 1)))))
def spec_l2First.f (k : Nat) (a0 : Int) (a1 : Int) : Option (Int × Int) := spec_l2First.l0 k a0 a1 0
set_option maxHeartbeats 8000000 in
set_option maxRecDepth 100000 in
theorem spec_l2First.calls (k : Nat) (a0 : Int) (a1 : Int) (r1 : Int) (r2 : Int) (w : World) (h : spec_l2First.f k a0 a1 = some (r1, r2)) :
  Calls Try.prog 52 #[.int .i64 a0, .int .i64 a1] w fun e w' => e = .returned (.agg #[.int .i64 r1, .int .i64 r2]) ∧ Below w.heap.size w w' := by
 have hu44 := Try.underlying44
 have HB := a1z.mk (Below.refl w.heap.size w)
 have H : (spec_l2First.l0 k a0 a1 0) = some (r1, r2) := h
 clear h
 have H' := a1z.mk H
 clear H
 go_enter Try.func52, Try.ntmps52
 go_wp2_with (first | ((with_reducible refine d3z (N := 4) rfl ?_); refine d6z ?hg (N := 4) ?hd (cs := #[.int .i64 0, .int .i64 0]) (t := 44) ?hr ?_; (case hd => rfl); (case hg => rfl); (case hr => first | (go_simp; done) | (go_simp; rfl)); intro gb101 hg w3 hbox hb; have n0_ := a1z.mk (b3z (by repeat (first | (with_reducible first | exact HB.1 | apply a3z | apply a0z | apply a2z) | exact HB.1)) hb); have n1_ := a1z.mk (hbox); have n2_ := a1z.mk ((by rw [hg]; exact (b2z (by repeat (first | (with_reducible first | exact HB.1 | apply a3z | apply a0z | apply a2z) | exact HB.1))) : w.heap.size ≤ gb101)); have n3_ := a1z.mk ((by rw [hg]; exact (b2z (by repeat (first | (with_reducible first | exact HB.1 | apply a3z | apply a0z | apply a2z) | exact HB.1))) : w.heap.size ≤ gb101)); clear HB; have HB := n0_; have BK101 := n1_; have GW101 := n2_; have GE101 := n3_; clear n0_ n1_ n2_ n3_; clear hb hbox hg))
 go_loopg [5] k (fun kq v5 w' => ∃ (x5_1 : Int), v5 = .int .i64 x5_1 ∧ a1z (spec_l2First.l0 kq a0 a1 x5_1 = some (r1, r2)) ∧ a1z (kq ≤ k) ∧ a1z (w'.heap[gb101]? = some (.cells #[.int .i64 0, .int .i64 0] 44 (0, 0))) ∧ a1z (Below w.heap.size w w'))
 case atStart => exact ⟨(0), (by first | rfl | (simp; done) | (simp [*]; done)), H', ⟨Nat.le_refl _⟩, ⟨by (with_reducible repeat (first | refine a8z ?_ _ | refine a9z ?_ | refine a7z ?_ _)); exact BK101.1⟩, ⟨by repeat (first | (with_reducible first | exact HB.1 | apply a3z | apply a0z | apply a2z | refine a6z ?_ GE101.1) | exact HB.1)⟩⟩
 case round =>
  clear H'
  try clear p2
  obtain ⟨x5_1, rfl, HA, HK1, BK101, HB⟩ := hrel
  cases gk with
  | zero => exact absurd HA.1 (by simp [spec_l2First.l0])
  | succ k1 =>
   have H := HA.1
   clear HA
   simp only [spec_l2First.l0] at H
   replace H := Option.bind_eq_some_iff.mp H
   obtain ⟨t102, A40, H⟩ := H
   replace H : (if t102 = 0 then (none) else (if (Int.tmod a0 t102) = 0 then ((spec_l1Size.f k1 x5_1).bind fun t103 => (if (wrap64 ((wrap64 (a0 + t103)) - 1)) > a1 then (spec_l2First.l0 k1 a0 a1 (wrap64 (x5_1 + 1))) else (some (a0, x5_1)))) else (spec_l2First.l0 k1 a0 a1 (wrap64 (x5_1 + 1))))) = some (r1, r2) := H
   have A4 := a1z.mk A40
   clear A40
   by_cases c5 : t102 = 0
   ·rw [if_pos c5] at H
    exact absurd H (by simp)
   ·rw [if_neg c5] at H
    have c5b0 : (t102 == 0) = false := beq_eq_false_iff_ne.mpr c5
    have c5b1 : (t102 != 0) = true := bne_iff_ne.mpr c5
    by_cases c6 : (Int.tmod a0 t102) = 0
    ·rw [if_pos c6] at H
     have c6b0 : ((Int.tmod a0 t102) == 0) = true := beq_iff_eq.mpr c6
     have c6b1 : ((Int.tmod a0 t102) != 0) = false := bne_eq_false_iff_eq.mpr c6
     clear c6
     replace H := Option.bind_eq_some_iff.mp H
     obtain ⟨t103, A70, H⟩ := H
     replace H : (if (wrap64 ((wrap64 (a0 + t103)) - 1)) > a1 then (spec_l2First.l0 k1 a0 a1 (wrap64 (x5_1 + 1))) else (some (a0, x5_1))) = some (r1, r2) := H
     have A7 := a1z.mk A70
     clear A70
     by_cases c8 : (wrap64 ((wrap64 (a0 + t103)) - 1)) > a1
     ·rw [if_pos c8] at H
      have c8b0 : decide (a1 < (wrap64 ((wrap64 (a0 + t103)) - 1))) = true := decide_eq_true c8
      clear c8
      have H' := a1z.mk H
      clear H
      go_wp2_with (first | ((with_reducible refine b8z (f := 44) rfl ?_); refine c8z (some 8) rfl rfl Try.func44 (by kernel_rfl) rfl #[.int .i64 x5_1] rfl (by (try simp only [List.map_toArray, List.map_cons, List.map_nil]); first | done | rfl | (simp only [List.length_drop, List.length_take]; rfl)) ?_; (with_reducible refine (spec_l1Size.calls k1 x5_1 t102 _ A4.1).mono ?_); rintro e w' ⟨rfl, ⟨nd, rfl⟩⟩; refine ⟨_, rfl, ?_⟩) | (go_at_call 44; (with_reducible refine (spec_l1Size.calls k1 x5_1 t103 _ A7.1).mono ?_); rintro e w' ⟨rfl, ⟨nd, rfl⟩⟩))
      go_roundg k1
      case measure => have := HK1.1; omega
      case rel => exact ⟨(wrap64 (x5_1 + 1)), (by first | rfl | (simp; done) | (simp [*]; done)), H', ⟨by have := HK1.1; omega⟩, ⟨by (with_reducible repeat (first | refine a8z ?_ _ | refine a9z ?_ | refine a7z ?_ _)); exact BK101.1⟩, ⟨by repeat (first | (with_reducible first | exact HB.1 | apply a3z | apply a0z | apply a2z | refine a6z ?_ GE101.1) | exact HB.1)⟩⟩
     ·rw [if_neg c8] at H
      have c8b0 : decide (a1 < (wrap64 ((wrap64 (a0 + t103)) - 1))) = false := decide_eq_false c8
      clear c8
      simp only [Option.some.injEq, Prod.mk.injEq] at H
      obtain ⟨rfl, rfl⟩ := H
      go_wp2_with (first | ((with_reducible refine b8z (f := 44) rfl ?_); refine c8z (some 8) rfl rfl Try.func44 (by kernel_rfl) rfl #[.int .i64 x5_1] rfl (by (try simp only [List.map_toArray, List.map_cons, List.map_nil]); first | done | rfl | (simp only [List.length_drop, List.length_take]; rfl)) ?_; (with_reducible refine (spec_l1Size.calls k1 x5_1 t102 _ A4.1).mono ?_); rintro e w' ⟨rfl, ⟨nd, rfl⟩⟩; refine ⟨_, rfl, ?_⟩; (try (rw [drewN_self wr]; generalize hq_ : World.drewN wr _ = wr; have n0_ : a1z (wr.heap[gb101]? = some (.cells #[.int .i64 0, .int .i64 0] 44 (0, 0))) := ⟨by rw [← hq_]; exact (by (with_reducible repeat (first | refine a8z ?_ _ | refine a9z ?_ | refine a7z ?_ _)); exact BK101.1)⟩; have n1_ : a1z (Below w.heap.size w wr) := ⟨by rw [← hq_]; exact (by repeat (first | (with_reducible first | exact HB.1 | apply a3z | apply a0z | apply a2z | refine a6z ?_ GE101.1) | exact HB.1))⟩; clear BK101 HB hq_; have BK101 := n0_; have HB := n1_; clear n0_ n1_))) | (go_at_call 44; (with_reducible refine (spec_l1Size.calls k1 x5_1 t103 _ A7.1).mono ?_); rintro e w' ⟨rfl, ⟨nd, rfl⟩⟩; (try (rw [drewN_self wr]; generalize hq_ : World.drewN wr _ = wr; have n0_ : a1z (wr.heap[gb101]? = some (.cells #[.int .i64 0, .int .i64 0] 44 (0, 0))) := ⟨by rw [← hq_]; exact (by (with_reducible repeat (first | refine a8z ?_ _ | refine a9z ?_ | refine a7z ?_ _)); exact BK101.1)⟩; have n1_ : a1z (Below w.heap.size w wr) := ⟨by rw [← hq_]; exact (by repeat (first | (with_reducible first | exact HB.1 | apply a3z | apply a0z | apply a2z | refine a6z ?_ GE101.1) | exact HB.1))⟩; clear BK101 HB hq_; have BK101 := n0_; have HB := n1_; clear n0_ n1_)); have hcz9_0 : wr.cell? ⟨gb101, 0, none⟩ = some (.int .i64 0) := (b1z BK101.1 0).trans rfl; have hcz9_1 : wr.cell? ⟨gb101, 1, none⟩ = some (.int .i64 0) := (b1z BK101.1 1).trans rfl; have hfz9_0 := b5z BK101.1 0; have hfz9_1 := b5z BK101.1 1))
      refine bodyPost_ret (results_cell_row rfl _ _ gb101 44 #[.int .i64 a0, .int .i64 x5_1] (0, 0) _ rfl (by (with_reducible repeat (first | refine a8z ?_ _ | refine a9z ?_ | refine a7z ?_ _)); refine d0z (cs := #[.int .i64 a0, .int .i64 0]) ?_ 1 _ rfl; (with_reducible repeat (first | refine a8z ?_ _ | refine a9z ?_ | refine a7z ?_ _)); refine d0z (cs := #[.int .i64 0, .int .i64 0]) ?_ 0 _ rfl; (with_reducible repeat (first | refine a8z ?_ _ | refine a9z ?_ | refine a7z ?_ _)); exact BK101.1) Try.underlying44 rfl (by kernel_rfl)) rfl ?_
      exact ⟨by first | rfl | (simp [c2z, c1z] <;> rfl) | (simp [*, c2z, c1z] <;> rfl), by repeat (first | (with_reducible first | exact HB.1 | apply a3z | apply a0z | apply a2z | refine a6z ?_ GE101.1) | exact HB.1)⟩
    ·rw [if_neg c6] at H
     have c6b0 : ((Int.tmod a0 t102) == 0) = false := beq_eq_false_iff_ne.mpr c6
     have c6b1 : ((Int.tmod a0 t102) != 0) = true := bne_iff_ne.mpr c6
     have H' := a1z.mk H
     clear H
     go_wp2_with (first | ((with_reducible refine b8z (f := 44) rfl ?_); refine c8z (some 8) rfl rfl Try.func44 (by kernel_rfl) rfl #[.int .i64 x5_1] rfl (by (try simp only [List.map_toArray, List.map_cons, List.map_nil]); first | done | rfl | (simp only [List.length_drop, List.length_take]; rfl)) ?_; (with_reducible refine (spec_l1Size.calls k1 x5_1 t102 _ A4.1).mono ?_); rintro e w' ⟨rfl, ⟨nd, rfl⟩⟩; refine ⟨_, rfl, ?_⟩))
     go_roundg k1
     case measure => have := HK1.1; omega
     case rel => exact ⟨(wrap64 (x5_1 + 1)), (by first | rfl | (simp; done) | (simp [*]; done)), H', ⟨by have := HK1.1; omega⟩, ⟨by (with_reducible repeat (first | refine a8z ?_ _ | refine a9z ?_ | refine a7z ?_ _)); exact BK101.1⟩, ⟨by repeat (first | (with_reducible first | exact HB.1 | apply a3z | apply a0z | apply a2z | refine a6z ?_ GE101.1) | exact HB.1)⟩⟩
end Go.Proofs.Ytmdhedkgpgoneaa.Q

namespace Go.Proofs.Ytmdhedkgpgoneaa.Q
open Go.RowKit Go.Proofs.YtmdhedkgpgoneaaW.PrintWords Go.Proofs.YtmdhedkgpgoneaaW.PrintLast Go.Proofs.YtmdhedkgpgoneaaW.PrintMore
attribute [local go_sem] e0z d8z e7z e6z d2z d1z d9z d7z
set_option linter.unusedVariables false
set_option linter.unusedSimpArgs false
mutual
def spec_l2Cover.l0 : Nat → List (S63) → List (S44) → Int → Option ((List (S44)))
 | 0, _, _, _ => none
 | k + 1, x0, x3, x4 => if x4 < (x0.length : Int) then (if 0 ≤ x4 then (spec_l2Cover.l1 k x0 x3 x4 ((c3z x0 x4).f0)) else (none)) else (some x3)
def spec_l2Cover.l1 : Nat → List (S63) → List (S44) → Int → Int → Option ((List (S44)))
 | 0, _, _, _, _ => none
 | k + 1, x0, x3, x4, x5 => if 0 ≤ x4 then (if x4 < (x0.length : Int) then (if x5 ≤ ((c3z x0 x4).f1) then ((spec_l2First.f k x5 ((c3z x0 x4).f1)).bind fun bt107 => (if x3.length < 8796093022208 then ((spec_l1Size.f k bt107.2).bind fun t113 => (spec_l2Cover.l1 k x0 (x3 ++ [(⟨bt107.1, bt107.2⟩ : S44)]) x4 (wrap64 (x5 + t113)))) else (none))) else (spec_l2Cover.l0 k x0 x3 (wrap64 (x4 + 1)))) else (none)) else (none)
end
def spec_l2Cover.f (k : Nat) (l0 : List (S63)) : Option ((List (S44))) := spec_l2Cover.l0 k l0 (([] : List (S44))) 0
set_option maxHeartbeats 8000000 in
set_option maxRecDepth 100000 in
theorem spec_l2Cover.calls (k : Nat) (A0 : Option Addr) (c0 : Nat) (l0 : List (S63)) (r : List (S44)) (w : World) (hr0 : Kd.C k63 w A0 l0.length l0) (hc0 : l0.length ≤ c0) (h : spec_l2Cover.f k l0 = some r) :
  Calls Try.prog 34 #[.slice A0 l0.length c0] w fun e w' => ∃ v0_ : Value, e = .returned (v0_) ∧ Kd.R k44 44 w' w.heap.size (fun _ => True) v0_ r ∧ Below w.heap.size w w' := by
 have hu44 := Try.underlying44
 have HR0 := a1z.mk hr0
 have HC0 := a1z.mk hc0
 clear hr0 hc0
 have HB := a1z.mk (Below.refl w.heap.size w)
 have H : (spec_l2Cover.l0 k l0 (([] : List (S44))) 0) = some r := h
 clear h
 obtain ⟨y101, hy101⟩ : ∃ y_ : List (S44), y_ = (([] : List (S44))) := ⟨_, rfl⟩
 replace H : (spec_l2Cover.l0 k l0 y101 0) = some r := by first | (rw [hy101]; with_reducible exact H) | (have H2_ := (Option.bind_some _ _).symm.trans H; rw [hy101]; with_reducible exact H2_) | (have H2_ := (Option.bind_some _ _).symm.trans H; with_reducible exact H2_) | with_reducible exact H | (rw [hy101]; exact H) | exact H
 have Ny101 := a1z.mk hy101
 clear hy101
 have H' := a1z.mk H
 clear H
 go_enter Try.func34, Try.ntmps34
 go_wp2_with (first | ((with_reducible refine d3z (N := 7) rfl ?_); refine Kd.R_lit k44 _ 44 ?hg (N := 7) ?hd (xs := ([] : List (S44))) (inner := []) (ok := fun _ => True) (okp := fun _ => True) ?hr ?hp (fun _ hk => hk) trivial (Below.refl _ _) (Nat.le_refl _) (by simp) ?_; (case hd => rfl); (case hg => rfl); (case hr => first | (go_simp; done) | (go_simp; rfl)); (case hp => exact (Reps.none _ _)); intro v102 w2 ho3 hb hg_ hnew_; clear hg_ hnew_; (first | rw [← Ny101.1] at ho3 | (simp only [Int.reduceToNat] at ho3; rw [← Ny101.1] at ho3)); have n0_ := a1z.mk (Kd.d4z ho3 (b2z (by repeat (first | (with_reducible first | exact HB.1 | apply a3z | apply a0z | apply a2z) | exact HB.1)))); have n1_ := a1z.mk (b3z (by repeat (first | (with_reducible first | exact HB.1 | apply a3z | apply a0z | apply a2z) | exact HB.1)) hb); clear HB; have HO103 := n0_; have HB := n1_; clear n0_ n1_; clear hb ho3))
 go_loopg [3, 4] k (fun kq v3 v4 w' => ∃ (x3_1 : List (S44)) (x4_1 : Int), v4 = .int .i64 x4_1 ∧ a1z (spec_l2Cover.l0 kq l0 x3_1 x4_1 = some r) ∧ a1z (kq ≤ k) ∧ a1z (Kd.R k44 44 w' w.heap.size (fun _ => True) v3 x3_1) ∧ a1z (Below w.heap.size w w'))
 case atStart => exact ⟨(y101), (0), (by first | rfl | (simp; done) | (simp [*]; done)), H', ⟨Nat.le_refl _⟩, ⟨by (with_reducible repeat (first | apply Kd.R_alloc | apply Kd.a4z | apply Kd.a5z)); exact HO103.1⟩, ⟨by repeat (first | (with_reducible first | exact HB.1 | apply a3z | apply a0z | apply a2z) | exact HB.1)⟩⟩
 case round =>
  clear H'
  try clear p2
  try clear c3
  obtain ⟨x3_1, x4_1, rfl, HA, HK1, HO_3, HB⟩ := hrel
  cases gk with
  | zero => exact absurd HA.1 (by simp [spec_l2Cover.l0])
  | succ k1 =>
   have H := HA.1
   clear HA
   simp only [spec_l2Cover.l0] at H
   by_cases c4 : x4_1 < (l0.length : Int)
   ·rw [if_pos c4] at H
    have c4b0 : decide (x4_1 < (l0.length : Int)) = true := decide_eq_true c4
    clear c4
    by_cases c5 : 0 ≤ x4_1
    ·rw [if_pos c5] at H
     have c5b0 : decide (0 ≤ x4_1) = true := decide_eq_true c5
     clear c5
     have H' := a1z.mk H
     clear H
     have p104 : 0 ≤ (x4_1 : Int) := of_decide_eq_true (by first | (with_reducible assumption) | assumption)
     have q104 : x4_1 < (l0.length : Int) := of_decide_eq_true (by first | (with_reducible assumption) | assumption)
     obtain ⟨ad104, e104, hx104_0, hx104_1⟩ := g6z HR0.1 x4_1 p104 q104
     cases e104
     replace hx104_0 := (HB.1.cell (World.block_lt_of_cell? w _ hx104_0)).trans hx104_0
     replace hx104_1 := (HB.1.cell (World.block_lt_of_cell? w _ hx104_1)).trans hx104_1
     replace p104 := eq_true p104
     replace q104 := eq_true q104
     go_wp2
     go_loopg [3, 5] k1 (fun kq v3 v5 w' => ∃ (x3_2 : List (S44)) (x5_2 : Int), v5 = .int .i64 x5_2 ∧ a1z (spec_l2Cover.l1 kq l0 x3_2 x4_1 x5_2 = some r) ∧ a1z (kq ≤ k1) ∧ a1z (Kd.R k44 44 w' w.heap.size (fun _ => True) v3 x3_2) ∧ a1z (Below w.heap.size w w'))
     case atStart => exact ⟨(x3_1), ((c3z l0 x4_1).f0), (by first | rfl | (simp; done) | (simp [*]; done)), H', ⟨Nat.le_refl _⟩, ⟨by (with_reducible repeat (first | apply Kd.R_alloc | apply Kd.a4z | apply Kd.a5z)); exact HO_3.1⟩, ⟨by repeat (first | (with_reducible first | exact HB.1 | apply a3z | apply a0z | apply a2z) | exact HB.1)⟩⟩
     case round =>
      clear H'
      try clear p1
      try clear q1
      try clear hx1
      try clear p2
      try clear c3
      try clear c4
      try clear c4b0
      try clear c5
      try clear c5b0
      try clear hx104_0
      try clear hx104_1
      try clear p104
      try clear p2
      try clear q104
      obtain ⟨x3_2, x5_2, rfl, HA, HK2, HO_3, HB⟩ := hrel
      cases gk with
      | zero => exact absurd HA.1 (by simp [spec_l2Cover.l1])
      | succ k2 =>
       have H := HA.1
       clear HA
       simp only [spec_l2Cover.l1] at H
       by_cases c6 : 0 ≤ x4_1
       ·rw [if_pos c6] at H
        have c6b0 : decide (0 ≤ x4_1) = true := decide_eq_true c6
        clear c6
        by_cases c7 : x4_1 < (l0.length : Int)
        ·rw [if_pos c7] at H
         have c7b0 : decide (x4_1 < (l0.length : Int)) = true := decide_eq_true c7
         clear c7
         by_cases c8 : x5_2 ≤ ((c3z l0 x4_1).f1)
         ·rw [if_pos c8] at H
          have c8b0 : decide (x5_2 ≤ ((c3z l0 x4_1).f1)) = true := decide_eq_true c8
          clear c8
          replace H := Option.bind_eq_some_iff.mp H
          obtain ⟨⟨t107, t108⟩, A90, H⟩ := H
          replace H : (if x3_2.length < 8796093022208 then ((spec_l1Size.f k2 t108).bind fun t113 => (spec_l2Cover.l1 k2 l0 (x3_2 ++ [(⟨t107, t108⟩ : S44)]) x4_1 (wrap64 (x5_2 + t113)))) else (none)) = some r := H
          have A9 := a1z.mk A90
          clear A90
          by_cases c10 : x3_2.length < 8796093022208
          ·rw [if_pos c10] at H
           have LMc10 := a1z.mk c10
           clear c10
           obtain ⟨y110, hy110⟩ : ∃ y_ : List (S44), y_ = (x3_2 ++ [(⟨t107, t108⟩ : S44)]) := ⟨_, rfl⟩
           replace H : ((spec_l1Size.f k2 t108).bind fun t113 => (spec_l2Cover.l1 k2 l0 y110 x4_1 (wrap64 (x5_2 + t113)))) = some r := by first | (rw [hy110]; with_reducible exact H) | (have H2_ := (Option.bind_some _ _).symm.trans H; rw [hy110]; with_reducible exact H2_) | (have H2_ := (Option.bind_some _ _).symm.trans H; with_reducible exact H2_) | with_reducible exact H | (rw [hy110]; exact H) | exact H
           have Ny110 := a1z.mk hy110
           clear hy110
           replace H := Option.bind_eq_some_iff.mp H
           obtain ⟨t113, A110, H⟩ := H
           replace H : (spec_l2Cover.l1 k2 l0 y110 x4_1 (wrap64 (x5_2 + t113))) = some r := H
           have A11 := a1z.mk A110
           clear A110
           have H' := a1z.mk H
           clear H
           have p105 : 0 ≤ (x4_1 : Int) := of_decide_eq_true (by first | (with_reducible assumption) | assumption)
           have q105 : x4_1 < (l0.length : Int) := of_decide_eq_true (by first | (with_reducible assumption) | assumption)
           obtain ⟨ad105, e105, hx105_0, hx105_1⟩ := g6z HR0.1 x4_1 p105 q105
           obtain rfl : ad104 = ad105 := (by injection e105)
           replace hx105_0 := (HB.1.cell (World.block_lt_of_cell? w _ hx105_0)).trans hx105_0
           replace hx105_1 := (HB.1.cell (World.block_lt_of_cell? w _ hx105_1)).trans hx105_1
           replace p105 := eq_true p105
           replace q105 := eq_true q105
           have p106 : 0 ≤ (x4_1 : Int) := of_decide_eq_true (by first | (with_reducible assumption) | assumption)
           have q106 : x4_1 < (l0.length : Int) := of_decide_eq_true (by first | (with_reducible assumption) | assumption)
           obtain ⟨ad106, e106, hx106_0, hx106_1⟩ := g6z HR0.1 x4_1 p106 q106
           obtain rfl : ad104 = ad106 := (by injection e106)
           replace hx106_0 := (HB.1.cell (World.block_lt_of_cell? w _ hx106_0)).trans hx106_0
           replace hx106_1 := (HB.1.cell (World.block_lt_of_cell? w _ hx106_1)).trans hx106_1
           replace p106 := eq_true p106
           replace q106 := eq_true q106
           go_wp2_with (first | ((with_reducible refine b8z (f := 52) rfl ?_); refine c8z (some 32) rfl rfl Try.func52 (by kernel_rfl) rfl #[.int .i64 x5_2, .int .i64 ((c3z l0 x4_1).f1)] rfl (by (try simp only [List.map_toArray, List.map_cons, List.map_nil]); first | done | rfl | (simp only [List.length_drop, List.length_take]; rfl)) ?_; (with_reducible refine (spec_l2First.calls k2 x5_2 ((c3z l0 x4_1).f1) t107 t108 _ A9.1).mono ?_); rintro e w12 ⟨rfl, hb⟩; refine ⟨_, rfl, ?_⟩; have n0_ := a1z.mk (Kd.c7z (by (with_reducible repeat (first | apply Kd.R_alloc | apply Kd.a4z | apply Kd.a5z)); exact HO_3.1) hb); have n1_ := a1z.mk (b3z (by repeat (first | (with_reducible first | exact HB.1 | apply a3z | apply a0z | apply a2z) | exact HB.1)) hb); clear HO_3; clear HB; have HO_3 := n0_; have HB := n1_; clear n0_ n1_; (try clear hb); (try clear hb2); (try clear hk); (try clear hi)) | ((with_reducible refine d3z (N := 6) rfl ?_); refine d6z ?hg (N := 6) ?hd (cs := #[.int .i64 0, .int .i64 0]) (t := 44) ?hr ?_; (case hd => rfl); (case hg => rfl); (case hr => first | (go_simp; done) | (go_simp; rfl)); intro gb109 hg w13 hbox hb; have n0_ := a1z.mk (Kd.c7z (Kd.f4z (by (with_reducible repeat (first | apply Kd.R_alloc | apply Kd.a4z | apply Kd.a5z)); exact HO_3.1) gb109 (Nat.le_of_eq hg.symm)) hb); have n1_ := a1z.mk (b3z (by repeat (first | (with_reducible first | exact HB.1 | apply a3z | apply a0z | apply a2z) | exact HB.1)) hb); have n2_ := a1z.mk (hbox); have n3_ := a1z.mk ((by rw [hg]; exact (b2z (by repeat (first | (with_reducible first | exact HB.1 | apply a3z | apply a0z | apply a2z) | exact HB.1))) : w.heap.size ≤ gb109)); have n4_ := a1z.mk ((by rw [hg]; exact (b2z (by repeat (first | (with_reducible first | exact HB.1 | apply a3z | apply a0z | apply a2z) | exact HB.1))) : w.heap.size ≤ gb109)); clear HO_3; clear HB; have HO_3 := n0_; have HB := n1_; have BK109 := n2_; have GW109 := n3_; have GE109 := n4_; clear n0_ n1_ n2_ n3_ n4_; clear hb hbox hg; have hcz14_0 : w13.cell? ⟨gb109, 0, none⟩ = some (.int .i64 0) := (b1z BK109.1 0).trans rfl; have hcz14_1 : w13.cell? ⟨gb109, 1, none⟩ = some (.int .i64 0) := (b1z BK109.1 1).trans rfl; have hfz14_0 := b5z BK109.1 0; have hfz14_1 := b5z BK109.1 1) | ((with_reducible refine e9z (b := .append) (xs := #[.tmp 33, .tmp 35]) rfl ?_); at_builtin; refine Kd.g4z k44 (w0 := w) w.heap.size rfl (.tmp 33) (.tmp 35) 25 44 (.agg #[(.int .i64 0), (.int .i64 0)]) 16 rfl Try.underlying25 info44 rfl (by decide) (by omega) u3 x3_2 (⟨t107, t108⟩ : S44) [.int .i64 t107, .int .i64 t108] (fun k_ => k_ ≠ gb109) (fun _ => False) rfl (by first | (go_simp; done) | (go_simp; rfl)) ?aP (fun _ hk => hk.elim) ?aF ?aO ?aB ?aS ?aL ?_; (case aP => exact k44_mkM _ _ _ (⟨t107, t108⟩ : S44)); (case aB => exact (by repeat (first | (with_reducible first | exact HB.1 | apply a3z | apply a0z | apply a2z | refine a6z ?_ GE109.1) | exact HB.1))); (case aF => exact (fun k_ hk => Kd.freshB (g := gb109) (o := .cells #[.int .i64 t107, .int .i64 t108] 44 (0, 0)) (by (with_reducible repeat (first | refine a8z ?_ _ | refine a9z ?_ | refine a7z ?_ _)); refine d0z (cs := #[.int .i64 t107, .int .i64 0]) ?_ 1 _ rfl; (with_reducible repeat (first | refine a8z ?_ _ | refine a9z ?_ | refine a7z ?_ _)); refine d0z (cs := #[.int .i64 0, .int .i64 0]) ?_ 0 _ rfl; (with_reducible repeat (first | refine a8z ?_ _ | refine a9z ?_ | refine a7z ?_ _)); exact BK109.1) k_ hk)); (case aO => exact (by (with_reducible repeat (first | apply Kd.R_alloc | apply Kd.a4z | apply Kd.a5z)); exact Kd.b9z (Kd.R_far (p := ⟨gb109, 1, none⟩) (Kd.R_far (p := ⟨gb109, 0, none⟩) (Kd.b9z HO_3.1 (fun k_ hk => (⟨hk, hk.2⟩ : _ ∧ k_ ≠ gb109))) (fun _ hk => hk.2) (.int .i64 t107)) (fun _ hk => hk.2) (.int .i64 t108)) (fun _ hk => hk.1.2))); (case aS => exact (b2z (by repeat (first | (with_reducible first | exact HB.1 | apply a3z | apply a0z | apply a2z | refine a6z ?_ GE109.1) | exact HB.1)))); (case aL => have := LMc10.1; omega); intro v111 w15 ho hb hg hat; rw [← Ny110.1] at ho; have n0_ := a1z.mk (f0z (g := gb109) (o := .cells #[.int .i64 t107, .int .i64 t108] 44 (0, 0)) (by (with_reducible repeat (first | refine a8z ?_ _ | refine a9z ?_ | refine a7z ?_ _)); refine d0z (cs := #[.int .i64 t107, .int .i64 0]) ?_ 1 _ rfl; (with_reducible repeat (first | refine a8z ?_ _ | refine a9z ?_ | refine a7z ?_ _)); refine d0z (cs := #[.int .i64 0, .int .i64 0]) ?_ 0 _ rfl; (with_reducible repeat (first | refine a8z ?_ _ | refine a9z ?_ | refine a7z ?_ _)); exact BK109.1) hg (Kd.h0z HO_3.1 (fun _ hk => hk.2))); have n1_ := a1z.mk (hb); have n2_ := a1z.mk (ho); clear BK109; clear HB; clear HO_3; have BK109 := n0_; have HB := n1_; have HO112 := n2_; clear n0_ n1_ n2_; clear ho hb hg hat; have hcz16_0 : w15.cell? ⟨gb109, 0, none⟩ = some (.int .i64 t107) := (b1z BK109.1 0).trans rfl; have hcz16_1 : w15.cell? ⟨gb109, 1, none⟩ = some (.int .i64 t108) := (b1z BK109.1 1).trans rfl; have hfz16_0 := b5z BK109.1 0; have hfz16_1 := b5z BK109.1 1) | ((with_reducible refine b8z (f := 44) rfl ?_); refine c8z (some 40) rfl rfl Try.func44 (by kernel_rfl) rfl #[.int .i64 t108] rfl (by (try simp only [List.map_toArray, List.map_cons, List.map_nil]); first | done | rfl | (simp only [List.length_drop, List.length_take]; rfl)) ?_; (with_reducible refine (spec_l1Size.calls k2 t108 t113 _ A11.1).mono ?_); rintro e w' ⟨rfl, ⟨nd, rfl⟩⟩; refine ⟨_, rfl, ?_⟩))
           go_roundg k2
           case measure => have := HK1.1; have := HK2.1; omega
           case rel => exact ⟨(y110), (wrap64 (x5_2 + t113)), (by first | rfl | (simp; done) | (simp [*]; done)), H', ⟨by have := HK1.1; have := HK2.1; omega⟩, ⟨by (with_reducible repeat (first | apply Kd.R_alloc | apply Kd.a4z | apply Kd.a5z)); exact Kd.b9z HO112.1 (fun _ hk => trivial)⟩, ⟨by repeat (first | (with_reducible first | exact HB.1 | apply a3z | apply a0z | apply a2z | refine a6z ?_ GE109.1) | exact HB.1)⟩⟩
          ·rw [if_neg c10] at H
           exact absurd H (by simp)
         ·rw [if_neg c8] at H
          have c8b0 : decide (x5_2 ≤ ((c3z l0 x4_1).f1)) = false := decide_eq_false c8
          clear c8
          have H' := a1z.mk H
          clear H
          have p105 : 0 ≤ (x4_1 : Int) := of_decide_eq_true (by first | (with_reducible assumption) | assumption)
          have q105 : x4_1 < (l0.length : Int) := of_decide_eq_true (by first | (with_reducible assumption) | assumption)
          obtain ⟨ad105, e105, hx105_0, hx105_1⟩ := g6z HR0.1 x4_1 p105 q105
          obtain rfl : ad104 = ad105 := (by injection e105)
          replace hx105_0 := (HB.1.cell (World.block_lt_of_cell? w _ hx105_0)).trans hx105_0
          replace hx105_1 := (HB.1.cell (World.block_lt_of_cell? w _ hx105_1)).trans hx105_1
          replace p105 := eq_true p105
          replace q105 := eq_true q105
          go_wp2
          go_roundg k2
          case measure => have := HK1.1; have := HK2.1; omega
          case rel => exact ⟨(x3_2), (wrap64 (x4_1 + 1)), (by first | rfl | (simp; done) | (simp [*]; done)), H', ⟨by have := HK1.1; have := HK2.1; omega⟩, ⟨by (with_reducible repeat (first | apply Kd.R_alloc | apply Kd.a4z | apply Kd.a5z)); exact HO_3.1⟩, ⟨by repeat (first | (with_reducible first | exact HB.1 | apply a3z | apply a0z | apply a2z) | exact HB.1)⟩⟩
        ·rw [if_neg c7] at H
         exact absurd H (by simp)
       ·rw [if_neg c6] at H
        exact absurd H (by simp)
    ·rw [if_neg c5] at H
     exact absurd H (by simp)
   ·rw [if_neg c4] at H
    have c4b0 : decide (x4_1 < (l0.length : Int)) = false := decide_eq_false c4
    clear c4
    obtain rfl := Option.some.inj H
    go_wp2
    go_ret
    exact ⟨_, by first | rfl | (simp [c2z, c1z] <;> rfl) | (simp [*, c2z, c1z] <;> rfl), by (with_reducible repeat (first | apply Kd.R_alloc | apply Kd.a4z | apply Kd.a5z)); exact HO_3.1, by repeat (first | (with_reducible first | exact HB.1 | apply a3z | apply a0z | apply a2z) | exact HB.1)⟩
end Go.Proofs.Ytmdhedkgpgoneaa.Q

namespace Go.Proofs.Ytmdhedkgpgoneaa.Q
open Go.RowKit Go.Proofs.YtmdhedkgpgoneaaW.PrintWords Go.Proofs.YtmdhedkgpgoneaaW.PrintLast Go.Proofs.YtmdhedkgpgoneaaW.PrintMore
attribute [local go_sem] e0z d8z e7z e6z d2z d1z d9z d7z
set_option linter.unusedVariables false
set_option linter.unusedSimpArgs false
def spec_l1Last.f (k : Nat) (a0_0 : Int) (a0_1 : Int) : Option (Int) := (spec_l1Size.f k a0_1).bind fun t102 => (some (wrap64 ((wrap64 (a0_0 + t102)) - 1)))
set_option maxHeartbeats 8000000 in
set_option maxRecDepth 100000 in
theorem spec_l1Last.calls (k : Nat) (a0_0 : Int) (a0_1 : Int) (r : Int) (w : World) (h : spec_l1Last.f k a0_0 a0_1 = some r) :
  Calls Try.prog 53 #[.agg #[.int .i64 a0_0, .int .i64 a0_1]] w fun e w' => e = .returned (.int .i64 r) ∧ Below w.heap.size w w' := by
 have hu44 := Try.underlying44
 have HB := a1z.mk (Below.refl w.heap.size w)
 have H : ((spec_l1Size.f k a0_1).bind fun t102 => (some (wrap64 ((wrap64 (a0_0 + t102)) - 1)))) = some r := h
 clear h
 replace H := Option.bind_eq_some_iff.mp H
 obtain ⟨t102, A20, H⟩ := H
 replace H : (some (wrap64 ((wrap64 (a0_0 + t102)) - 1))) = some r := H
 have A2 := a1z.mk A20
 clear A20
 obtain rfl := Option.some.inj H
 go_enter Try.func53, Try.ntmps53
 go_wp2_with (first | ((with_reducible refine d3z (N := 1) rfl ?_); refine d6z ?hg (N := 1) ?hd (cs := #[.int .i64 a0_0, .int .i64 a0_1]) (t := 44) ?hr ?_; (case hd => rfl); (case hg => rfl); (case hr => first | (go_simp; done) | (go_simp; rfl)); intro gb101 hg w3 hbox hb; have n0_ := a1z.mk (b3z (by repeat (first | (with_reducible first | exact HB.1 | apply a3z | apply a0z | apply a2z) | exact HB.1)) hb); have n1_ := a1z.mk (hbox); have n2_ := a1z.mk ((by rw [hg]; exact (b2z (by repeat (first | (with_reducible first | exact HB.1 | apply a3z | apply a0z | apply a2z) | exact HB.1))) : w.heap.size ≤ gb101)); have n3_ := a1z.mk ((by rw [hg]; exact (b2z (by repeat (first | (with_reducible first | exact HB.1 | apply a3z | apply a0z | apply a2z) | exact HB.1))) : w.heap.size ≤ gb101)); clear HB; have HB := n0_; have BK101 := n1_; have GW101 := n2_; have GE101 := n3_; clear n0_ n1_ n2_ n3_; clear hb hbox hg; have hcz4_0 : w3.cell? ⟨gb101, 0, none⟩ = some (.int .i64 a0_0) := (b1z BK101.1 0).trans rfl; have hcz4_1 : w3.cell? ⟨gb101, 1, none⟩ = some (.int .i64 a0_1) := (b1z BK101.1 1).trans rfl; have hfz4_0 := b5z BK101.1 0; have hfz4_1 := b5z BK101.1 1) | (go_at_call 44; (with_reducible refine (spec_l1Size.calls k a0_1 t102 _ A2.1).mono ?_); rintro e w' ⟨rfl, ⟨nd, rfl⟩⟩; (try first | exact ⟨rfl, _, World.drewN_drewN _ _ _⟩ | exact ⟨rfl, _, Eq.trans (World.drewN_drewN _ _ _) (congrArg (World.drewN _) (Nat.add_assoc _ _ _))⟩)))
 repeat (go_quiet (first | ((with_reducible refine d3z (N := 1) rfl ?_); refine d6z ?hg (N := 1) ?hd (cs := #[.int .i64 a0_0, .int .i64 a0_1]) (t := 44) ?hr ?_; (case hd => rfl); (case hg => rfl); (case hr => first | (go_simp; done) | (go_simp; rfl)); intro gb101 hg w3 hbox hb; have n0_ := a1z.mk (b3z (by repeat (first | (with_reducible first | exact HB.1 | apply a3z | apply a0z | apply a2z) | exact HB.1)) hb); have n1_ := a1z.mk (hbox); have n2_ := a1z.mk ((by rw [hg]; exact (b2z (by repeat (first | (with_reducible first | exact HB.1 | apply a3z | apply a0z | apply a2z) | exact HB.1))) : w.heap.size ≤ gb101)); have n3_ := a1z.mk ((by rw [hg]; exact (b2z (by repeat (first | (with_reducible first | exact HB.1 | apply a3z | apply a0z | apply a2z) | exact HB.1))) : w.heap.size ≤ gb101)); clear HB; have HB := n0_; have BK101 := n1_; have GW101 := n2_; have GE101 := n3_; clear n0_ n1_ n2_ n3_; clear hb hbox hg; have hcz4_0 : w3.cell? ⟨gb101, 0, none⟩ = some (.int .i64 a0_0) := (b1z BK101.1 0).trans rfl; have hcz4_1 : w3.cell? ⟨gb101, 1, none⟩ = some (.int .i64 a0_1) := (b1z BK101.1 1).trans rfl; have hfz4_0 := b5z BK101.1 0; have hfz4_1 := b5z BK101.1 1) | (go_at_call 44; (with_reducible refine (spec_l1Size.calls k a0_1 t102 _ A2.1).mono ?_); rintro e w' ⟨rfl, ⟨nd, rfl⟩⟩; (try first | exact ⟨rfl, _, World.drewN_drewN _ _ _⟩ | exact ⟨rfl, _, Eq.trans (World.drewN_drewN _ _ _) (congrArg (World.drewN _) (Nat.add_assoc _ _ _))⟩))); try go_wp2_with (first | ((with_reducible refine d3z (N := 1) rfl ?_); refine d6z ?hg (N := 1) ?hd (cs := #[.int .i64 a0_0, .int .i64 a0_1]) (t := 44) ?hr ?_; (case hd => rfl); (case hg => rfl); (case hr => first | (go_simp; done) | (go_simp; rfl)); intro gb101 hg w3 hbox hb; have n0_ := a1z.mk (b3z (by repeat (first | (with_reducible first | exact HB.1 | apply a3z | apply a0z | apply a2z) | exact HB.1)) hb); have n1_ := a1z.mk (hbox); have n2_ := a1z.mk ((by rw [hg]; exact (b2z (by repeat (first | (with_reducible first | exact HB.1 | apply a3z | apply a0z | apply a2z) | exact HB.1))) : w.heap.size ≤ gb101)); have n3_ := a1z.mk ((by rw [hg]; exact (b2z (by repeat (first | (with_reducible first | exact HB.1 | apply a3z | apply a0z | apply a2z) | exact HB.1))) : w.heap.size ≤ gb101)); clear HB; have HB := n0_; have BK101 := n1_; have GW101 := n2_; have GE101 := n3_; clear n0_ n1_ n2_ n3_; clear hb hbox hg; have hcz4_0 : w3.cell? ⟨gb101, 0, none⟩ = some (.int .i64 a0_0) := (b1z BK101.1 0).trans rfl; have hcz4_1 : w3.cell? ⟨gb101, 1, none⟩ = some (.int .i64 a0_1) := (b1z BK101.1 1).trans rfl; have hfz4_0 := b5z BK101.1 0; have hfz4_1 := b5z BK101.1 1) | (go_at_call 44; (with_reducible refine (spec_l1Size.calls k a0_1 t102 _ A2.1).mono ?_); rintro e w' ⟨rfl, ⟨nd, rfl⟩⟩; (try first | exact ⟨rfl, _, World.drewN_drewN _ _ _⟩ | exact ⟨rfl, _, Eq.trans (World.drewN_drewN _ _ _) (congrArg (World.drewN _) (Nat.add_assoc _ _ _))⟩))))
 go_ret
 exact ⟨by first | rfl | (simp [c2z, c1z] <;> rfl) | (simp [*, c2z, c1z] <;> rfl), by repeat (first | (with_reducible first | exact HB.1 | apply a3z | apply a0z | apply a2z | refine a6z ?_ GE101.1) | exact HB.1)⟩
end Go.Proofs.Ytmdhedkgpgoneaa.Q
