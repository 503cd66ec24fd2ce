/- The law FnExactAddrGet (part 2 of 2): for every input the call answers true and its arguments read afterwards as before. No condition beyond the row's own. -/
import Derived.Test.YtgbdnbbfgcogjaaDoorProg
import Derived.Below
import Derived.Deep.Draws
import Derived.Deep.AppendLies
import Derived.Maps.AppendAt
import Derived.OwnWalk
import Derived.Laws.BytesArg
import Derived.Laws.MakeOwn
import Derived.Laws.OwnMore
import Derived.Deep.OwnRows
import Derived.Tactics
import Derived.Lib.ConvBytes
import Derived.Laws.Slices
import Derived.WalkKit
import Derived.KernelRfl
import Derived.RowKit3
import Derived.Deep.LoopGhost
import Derived.Deep.QuietTactic
import Derived.BigQuiet
import Derived.WideLaws
import Derived.Deep.DeepCutAuto
import Derived.Deep.CutBlock
import Derived.Deep.RegionHeld3
import Derived.Laws.Rows
import Derived.Lib.AppendStr
import Derived.ArgAppend
import Derived.Laws.IdiomCopy
import Derived.OrdersHeld
import Derived.Laws.BitsLemmas
import Derived.RowKit
import Derived.Shelf.Strings.Builder1
import Derived.Shelf.Strings.Builder2
import Derived.Shelf.Strings.OnBuilder
import Derived.Shelf.Strconv.Atoi
import Derived.Shelf.Strconv.Itoa0
import Derived.Shelf.Strconv.Itoa1
import Derived.Shelf.LaysM
import Derived.Shelf.Strconv.Itoa2
import Derived.Shelf.Strconv.Itoa3
import Derived.Shelf.Strconv.AtoiErrFast
import Derived.Shelf.Strconv.ParseIntEmpty
import Derived.Shelf.Strconv.AtoiFail
import Derived.Shelf.Strconv.Clone
import Derived.Shelf.Strconv.SyntaxError
import Derived.Shelf.LaysC
import Derived.Shelf.Strconv.ToError
import Derived.Shelf.Strconv.Lower
import Derived.Shelf.Strconv.ParseUint10
import Derived.Shelf.Strconv.ParseUint10Empty
import Derived.Shelf.Strconv.ParseUint10Any
import Derived.Shelf.Strconv.ParseInt10
import Derived.Shelf.Strconv.AtoiLong
import Derived.Shelf.Strconv.AtoiInnerAll
import Derived.Shelf.Strconv.RangeError
import Derived.Shelf.Strconv.ToErrorRange
import Derived.Shelf.Strconv.AtoiAll
import Derived.Shelf.Strings.Search1
import Derived.Shelf.Strings.Search2
import Derived.Shelf.Strings.Search3
import Derived.Shelf.Strings.Cut
import Derived.Shelf.Strings.Shaped
import Derived.Shelf.Unicode.Decode
import Derived.Shelf.Unicode.DecodeSlow
import Derived.Shelf.Unicode.DecodeAny
import Derived.Lib.LaidTab
import Derived.Lib.ItoaNum
import Derived.RangeFuncNested
import Derived.RangeFuncBound
import Derived.RangeFuncCalls
import Derived.RangeFuncLeaves
import Derived.RangeFuncBox
import Derived.Shelf.Abstract
import Derived.Shelf.RegionOpen
import Derived.OwnWalkIn
import Derived.TacticsInMore
import Derived.LoopNIn
import Derived.LoopIn
import Derived.Lib.IndexLaws
import Derived.Lib.AtoiAll
import Derived.Deep.Slices
import Derived.Deep.Fields
import Derived.ChangeSame
import Derived.ProofKit
import Derived.WideShapes
import Derived.Lib.LazyBuf
import Derived.Lib.Join
import Derived.Test.YtgbdnbbfgcogjaaDoorTie
import Derived.LaidMore
import Derived.Lay
import Derived.OpenShut
import Derived.Stop.Joined
import Derived.Stop.LaidErr
import Derived.Test.YtgbdnbbfgcogjaaDoorRows
import Derived.ShutString
import Derived.ChangeOld
import Derived.SizedLaws
import Derived.Test.YtgbdnbbfgcogjaaDoorCards
import Derived.SevenTiedAt
import Derived.Test.YtgbdnbbfgcogjaaDoorCFnExactAddrGet1
namespace Go.Proofs.YtgbdnbbfgcogjaaDoor.Q
open Go.RowKit Go.Proofs.YtgbdnbbfgcogjaaDoorW.PrintWords Go.Proofs.YtgbdnbbfgcogjaaDoorW.PrintLast Go.Proofs.YtgbdnbbfgcogjaaDoorW.PrintMore
attribute [local go_sem] max2_int min2_int max_two min_two max_three min_three max_four min_four
set_option linter.unusedVariables false
set_option linter.unusedSimpArgs false
def errW : Option Int → Value
 | none => .nilIface
 | some c => .iface 0 (.int .i64 c)
theorem errW_none : errW none = .nilIface := rfl
theorem errW_some (c : Int) : errW (some c) = .iface 0 (.int .i64 c) := rfl
theorem info9 : (Tryd.prog.info? 9).map (fun i => (i.zero, i.size, i.bytes)) = some (some (.string ⟨#[]⟩), 1, 16) := by kernel_rfl
-- the values' own types
end Go.Proofs.YtgbdnbbfgcogjaaDoor.Q

namespace Go.Proofs.YtgbdnbbfgcogjaaDoor.Q
open Go.RowKit Go.Proofs.YtgbdnbbfgcogjaaDoorW.PrintWords Go.Proofs.YtgbdnbbfgcogjaaDoorW.PrintLast Go.Proofs.YtgbdnbbfgcogjaaDoorW.PrintMore
attribute [local go_sem] max2_int min2_int max_two min_two max_three min_three max_four min_four
set_option linter.unusedVariables false
set_option linter.unusedSimpArgs false
def spec_l1In.f (a0 : Int) (a1 : Int) (a2 : Int) : Option (Bool) := if a0 ≥ a1 then (some (decide (a0 ≤ a2))) else (some false)
set_option maxHeartbeats 8000000 in
set_option maxRecDepth 100000 in
theorem spec_l1In.calls (a0 : Int) (a1 : Int) (a2 : Int) (r : Bool) (w : World) (h : spec_l1In.f a0 a1 a2 = some r) :
  Calls Tryd.prog 47 #[.int .i64 a0, .int .i64 a1, .int .i64 a2] w fun e w' => e = .returned (.bool r) ∧ Drawn0 w w' := by
 have H : (if a0 ≥ a1 then (some (decide (a0 ≤ a2))) else (some false)) = some r := h
 clear h
 by_cases c4 : a0 ≥ a1
 ·rw [if_pos c4] at H
  have c4b0 : decide (a1 ≤ a0) = true := decide_eq_true c4
  clear c4
  obtain rfl := Option.some.inj H
  go_enter Tryd.func47, Tryd.ntmps47
  go_wp2
  go_ret
  exact ⟨by first | rfl | (simp; done) | (simp [*]; done), by repeat (first | exact Drawn0.refl _ | apply Drawn0.step)⟩
 ·rw [if_neg c4] at H
  have c4b0 : decide (a1 ≤ a0) = false := decide_eq_false c4
  clear c4
  obtain rfl := Option.some.inj H
  go_enter Tryd.func47, Tryd.ntmps47
  go_wp2
  go_ret
  exact ⟨by first | rfl | (simp; done) | (simp [*]; done), by repeat (first | exact Drawn0.refl _ | apply Drawn0.step)⟩
end Go.Proofs.YtgbdnbbfgcogjaaDoor.Q

namespace Go.Proofs.YtgbdnbbfgcogjaaDoor.Q
open Go.RowKit Go.Proofs.YtgbdnbbfgcogjaaDoorW.PrintWords Go.Proofs.YtgbdnbbfgcogjaaDoorW.PrintLast Go.Proofs.YtgbdnbbfgcogjaaDoorW.PrintMore
attribute [local go_sem] max2_int min2_int max_two min_two max_three min_three max_four min_four
set_option linter.unusedVariables false
set_option linter.unusedSimpArgs false
def spec_l1Cut.l0 : Nat → ByteArray → Int → List ByteArray → Int → Int → Option (List ByteArray)
 | 0, _, _, _, _, _ => none
 | k + 1, x0, x1, x5, x6, x7 => if x7 < (x0.size : Int) then (if 0 ≤ x7 then (if (bt x0 x7) = x1 then (if 0 ≤ x6 then (if x6 ≤ x7 then (if x7 ≤ (x0.size : Int) then (if x5.length < 8796093022208 then (spec_l1Cut.l0 k x0 x1 (x5 ++ [x0.extract (x6 : Int).toNat (x7 : Int).toNat]) (wrap64 (x7 + 1)) (wrap64 (x7 + 1))) else (none)) else (none)) else (none)) else (none)) else (spec_l1Cut.l0 k x0 x1 x5 x6 (wrap64 (x7 + 1)))) else (none)) else (if 0 ≤ x6 then (if x6 ≤ (x0.size : Int) then (if x5.length < 8796093022208 then (some (x5 ++ [x0.extract (x6 : Int).toNat x0.size])) else (none)) else (none)) else (none))
def spec_l1Cut.f (k : Nat) (a0 : ByteArray) (a1 : Int) : Option (List ByteArray) := spec_l1Cut.l0 k a0 a1 (([] : List ByteArray)) 0 0
set_option maxHeartbeats 8000000 in
set_option maxRecDepth 100000 in
theorem spec_l1Cut.calls (k : Nat) (a0 : ByteArray) (a1 : Int) (r : List ByteArray) (w : World) (h : spec_l1Cut.f k a0 a1 = some r) :
  Calls Tryd.prog 45 #[.string a0, .int .u8 a1] w fun e w' => ∃ v0_ : Value, e = .returned (v0_) ∧ Kd.R Kd.string 9 w' w.heap.size (fun _ => True) v0_ r ∧ Below w.heap.size w w' := by
 have HB := Aside0.mk (Below.refl w.heap.size w)
 have H : (spec_l1Cut.l0 k a0 a1 (([] : List ByteArray)) 0 0) = some r := h
 clear h
 obtain ⟨y101, hy101⟩ : ∃ y_ : List ByteArray, y_ = (([] : List ByteArray)) := ⟨_, rfl⟩
 replace H : (spec_l1Cut.l0 k a0 a1 y101 0 0) = some r := by first | (rw [hy101]; with_reducible exact H) | (have H2_ := (Option.bind_some _ _).symm.trans H; rw [hy101]; with_reducible exact H2_) | (have H2_ := (Option.bind_some _ _).symm.trans H; with_reducible exact H2_) | with_reducible exact H | (rw [hy101]; exact H) | exact H
 have Ny101 := Aside0.mk hy101
 clear hy101
 have H' := Aside0.mk H
 clear H
 go_enter Tryd.func45, Tryd.ntmps45
 go_wp2_with (first | ((with_reducible refine gate_dst (N := 8) rfl ?_); refine Kd.R_lit Kd.string _ 9 ?hg (N := 8) ?hd (xs := ([] : List ByteArray)) (inner := []) (ok := fun _ => True) (okp := fun _ => True) ?hr ?hp (fun _ hk => hk) trivial (Below.refl _ _) (Nat.le_refl _) (by simp) ?_; (case hd => rfl); (case hg => rfl); (case hr => first | (go_simp; done) | (go_simp; rfl)); (case hp => exact (Reps.none _ _)); intro v102 w3 ho4 hb hg_ hnew_; clear hg_ hnew_; (first | rw [← Ny101.out] at ho4 | (simp only [Int.reduceToNat] at ho4; rw [← Ny101.out] at ho4)); have n0_ := Aside0.mk (Kd.R_lower ho4 (below_size (by repeat (first | (with_reducible first | exact HB.out | apply below_alloc | apply pw_below_drewN | apply below_drew1) | exact HB.out)))); have n1_ := Aside0.mk (below_step (by repeat (first | (with_reducible first | exact HB.out | apply below_alloc | apply pw_below_drewN | apply below_drew1) | exact HB.out)) hb); clear HB; have HO103 := n0_; have HB := n1_; clear n0_ n1_; clear hb ho4))
 go_loopg [5, 6, 7] k (fun kq v5 v6 v7 w' => ∃ (x5_1 : List ByteArray) (x6_1 : Int) (x7_1 : Int), v6 = .int .i64 x6_1 ∧ v7 = .int .i64 x7_1 ∧ Aside0 (spec_l1Cut.l0 kq a0 a1 x5_1 x6_1 x7_1 = some r) ∧ Aside0 (kq ≤ k) ∧ Aside0 (Kd.R Kd.string 9 w' w.heap.size (fun _ => True) v5 x5_1) ∧ Aside0 (Below w.heap.size w w'))
 case atStart => exact ⟨(y101), (0), (0), (by first | rfl | (simp; done) | (simp [*]; done)), (by first | rfl | (simp; done) | (simp [*]; done)), H', ⟨Nat.le_refl _⟩, ⟨by (with_reducible repeat (first | apply Kd.R_alloc | apply Kd.R_drewN | apply Kd.R_drew)); exact HO103.out⟩, ⟨by repeat (first | (with_reducible first | exact HB.out | apply below_alloc | apply pw_below_drewN | apply below_drew1) | exact HB.out)⟩⟩
 case round =>
  clear H'
  try clear p2
  try clear c4
  obtain ⟨x5_1, x6_1, x7_1, rfl, rfl, HA, HK1, HO_5, HB⟩ := hrel
  cases gk with
  | zero => exact absurd HA.out (by simp [spec_l1Cut.l0])
  | succ k1 =>
   have H := HA.out
   clear HA
   simp only [spec_l1Cut.l0] at H
   by_cases c5 : x7_1 < (a0.size : Int)
   ·rw [if_pos c5] at H
    have c5b0 : decide (x7_1 < (a0.size : Int)) = true := decide_eq_true c5
    clear c5
    by_cases c6 : 0 ≤ x7_1
    ·rw [if_pos c6] at H
     have c6b0 : decide (0 ≤ x7_1) = true := decide_eq_true c6
     clear c6
     by_cases c8 : (bt a0 x7_1) = a1
     ·rw [if_pos c8] at H
      have c8b0 : ((bt a0 x7_1) == a1) = true := beq_iff_eq.mpr c8
      have c8b1 : ((bt a0 x7_1) != a1) = false := bne_eq_false_iff_eq.mpr c8
      clear c8
      by_cases c9 : 0 ≤ x6_1
      ·rw [if_pos c9] at H
       have c9b0 := eq_true c9
       have c9b1 : decide (0 ≤ x6_1) = true := decide_eq_true c9
       clear c9
       by_cases c10 : x6_1 ≤ x7_1
       ·rw [if_pos c10] at H
        have c10b0 := eq_true c10
        have c10b1 : decide (x6_1 ≤ x7_1) = true := decide_eq_true c10
        clear c10
        by_cases c11 : x7_1 ≤ (a0.size : Int)
        ·rw [if_pos c11] at H
         have c11b0 := eq_true c11
         have c11b1 : decide (x7_1 ≤ (a0.size : Int)) = true := decide_eq_true c11
         clear c11
         by_cases c12 : x5_1.length < 8796093022208
         ·rw [if_pos c12] at H
          have LMc12 := Aside0.mk c12
          clear c12
          obtain ⟨y104, hy104⟩ : ∃ y_ : List ByteArray, y_ = (x5_1 ++ [a0.extract (x6_1 : Int).toNat (x7_1 : Int).toNat]) := ⟨_, rfl⟩
          replace H : (spec_l1Cut.l0 k1 a0 a1 y104 (wrap64 (x7_1 + 1)) (wrap64 (x7_1 + 1))) = some r := by first | (rw [hy104]; with_reducible exact H) | (have H2_ := (Option.bind_some _ _).symm.trans H; rw [hy104]; with_reducible exact H2_) | (have H2_ := (Option.bind_some _ _).symm.trans H; with_reducible exact H2_) | with_reducible exact H | (rw [hy104]; exact H) | exact H
          have Ny104 := Aside0.mk hy104
          clear hy104
          have H' := Aside0.mk H
          clear H
          have p7 : 0 ≤ (x7_1 : Int) := of_decide_eq_true (by first | (with_reducible assumption) | assumption)
          have q7 : x7_1 < (a0.size : Int) := of_decide_eq_true (by first | (with_reducible assumption) | assumption)
          have hx7 := bt_at a0 x7_1
          replace p7 := eq_true p7
          replace q7 := eq_true q7
          go_wp2_with (first | ((with_reducible refine gate_builtin (b := .append) (xs := #[.tmp 20, .tmp 25]) rfl ?_); at_builtin; refine Kd.R_append Kd.string (w0 := w) w.heap.size rfl (.tmp 20) (.tmp 25) 49 9 (.string ⟨#[]⟩) 16 rfl Tryd.underlying49 info9 rfl (by decide) (by omega) u5 x5_1 (a0.extract (x6_1 : Int).toNat (x7_1 : Int).toNat) [.string (a0.extract (x6_1 : Int).toNat (x7_1 : Int).toNat)] (fun _ => True) (fun _ => False) rfl rfl ?aP (fun _ hk => hk.elim) ?aF ?aO ?aB ?aS ?aL ?_; (case aP => exact rfl); (case aB => exact (by repeat (first | (with_reducible first | exact HB.out | apply below_alloc | apply pw_below_drewN | apply below_drew1) | exact HB.out))); (case aF => exact (fun _ _ => trivial)); (case aO => exact (by (with_reducible repeat (first | apply Kd.R_alloc | apply Kd.R_drewN | apply Kd.R_drew)); exact HO_5.out)); (case aS => exact (below_size (by repeat (first | (with_reducible first | exact HB.out | apply below_alloc | apply pw_below_drewN | apply below_drew1) | exact HB.out)))); (case aL => have := LMc12.out; omega); intro v105 w13 ho hb hg hat; rw [← Ny104.out] at ho; have n0_ := Aside0.mk (hb); have n1_ := Aside0.mk (ho); clear HB; clear HO_5; have HB := n0_; have HO106 := n1_; clear n0_ n1_; clear ho hb hg hat))
          go_roundg k1
          case measure => have := HK1.out; omega
          case rel => exact ⟨(y104), (wrap64 (x7_1 + 1)), (wrap64 (x7_1 + 1)), (by first | rfl | (simp; done) | (simp [*]; done)), (by first | rfl | (simp; done) | (simp [*]; done)), H', ⟨by have := HK1.out; omega⟩, ⟨by (with_reducible repeat (first | apply Kd.R_alloc | apply Kd.R_drewN | apply Kd.R_drew)); exact HO106.out⟩, ⟨by repeat (first | (with_reducible first | exact HB.out | apply below_alloc | apply pw_below_drewN | apply below_drew1) | exact HB.out)⟩⟩
         ·rw [if_neg c12] at H
          exact absurd H (by simp)
        ·rw [if_neg c11] at H
         exact absurd H (by simp)
       ·rw [if_neg c10] at H
        exact absurd H (by simp)
      ·rw [if_neg c9] at H
       exact absurd H (by simp)
     ·rw [if_neg c8] at H
      have c8b0 : ((bt a0 x7_1) == a1) = false := beq_eq_false_iff_ne.mpr c8
      have c8b1 : ((bt a0 x7_1) != a1) = true := bne_iff_ne.mpr c8
      have H' := Aside0.mk H
      clear H
      have p7 : 0 ≤ (x7_1 : Int) := of_decide_eq_true (by first | (with_reducible assumption) | assumption)
      have q7 : x7_1 < (a0.size : Int) := of_decide_eq_true (by first | (with_reducible assumption) | assumption)
      have hx7 := bt_at a0 x7_1
      replace p7 := eq_true p7
      replace q7 := eq_true q7
      go_wp2
      go_roundg k1
      case measure => have := HK1.out; omega
      case rel => exact ⟨(x5_1), (x6_1), (wrap64 (x7_1 + 1)), (by first | rfl | (simp; done) | (simp [*]; done)), (by first | rfl | (simp; done) | (simp [*]; done)), H', ⟨by have := HK1.out; omega⟩, ⟨by (with_reducible repeat (first | apply Kd.R_alloc | apply Kd.R_drewN | apply Kd.R_drew)); exact HO_5.out⟩, ⟨by repeat (first | (with_reducible first | exact HB.out | apply below_alloc | apply pw_below_drewN | apply below_drew1) | exact HB.out)⟩⟩
    ·rw [if_neg c6] at H
     exact absurd H (by simp)
   ·rw [if_neg c5] at H
    have c5b0 : decide (x7_1 < (a0.size : Int)) = false := decide_eq_false c5
    clear c5
    by_cases c14 : 0 ≤ x6_1
    ·rw [if_pos c14] at H
     have c14b0 := eq_true c14
     have c14b1 : decide (0 ≤ x6_1) = true := decide_eq_true c14
     clear c14
     by_cases c15 : x6_1 ≤ (a0.size : Int)
     ·rw [if_pos c15] at H
      have c15b0 := eq_true c15
      have c15b1 : decide (x6_1 ≤ (a0.size : Int)) = true := decide_eq_true c15
      clear c15
      by_cases c16 : x5_1.length < 8796093022208
      ·rw [if_pos c16] at H
       have LMc16 := Aside0.mk c16
       clear c16
       obtain ⟨y107, hy107⟩ : ∃ y_ : List ByteArray, y_ = (x5_1 ++ [a0.extract (x6_1 : Int).toNat a0.size]) := ⟨_, rfl⟩
       replace H : (some y107) = some r := by first | (rw [hy107]; with_reducible exact H) | (have H2_ := (Option.bind_some _ _).symm.trans H; rw [hy107]; with_reducible exact H2_) | (have H2_ := (Option.bind_some _ _).symm.trans H; with_reducible exact H2_) | with_reducible exact H | (rw [hy107]; exact H) | exact H
       have Ny107 := Aside0.mk hy107
       clear hy107
       obtain rfl := Option.some.inj H
       go_wp2_with (first | ((with_reducible refine gate_builtin (b := .append) (xs := #[.tmp 29, .tmp 33]) rfl ?_); at_builtin; refine Kd.R_append Kd.string (w0 := w) w.heap.size rfl (.tmp 29) (.tmp 33) 49 9 (.string ⟨#[]⟩) 16 rfl Tryd.underlying49 info9 rfl (by decide) (by omega) u5 x5_1 (a0.extract (x6_1 : Int).toNat a0.size) [.string (a0.extract (x6_1 : Int).toNat a0.size)] (fun _ => True) (fun _ => False) rfl rfl ?aP (fun _ hk => hk.elim) ?aF ?aO ?aB ?aS ?aL ?_; (case aP => exact rfl); (case aB => exact (by repeat (first | (with_reducible first | exact HB.out | apply below_alloc | apply pw_below_drewN | apply below_drew1) | exact HB.out))); (case aF => exact (fun _ _ => trivial)); (case aO => exact (by (with_reducible repeat (first | apply Kd.R_alloc | apply Kd.R_drewN | apply Kd.R_drew)); exact HO_5.out)); (case aS => exact (below_size (by repeat (first | (with_reducible first | exact HB.out | apply below_alloc | apply pw_below_drewN | apply below_drew1) | exact HB.out)))); (case aL => have := LMc16.out; omega); intro v108 w17 ho hb hg hat; rw [← Ny107.out] at ho; have n0_ := Aside0.mk (hb); have n1_ := Aside0.mk (ho); clear HB; clear HO_5; have HB := n0_; have HO109 := n1_; clear n0_ n1_; clear ho hb hg hat))
       go_ret
       exact ⟨_, by first | rfl | (simp [errW_none, errW_some] <;> rfl) | (simp [*, errW_none, errW_some] <;> rfl), by (with_reducible repeat (first | apply Kd.R_alloc | apply Kd.R_drewN | apply Kd.R_drew)); exact HO109.out, by repeat (first | (with_reducible first | exact HB.out | apply below_alloc | apply pw_below_drewN | apply below_drew1) | exact HB.out)⟩
      ·rw [if_neg c16] at H
       exact absurd H (by simp)
     ·rw [if_neg c15] at H
      exact absurd H (by simp)
    ·rw [if_neg c14] at H
     exact absurd H (by simp)
end Go.Proofs.YtgbdnbbfgcogjaaDoor.Q

namespace Go.Proofs.YtgbdnbbfgcogjaaDoor.Q
open Go.RowKit Go.Proofs.YtgbdnbbfgcogjaaDoorW.PrintWords Go.Proofs.YtgbdnbbfgcogjaaDoorW.PrintLast Go.Proofs.YtgbdnbbfgcogjaaDoorW.PrintMore
attribute [local go_sem] max2_int min2_int max_two min_two max_three min_three max_four min_four
set_option linter.unusedVariables false
set_option linter.unusedSimpArgs false
mutual
def spec_l1Num.j0 : Nat → ByteArray → Bool → Option (Int)
 | 0, _, _ => none
 | k + 1, x0, x22 => if x22 = true then (some (-1)) else (spec_l1Num.l0 k x0 0 0)
def spec_l1Num.l0 : Nat → ByteArray → Int → Int → Option (Int)
 | 0, _, _, _ => none
 | k + 1, x0, x3, x4 => if x4 < (x0.size : Int) then (if 0 ≤ x4 then (if (bt x0 x4) < 48 then (some (-1)) else (if (bt x0 x4) > 57 then (some (-1)) else (spec_l1Num.l0 k x0 (wrap64 ((wrap64 (x3 * 10)) + (((bt x0 x4) - 48) % 256))) (wrap64 (x4 + 1))))) else (none)) else (some x3)
end
def spec_l1Num.f (k : Nat) (a0 : ByteArray) : Option (Int) := if (a0.size : Int) = 0 then (spec_l1Num.j0 k a0 true) else (if (a0.size : Int) > 9 then (spec_l1Num.j0 k a0 true) else (if (a0.size : Int) > 1 then (if 0 < (a0.size : Int) then (spec_l1Num.j0 k a0 ((bt a0 0) == 48)) else (none)) else (spec_l1Num.j0 k a0 false)))
set_option maxHeartbeats 8000000 in
set_option maxRecDepth 100000 in
theorem spec_l1Num.calls (k : Nat) (a0 : ByteArray) (r : Int) (w : World) (h : spec_l1Num.f k a0 = some r) :
  Calls Tryd.prog 46 #[.string a0] w fun e w' => e = .returned (.int .i64 r) ∧ Drawn0 w w' := by
 have H : (if (a0.size : Int) = 0 then (spec_l1Num.j0 k a0 true) else (if (a0.size : Int) > 9 then (spec_l1Num.j0 k a0 true) else (if (a0.size : Int) > 1 then (if 0 < (a0.size : Int) then (spec_l1Num.j0 k a0 ((bt a0 0) == 48)) else (none)) else (spec_l1Num.j0 k a0 false)))) = some r := h
 clear h
 have HC2 := Aside0.mk H
 clear H
 go_enter Tryd.func46, Tryd.ntmps46
 go_upto_region 1 with (fail)
 go_cut [22] (fun v22 wc => ∃ (kq : Nat) (x22_1 : Bool), v22 = .bool x22_1 ∧ Aside0 (spec_l1Num.j0 kq a0 x22_1 = some r) ∧ Aside0 (kq ≤ k) ∧ Drawn0 w wc)
 case first =>
  have H := HC2.out
  clear HC2
  by_cases c3 : (a0.size : Int) = 0
  ·rw [if_pos c3] at H
   have c3b0 : ((a0.size : Int) == 0) = true := beq_iff_eq.mpr c3
   have c3b1 : ((a0.size : Int) != 0) = false := bne_eq_false_iff_eq.mpr c3
   clear c3
   (first | rw [c3b0] | (simp only [i64_w, i32_w]; rw [c3b0]) | skip)
   have H' := Aside0.mk H
   clear H
   go_wp2
   go_meet
   case rel => exact ⟨_, (true), (by first | rfl | (simp; done) | (simp [*]; done)), H', ⟨by first | omega | exact Nat.le_refl _⟩, by repeat (first | exact Drawn0.refl _ | apply Drawn0.step)⟩
  ·rw [if_neg c3] at H
   have c3b0 : ((a0.size : Int) == 0) = false := beq_eq_false_iff_ne.mpr c3
   have c3b1 : ((a0.size : Int) != 0) = true := bne_iff_ne.mpr c3
   (first | rw [c3b0] | (simp only [i64_w, i32_w]; rw [c3b0]) | skip)
   by_cases c4 : (a0.size : Int) > 9
   ·rw [if_pos c4] at H
    have c4b0 : decide (9 < (a0.size : Int)) = true := decide_eq_true c4
    have c4b1 : decide (9 < a0.size) = true := decide_eq_true (by omega)
    clear c4
    have H' := Aside0.mk H
    clear H
    go_wp2
    go_meet
    case rel => exact ⟨_, (true), (by first | rfl | (simp; done) | (simp [*]; done)), H', ⟨by first | omega | exact Nat.le_refl _⟩, by repeat (first | exact Drawn0.refl _ | apply Drawn0.step)⟩
   ·rw [if_neg c4] at H
    have c4b0 : decide (9 < (a0.size : Int)) = false := decide_eq_false c4
    have c4b1 : decide (9 < a0.size) = false := decide_eq_false (by omega)
    clear c4
    by_cases c5 : (a0.size : Int) > 1
    ·rw [if_pos c5] at H
     have c5b0 : decide (1 < (a0.size : Int)) = true := decide_eq_true c5
     have c5b1 : decide (1 < a0.size) = true := decide_eq_true (by omega)
     clear c5
     by_cases c6 : 0 < (a0.size : Int)
     ·rw [if_pos c6] at H
      have c6b0 : decide (0 < (a0.size : Int)) = true := decide_eq_true c6
      have c6b1 : decide (0 < a0.size) = true := decide_eq_true (by omega)
      clear c6
      have H' := Aside0.mk H
      clear H
      have p7 : 0 ≤ (0 : Int) := (by omega)
      have q7 : 0 < a0.size := (by have : (0 : Int) < (a0.size : Int) := of_decide_eq_true (by first | (with_reducible assumption) | assumption); omega)
      have hx7 : ∀ h : 0 < a0.size, ((a0[0]'h).toNat : Int) = bt a0 0 := bt_at a0 0
      clear p7
      have qi7 : (0 < (a0.size : Int)) = True := eq_true (of_decide_eq_true (by first | (with_reducible assumption) | assumption))
      replace q7 := eq_true q7
      go_wp2
      go_meet
      case rel => exact ⟨_, (((bt a0 0) == 48)), (by first | rfl | (simp; done) | (simp [*]; done)), H', ⟨by first | omega | exact Nat.le_refl _⟩, by repeat (first | exact Drawn0.refl _ | apply Drawn0.step)⟩
     ·rw [if_neg c6] at H
      exact absurd H (by simp)
    ·rw [if_neg c5] at H
     have c5b0 : decide (1 < (a0.size : Int)) = false := decide_eq_false c5
     have c5b1 : decide (1 < a0.size) = false := decide_eq_false (by omega)
     clear c5
     have H' := Aside0.mk H
     clear H
     go_wp2
     go_meet
     case rel => exact ⟨_, (false), (by first | rfl | (simp; done) | (simp [*]; done)), H', ⟨by first | omega | exact Nat.le_refl _⟩, by repeat (first | exact Drawn0.refl _ | apply Drawn0.step)⟩
 case rest =>
  clear HC2
  try clear p2
  try clear c3
  try clear c3b0
  try clear c3b1
  try clear c4
  try clear c4b0
  try clear c4b1
  try clear c5
  try clear c5b0
  try clear c5b1
  try clear c6
  try clear c6b0
  try clear c6b1
  try clear p7
  try clear q7
  try clear hx7
  try clear qi7
  try clear p7
  try clear q7
  obtain ⟨kq, x22_1, rfl, HA, HJ1, ⟨mc1, rfl⟩⟩ := hcut
  cases kq with
  | zero => exact absurd HA.out (by simp [spec_l1Num.j0])
  | succ kj1 =>
   have H := HA.out
   clear HA
   simp only [spec_l1Num.j0] at H
   by_cases c8 : x22_1 = true
   ·subst c8
    have H1 : (some (-1)) = some r := by rw [if_pos rfl] at H; exact H
    clear H
    have H := H1
    clear H1
    obtain rfl := Option.some.inj H
    go_wp2
    go_ret
    exact ⟨by first | rfl | (simp; done) | (simp [*]; done), by repeat (first | exact Drawn0.refl _ | apply Drawn0.step)⟩
   ·replace c8 := Bool.eq_false_iff.mpr c8
    subst c8
    have H1 : (spec_l1Num.l0 kj1 a0 0 0) = some r := by rw [if_neg (show ¬ (false = true) by decide)] at H; exact H
    clear H
    have H := H1
    clear H1
    have H' := Aside0.mk H
    clear H
    go_wp2
    go_loopg [3, 4] kj1 (fun kq v3 v4 w' => ∃ (x3_2 : Int) (x4_2 : Int), v3 = .int .i64 x3_2 ∧ v4 = .int .i64 x4_2 ∧ Aside0 (spec_l1Num.l0 kq a0 x3_2 x4_2 = some r) ∧ Aside0 (kq ≤ kj1) ∧ Drawn0 w w')
    case atStart => exact ⟨(0), (0), (by first | rfl | (simp; done) | (simp [*]; done)), (by first | rfl | (simp; done) | (simp [*]; done)), H', ⟨Nat.le_refl _⟩, by repeat (first | exact Drawn0.refl _ | apply Drawn0.step)⟩
    case round =>
     clear H'
     try clear c1
     try clear p2
     try clear c3
     try clear c3b0
     try clear c3b1
     try clear c4
     try clear c4b0
     try clear c4b1
     try clear c5
     try clear c5b0
     try clear c5b1
     try clear c6
     try clear c6b0
     try clear c6b1
     try clear p7
     try clear q7
     try clear hx7
     try clear qi7
     try clear c8
     try clear p2
     try clear p7
     try clear q7
     obtain ⟨x3_2, x4_2, rfl, rfl, HA, HK2, ⟨m2, rfl⟩⟩ := hrel
     cases gk with
     | zero => exact absurd HA.out (by simp [spec_l1Num.l0])
     | succ k2 =>
      have H := HA.out
      clear HA
      simp only [spec_l1Num.l0] at H
      by_cases c9 : x4_2 < (a0.size : Int)
      ·rw [if_pos c9] at H
       have c9b0 : decide (x4_2 < (a0.size : Int)) = true := decide_eq_true c9
       clear c9
       by_cases c10 : 0 ≤ x4_2
       ·rw [if_pos c10] at H
        have c10b0 : decide (0 ≤ x4_2) = true := decide_eq_true c10
        clear c10
        by_cases c12 : (bt a0 x4_2) < 48
        ·rw [if_pos c12] at H
         have c12b0 : decide ((bt a0 x4_2) < 48) = true := decide_eq_true c12
         clear c12
         obtain rfl := Option.some.inj H
         have p11 : 0 ≤ (x4_2 : Int) := of_decide_eq_true (by first | (with_reducible assumption) | assumption)
         have q11 : x4_2 < (a0.size : Int) := of_decide_eq_true (by first | (with_reducible assumption) | assumption)
         have hx11 := bt_at a0 x4_2
         replace p11 := eq_true p11
         replace q11 := eq_true q11
         go_wp2
         go_ret
         exact ⟨by first | rfl | (simp; done) | (simp [*]; done), by repeat (first | exact Drawn0.refl _ | apply Drawn0.step)⟩
        ·rw [if_neg c12] at H
         have c12b0 : decide ((bt a0 x4_2) < 48) = false := decide_eq_false c12
         clear c12
         by_cases c14 : (bt a0 x4_2) > 57
         ·rw [if_pos c14] at H
          have c14b0 : decide (57 < (bt a0 x4_2)) = true := decide_eq_true c14
          clear c14
          obtain rfl := Option.some.inj H
          have p11 : 0 ≤ (x4_2 : Int) := of_decide_eq_true (by first | (with_reducible assumption) | assumption)
          have q11 : x4_2 < (a0.size : Int) := of_decide_eq_true (by first | (with_reducible assumption) | assumption)
          have hx11 := bt_at a0 x4_2
          replace p11 := eq_true p11
          replace q11 := eq_true q11
          have p13 : 0 ≤ (x4_2 : Int) := of_decide_eq_true (by first | (with_reducible assumption) | assumption)
          have q13 : x4_2 < (a0.size : Int) := of_decide_eq_true (by first | (with_reducible assumption) | assumption)
          have hx13 := bt_at a0 x4_2
          replace p13 := eq_true p13
          replace q13 := eq_true q13
          go_wp2
          go_ret
          exact ⟨by first | rfl | (simp; done) | (simp [*]; done), by repeat (first | exact Drawn0.refl _ | apply Drawn0.step)⟩
         ·rw [if_neg c14] at H
          have c14b0 : decide (57 < (bt a0 x4_2)) = false := decide_eq_false c14
          clear c14
          have H' := Aside0.mk H
          clear H
          have p11 : 0 ≤ (x4_2 : Int) := of_decide_eq_true (by first | (with_reducible assumption) | assumption)
          have q11 : x4_2 < (a0.size : Int) := of_decide_eq_true (by first | (with_reducible assumption) | assumption)
          have hx11 := bt_at a0 x4_2
          replace p11 := eq_true p11
          replace q11 := eq_true q11
          have p13 : 0 ≤ (x4_2 : Int) := of_decide_eq_true (by first | (with_reducible assumption) | assumption)
          have q13 : x4_2 < (a0.size : Int) := of_decide_eq_true (by first | (with_reducible assumption) | assumption)
          have hx13 := bt_at a0 x4_2
          replace p13 := eq_true p13
          replace q13 := eq_true q13
          have p15 : 0 ≤ (x4_2 : Int) := of_decide_eq_true (by first | (with_reducible assumption) | assumption)
          have q15 : x4_2 < (a0.size : Int) := of_decide_eq_true (by first | (with_reducible assumption) | assumption)
          have hx15 := bt_at a0 x4_2
          replace p15 := eq_true p15
          replace q15 := eq_true q15
          go_wp2
          go_roundg k2
          case measure => have := HJ1.out; have := HK2.out; omega
          case rel => exact ⟨(wrap64 ((wrap64 (x3_2 * 10)) + (((bt a0 x4_2) - 48) % 256))), (wrap64 (x4_2 + 1)), (by first | rfl | (simp; done) | (simp [*]; done)), (by first | rfl | (simp; done) | (simp [*]; done)), H', ⟨by have := HJ1.out; have := HK2.out; omega⟩, by repeat (first | exact Drawn0.refl _ | apply Drawn0.step)⟩
       ·rw [if_neg c10] at H
        exact absurd H (by simp)
      ·rw [if_neg c9] at H
       have c9b0 : decide (x4_2 < (a0.size : Int)) = false := decide_eq_false c9
       clear c9
       obtain rfl := Option.some.inj H
       go_wp2
       go_ret
       exact ⟨by first | rfl | (simp; done) | (simp [*]; done), by repeat (first | exact Drawn0.refl _ | apply Drawn0.step)⟩
end Go.Proofs.YtgbdnbbfgcogjaaDoor.Q

namespace Go.Proofs.YtgbdnbbfgcogjaaDoor.Q
open Go.RowKit Go.Proofs.YtgbdnbbfgcogjaaDoorW.PrintWords Go.Proofs.YtgbdnbbfgcogjaaDoorW.PrintLast Go.Proofs.YtgbdnbbfgcogjaaDoorW.PrintMore
attribute [local go_sem] max2_int min2_int max_two min_two max_three min_three max_four min_four
set_option linter.unusedVariables false
set_option linter.unusedSimpArgs false
def spec_AddrGet.l0 : Nat → List ByteArray → Int → Int → Option (Int × Bool)
 | 0, _, _, _ => none
 | k + 1, x4, x5, x6 => if x6 < 4 then (if 0 ≤ x6 then (if x6 < (x4.length : Int) then ((spec_l1Num.f k (rdOf ByteArray.empty x4 x6)).bind fun t105 => ((spec_l1In.f t105 0 255).bind fun t106 => (if t106 = true then (spec_AddrGet.l0 k x4 (wrap64 ((wrap64 (x5 * 256)) + t105)) (wrap64 (x6 + 1))) else (some (0, false))))) else (none)) else (none)) else (some (x5, true))
def spec_AddrGet.f (k : Nat) (a0 : ByteArray) : Option (Int × Bool) := (spec_l1Cut.f k a0 46).bind fun t101 => (if (t101.length : Int) = 4 then (spec_AddrGet.l0 k t101 0 0) else (some (0, false)))
set_option maxHeartbeats 8000000 in
set_option maxRecDepth 100000 in
theorem spec_AddrGet.calls (k : Nat) (a0 : ByteArray) (r1 : Int) (r2 : Bool) (w : World) (h : spec_AddrGet.f k a0 = some (r1, r2)) :
  Calls Tryd.prog 20 #[.string a0] w fun e w' => e = .returned (.tuple #[.int .i64 r1, .bool r2]) ∧ Below w.heap.size w w' := by
 have HB := Aside0.mk (Below.refl w.heap.size w)
 have H : ((spec_l1Cut.f k a0 46).bind fun t101 => (if (t101.length : Int) = 4 then (spec_AddrGet.l0 k t101 0 0) else (some (0, false)))) = some (r1, r2) := h
 clear h
 replace H := Option.bind_eq_some_iff.mp H
 obtain ⟨t101, A20, H⟩ := H
 replace H : (if (t101.length : Int) = 4 then (spec_AddrGet.l0 k t101 0 0) else (some (0, false))) = some (r1, r2) := H
 have A2 := Aside0.mk A20
 clear A20
 by_cases c3 : (t101.length : Int) = 4
 ·rw [if_pos c3] at H
  have c3b0 : ((t101.length : Int) == 4) = true := beq_iff_eq.mpr c3
  have c3b1 : ((t101.length : Int) != 4) = false := bne_eq_false_iff_eq.mpr c3
  clear c3
  have H' := Aside0.mk H
  clear H
  go_enter Tryd.func20, Tryd.ntmps20
  go_wp2_with (first | ((with_reducible refine gate_callee (f := 45) rfl ?_); refine goesL_ (some 9) rfl rfl Tryd.func45 (by kernel_rfl) rfl #[.string a0, .int .u8 46] rfl (by (try simp only [List.map_toArray, List.map_cons, List.map_nil]); first | done | rfl | (simp only [List.length_drop, List.length_take]; rfl)) ?_; (with_reducible refine (spec_l1Cut.calls k a0 46 t101 _ A2.out).mono ?_); rintro e w4 ⟨v102, rfl, ho0, hb⟩; refine ⟨_, rfl, ?_⟩; have n0_ := Aside0.mk (Kd.R_lower ho0 (below_size (by repeat (first | (with_reducible first | exact HB.out | apply below_alloc | apply pw_below_drewN | apply below_drew1) | exact HB.out)))); have n1_ := Aside0.mk (below_step (by repeat (first | (with_reducible first | exact HB.out | apply below_alloc | apply pw_below_drewN | apply below_drew1) | exact HB.out)) hb); clear HB; have HO103 := n0_; have HB := n1_; clear n0_ n1_; (try clear hb); (try clear hb2); (try clear hk); (try clear hi); (try clear ho0); obtain ⟨Ao5, co5, eo5⟩ := Kd.R_slice HO103.out; subst eo5))
  go_loopg [5, 6] k (fun kq v5 v6 w' => ∃ (x5_1 : Int) (x6_1 : Int), v5 = .int .i64 x5_1 ∧ v6 = .int .i64 x6_1 ∧ Aside0 (spec_AddrGet.l0 kq t101 x5_1 x6_1 = some (r1, r2)) ∧ Aside0 (kq ≤ k) ∧ Aside0 (Kd.R Kd.string 9 w' w.heap.size (fun _ => True) (.slice Ao5 t101.length co5) t101) ∧ Aside0 (Below w.heap.size w w'))
  case atStart => exact ⟨(0), (0), (by first | rfl | (simp; done) | (simp [*]; done)), (by first | rfl | (simp; done) | (simp [*]; done)), H', ⟨Nat.le_refl _⟩, ⟨by (with_reducible repeat (first | apply Kd.R_alloc | apply Kd.R_drewN | apply Kd.R_drew)); exact HO103.out⟩, ⟨by repeat (first | (with_reducible first | exact HB.out | apply below_alloc | apply pw_below_drewN | apply below_drew1) | exact HB.out)⟩⟩
  case round =>
   clear H'
   try clear c2
   try clear p2
   try clear c3
   try clear c3b0
   try clear c3b1
   try clear c4
   obtain ⟨x5_1, x6_1, rfl, rfl, HA, HK1, HO_4, HB⟩ := hrel
   cases gk with
   | zero => exact absurd HA.out (by simp [spec_AddrGet.l0])
   | succ k1 =>
    have H := HA.out
    clear HA
    simp only [spec_AddrGet.l0] at H
    by_cases c6 : x6_1 < 4
    ·rw [if_pos c6] at H
     have c6b0 : decide (x6_1 < 4) = true := decide_eq_true c6
     clear c6
     by_cases c7 : 0 ≤ x6_1
     ·rw [if_pos c7] at H
      have c7b0 : decide (0 ≤ x6_1) = true := decide_eq_true c7
      clear c7
      by_cases c8 : x6_1 < (t101.length : Int)
      ·rw [if_pos c8] at H
       have c8b0 : decide (x6_1 < (t101.length : Int)) = true := decide_eq_true c8
       clear c8
       replace H := Option.bind_eq_some_iff.mp H
       obtain ⟨t105, A90, H⟩ := H
       replace H : ((spec_l1In.f t105 0 255).bind fun t106 => (if t106 = true then (spec_AddrGet.l0 k1 t101 (wrap64 ((wrap64 (x5_1 * 256)) + t105)) (wrap64 (x6_1 + 1))) else (some (0, false)))) = some (r1, r2) := H
       have A9 := Aside0.mk A90
       clear A90
       replace H := Option.bind_eq_some_iff.mp H
       obtain ⟨t106, A100, H⟩ := H
       replace H : (if t106 = true then (spec_AddrGet.l0 k1 t101 (wrap64 ((wrap64 (x5_1 * 256)) + t105)) (wrap64 (x6_1 + 1))) else (some (0, false))) = some (r1, r2) := H
       have A10 := Aside0.mk A100
       clear A100
       by_cases c11 : t106 = true
       ·subst c11
        have H1 : (spec_AddrGet.l0 k1 t101 (wrap64 ((wrap64 (x5_1 * 256)) + t105)) (wrap64 (x6_1 + 1))) = some (r1, r2) := by rw [if_pos rfl] at H; exact H
        clear H
        have H := H1
        clear H1
        have H' := Aside0.mk H
        clear H
        have p104 : 0 ≤ (x6_1 : Int) := of_decide_eq_true (by first | (with_reducible assumption) | assumption)
        have q104 : x6_1 < (t101.length : Int) := of_decide_eq_true (by first | (with_reducible assumption) | assumption)
        obtain ⟨ad104, e104, hx104_0⟩ := Kd.at_string (Kd.R_reads' HO_4.out).2.2 x6_1 p104 q104
        cases e104
        replace p104 := eq_true p104
        replace q104 := eq_true q104
        go_wp2_with (first | ((with_reducible refine gate_callee (f := 46) rfl ?_); refine goesL_ (some 21) rfl rfl Tryd.func46 (by kernel_rfl) rfl #[.string (rdOf ByteArray.empty t101 x6_1)] rfl (by (try simp only [List.map_toArray, List.map_cons, List.map_nil]); first | done | rfl | (simp only [List.length_drop, List.length_take]; rfl)) ?_; (with_reducible refine (spec_l1Num.calls k1 (rdOf ByteArray.empty t101 x6_1) t105 _ A9.out).mono ?_); rintro e w' ⟨rfl, ⟨nd, rfl⟩⟩; refine ⟨_, rfl, ?_⟩) | ((with_reducible refine gate_callee (f := 47) rfl ?_); refine goesL_ (some 23) rfl rfl Tryd.func47 (by kernel_rfl) rfl #[.int .i64 t105, .int .i64 0, .int .i64 255] rfl (by (try simp only [List.map_toArray, List.map_cons, List.map_nil]); first | done | rfl | (simp only [List.length_drop, List.length_take]; rfl)) ?_; (with_reducible refine (spec_l1In.calls t105 0 255 true _ A10.out).mono ?_); rintro e w' ⟨rfl, ⟨nd, rfl⟩⟩; refine ⟨_, rfl, ?_⟩))
        go_roundg k1
        case measure => have := HK1.out; omega
        case rel => exact ⟨(wrap64 ((wrap64 (x5_1 * 256)) + t105)), (wrap64 (x6_1 + 1)), (by first | rfl | (simp; done) | (simp [*]; done)), (by first | rfl | (simp; done) | (simp [*]; done)), H', ⟨by have := HK1.out; omega⟩, ⟨by (with_reducible repeat (first | apply Kd.R_alloc | apply Kd.R_drewN | apply Kd.R_drew)); exact HO_4.out⟩, ⟨by repeat (first | (with_reducible first | exact HB.out | apply below_alloc | apply pw_below_drewN | apply below_drew1) | exact HB.out)⟩⟩
       ·replace c11 := Bool.eq_false_iff.mpr c11
        subst c11
        have H1 : (some (0, false)) = some (r1, r2) := by rw [if_neg (show ¬ (false = true) by decide)] at H; exact H
        clear H
        have H := H1
        clear H1
        simp only [Option.some.injEq, Prod.mk.injEq] at H
        obtain ⟨rfl, rfl⟩ := H
        have p104 : 0 ≤ (x6_1 : Int) := of_decide_eq_true (by first | (with_reducible assumption) | assumption)
        have q104 : x6_1 < (t101.length : Int) := of_decide_eq_true (by first | (with_reducible assumption) | assumption)
        obtain ⟨ad104, e104, hx104_0⟩ := Kd.at_string (Kd.R_reads' HO_4.out).2.2 x6_1 p104 q104
        cases e104
        replace p104 := eq_true p104
        replace q104 := eq_true q104
        go_wp2_with (first | ((with_reducible refine gate_callee (f := 46) rfl ?_); refine goesL_ (some 21) rfl rfl Tryd.func46 (by kernel_rfl) rfl #[.string (rdOf ByteArray.empty t101 x6_1)] rfl (by (try simp only [List.map_toArray, List.map_cons, List.map_nil]); first | done | rfl | (simp only [List.length_drop, List.length_take]; rfl)) ?_; (with_reducible refine (spec_l1Num.calls k1 (rdOf ByteArray.empty t101 x6_1) t105 _ A9.out).mono ?_); rintro e w' ⟨rfl, ⟨nd, rfl⟩⟩; refine ⟨_, rfl, ?_⟩) | ((with_reducible refine gate_callee (f := 47) rfl ?_); refine goesL_ (some 23) rfl rfl Tryd.func47 (by kernel_rfl) rfl #[.int .i64 t105, .int .i64 0, .int .i64 255] rfl (by (try simp only [List.map_toArray, List.map_cons, List.map_nil]); first | done | rfl | (simp only [List.length_drop, List.length_take]; rfl)) ?_; (with_reducible refine (spec_l1In.calls t105 0 255 false _ A10.out).mono ?_); rintro e w' ⟨rfl, ⟨nd, rfl⟩⟩; refine ⟨_, rfl, ?_⟩))
        go_ret2
        exact ⟨by first | rfl | (simp [errW_none, errW_some] <;> rfl) | (simp [*, errW_none, errW_some] <;> rfl), by repeat (first | (with_reducible first | exact HB.out | apply below_alloc | apply pw_below_drewN | apply below_drew1) | exact HB.out)⟩
      ·rw [if_neg c8] at H
       exact absurd H (by simp)
     ·rw [if_neg c7] at H
      exact absurd H (by simp)
    ·rw [if_neg c6] at H
     have c6b0 : decide (x6_1 < 4) = false := decide_eq_false c6
     clear c6
     simp only [Option.some.injEq, Prod.mk.injEq] at H
     obtain ⟨rfl, rfl⟩ := H
     go_wp2
     go_ret2
     exact ⟨by first | rfl | (simp [errW_none, errW_some] <;> rfl) | (simp [*, errW_none, errW_some] <;> rfl), by repeat (first | (with_reducible first | exact HB.out | apply below_alloc | apply pw_below_drewN | apply below_drew1) | exact HB.out)⟩
 ·rw [if_neg c3] at H
  have c3b0 : ((t101.length : Int) == 4) = false := beq_eq_false_iff_ne.mpr c3
  have c3b1 : ((t101.length : Int) != 4) = true := bne_iff_ne.mpr c3
  simp only [Option.some.injEq, Prod.mk.injEq] at H
  obtain ⟨rfl, rfl⟩ := H
  go_enter Tryd.func20, Tryd.ntmps20
  go_wp2_with (first | ((with_reducible refine gate_callee (f := 45) rfl ?_); refine goesL_ (some 9) rfl rfl Tryd.func45 (by kernel_rfl) rfl #[.string a0, .int .u8 46] rfl (by (try simp only [List.map_toArray, List.map_cons, List.map_nil]); first | done | rfl | (simp only [List.length_drop, List.length_take]; rfl)) ?_; (with_reducible refine (spec_l1Cut.calls k a0 46 t101 _ A2.out).mono ?_); rintro e w12 ⟨v102, rfl, ho0, hb⟩; refine ⟨_, rfl, ?_⟩; have n0_ := Aside0.mk (Kd.R_lower ho0 (below_size (by repeat (first | (with_reducible first | exact HB.out | apply below_alloc | apply pw_below_drewN | apply below_drew1) | exact HB.out)))); have n1_ := Aside0.mk (below_step (by repeat (first | (with_reducible first | exact HB.out | apply below_alloc | apply pw_below_drewN | apply below_drew1) | exact HB.out)) hb); clear HB; have HO103 := n0_; have HB := n1_; clear n0_ n1_; (try clear hb); (try clear hb2); (try clear hk); (try clear hi); (try clear ho0); obtain ⟨Ao13, co13, eo13⟩ := Kd.R_slice HO103.out; subst eo13))
  go_ret2
  exact ⟨by first | rfl | (simp [errW_none, errW_some] <;> rfl) | (simp [*, errW_none, errW_some] <;> rfl), by repeat (first | (with_reducible first | exact HB.out | apply below_alloc | apply pw_below_drewN | apply below_drew1) | exact HB.out)⟩
end Go.Proofs.YtgbdnbbfgcogjaaDoor.Q

namespace Go.Proofs.YtgbdnbbfgcogjaaDoor.Q
open Go.RowKit Go.Proofs.YtgbdnbbfgcogjaaDoorW.PrintWords Go.Proofs.YtgbdnbbfgcogjaaDoorW.PrintLast Go.Proofs.YtgbdnbbfgcogjaaDoorW.PrintMore
attribute [local go_sem] max2_int min2_int max_two min_two max_three min_three max_four min_four
set_option linter.unusedVariables false
set_option linter.unusedSimpArgs false
def impl_in.f (a0 : Int) (a1 : Int) (a2 : Int) : Option (Bool) := if a0 ≥ a1 then (some (decide (a0 ≤ a2))) else (some false)
set_option maxHeartbeats 8000000 in
set_option maxRecDepth 100000 in
theorem impl_in.calls (a0 : Int) (a1 : Int) (a2 : Int) (r : Bool) (w : World) (h : impl_in.f a0 a1 a2 = some r) :
  Calls Tryd.prog 50 #[.int .i64 a0, .int .i64 a1, .int .i64 a2] w fun e w' => e = .returned (.bool r) ∧ Drawn0 w w' := by
 have H : (if a0 ≥ a1 then (some (decide (a0 ≤ a2))) else (some false)) = some r := h
 clear h
 by_cases c4 : a0 ≥ a1
 ·rw [if_pos c4] at H
  have c4b0 : decide (a1 ≤ a0) = true := decide_eq_true c4
  clear c4
  obtain rfl := Option.some.inj H
  go_enter Tryd.func50, Tryd.ntmps50
  go_wp2
  go_ret
  exact ⟨by first | rfl | (simp; done) | (simp [*]; done), by repeat (first | exact Drawn0.refl _ | apply Drawn0.step)⟩
 ·rw [if_neg c4] at H
  have c4b0 : decide (a1 ≤ a0) = false := decide_eq_false c4
  clear c4
  obtain rfl := Option.some.inj H
  go_enter Tryd.func50, Tryd.ntmps50
  go_wp2
  go_ret
  exact ⟨by first | rfl | (simp; done) | (simp [*]; done), by repeat (first | exact Drawn0.refl _ | apply Drawn0.step)⟩
end Go.Proofs.YtgbdnbbfgcogjaaDoor.Q

namespace Go.Proofs.YtgbdnbbfgcogjaaDoor.Q
open Go.RowKit Go.Proofs.YtgbdnbbfgcogjaaDoorW.PrintWords Go.Proofs.YtgbdnbbfgcogjaaDoorW.PrintLast Go.Proofs.YtgbdnbbfgcogjaaDoorW.PrintMore
attribute [local go_sem] max2_int min2_int max_two min_two max_three min_three max_four min_four
set_option linter.unusedVariables false
set_option linter.unusedSimpArgs false
def impl_isAddr.f (a0 : Int) : Option (Bool) := (impl_in.f a0 0 4294967295).bind fun t101 => (some t101)
set_option maxHeartbeats 8000000 in
set_option maxRecDepth 100000 in
theorem impl_isAddr.calls (a0 : Int) (r : Bool) (w : World) (h : impl_isAddr.f a0 = some r) :
  Calls Tryd.prog 33 #[.int .i64 a0] w fun e w' => e = .returned (.bool r) ∧ Drawn0 w w' := by
 have H : ((impl_in.f a0 0 4294967295).bind fun t101 => (some t101)) = some r := h
 clear h
 replace H := Option.bind_eq_some_iff.mp H
 obtain ⟨t101, A20, H⟩ := H
 replace H : (some t101) = some r := H
 have A2 := Aside0.mk A20
 clear A20
 obtain rfl := Option.some.inj H
 go_enter Tryd.func33, Tryd.ntmps33
 go_wp2_with (first | ((with_reducible refine gate_callee (f := 50) rfl ?_); refine goesL_ (some 4) rfl rfl Tryd.func50 (by kernel_rfl) rfl #[.int .i64 a0, .int .i64 0, .int .i64 4294967295] rfl (by (try simp only [List.map_toArray, List.map_cons, List.map_nil]); first | done | rfl | (simp only [List.length_drop, List.length_take]; rfl)) ?_; (with_reducible refine (impl_in.calls a0 0 4294967295 t101 _ A2.out).mono ?_); rintro e w' ⟨rfl, ⟨nd, rfl⟩⟩; refine ⟨_, rfl, ?_⟩))
 go_ret
 exact ⟨by first | rfl | (simp; done) | (simp [*]; done), by repeat (first | exact Drawn0.refl _ | apply Drawn0.step)⟩
end Go.Proofs.YtgbdnbbfgcogjaaDoor.Q

namespace Go.Proofs
open Go.Shelf
def Tryd.lays156_ren : Go.Shelf.Ren := ⟨fun | 156 => 35 | 165 => 62 | 166 => 41 | 169 => 43 | 240 => 68 | 241 => 79 | 276 => 81 | 277 => 95 | n => n, fun | 31 => 49 | 9 => 9 | 3 => 3 | 4 => 4 | 0 => 0 | 20 => 20 | 72 => 59 | 76 => 62 | 70 => 57 | 37 => 43 | 75 => 61 | 127 => 87 | 164 => 98 | 5 => 5 | 80 => 64 | n => n, fun | n => n⟩
theorem Tryd.lays156 : Go.Proofs.Lays.n156 Tryd.prog Tryd.lays156_ren := {
 mixed := by kernel_rfl
 f156 := Tryd.func35.trans (congrArg some (by kernel_rfl))
 f165 := Tryd.func62.trans (congrArg some (by kernel_rfl))
 f166 := Tryd.func41.trans (congrArg some (by kernel_rfl))
 f169 := Tryd.func43.trans (congrArg some (by kernel_rfl))
 f240 := Tryd.func68.trans (congrArg some (by kernel_rfl))
 f241 := Tryd.func79.trans (congrArg some (by kernel_rfl))
 f276 := Tryd.func81.trans (congrArg some (by kernel_rfl))
 f277 := Tryd.func95.trans (congrArg some (by kernel_rfl))
 t0 := Tryd.underlying0
 a0 := Tryd.isAgg0
 z0 := Tryd.sizeOf0
 v0 := Tryd.zeroValue0
 t3 := Tryd.underlying3
 a3 := Tryd.isAgg3
 z3 := Tryd.sizeOf3
 v3 := Tryd.zeroValue3
 t4 := Tryd.underlying4
 a4 := Tryd.isAgg4
 z4 := Tryd.sizeOf4
 v4 := Tryd.zeroValue4
 t9 := Tryd.underlying9
 a9 := Tryd.isAgg9
 z9 := Tryd.sizeOf9
 v9 := Tryd.zeroValue9
 t20 := Tryd.underlying20
 a20 := Tryd.isAgg20
 z20 := Tryd.sizeOf20
 v20 := Tryd.zeroValue20
 t31 := Tryd.underlying49
 a31 := Tryd.isAgg49
 z31 := Tryd.sizeOf49
 v31 := Tryd.zeroValue49
 t37 := Tryd.underlying43
 a37 := Tryd.isAgg43
 z37 := Tryd.sizeOf43
 v37 := Tryd.zeroValue43
 t70 := Tryd.underlying57
 a70 := Tryd.isAgg57
 z70 := Tryd.sizeOf57
 v70 := Tryd.zeroValue57
 t72 := Tryd.underlying59
 a72 := Tryd.isAgg59
 z72 := Tryd.sizeOf59
 v72 := Tryd.zeroValue59
 t75 := Tryd.underlying61
 a75 := Tryd.isAgg61
 z75 := Tryd.sizeOf61
 v75 := Tryd.zeroValue61
 t76 := Tryd.underlying62
 a76 := Tryd.isAgg62
 z76 := Tryd.sizeOf62
 v76 := Tryd.zeroValue62
 t127 := Tryd.underlying87
 a127 := Tryd.isAgg87
 z127 := Tryd.sizeOf87
 v127 := Tryd.zeroValue87
 t164 := Tryd.underlying98
 a164 := Tryd.isAgg98
 z164 := Tryd.sizeOf98
 v164 := Tryd.zeroValue98 }
theorem Tryd.Builder_Extra_156 : Builder.Extra Tryd.prog Tryd.lays156_ren := {
 sizeBuilder := by kernel_rfl
 liesBuilder := by kernel_rfl
 t5 := Tryd.underlying5
 a5 := Tryd.isAgg5
 z5 := Tryd.sizeOf5
 v5 := Tryd.zeroValue5
 infoByte := by kernel_rfl
 cellsByte := by kernel_rfl
 sizeByte := by kernel_rfl
 neB5 := by decide }
open Go.RowKit in
/-- No element: the empty string; the world is as it was. (Whatever the slice's address and capacity: a nil slice too.) (LAID: no walk: one application.) -/
theorem Tryd.strings_Join_none (a : Option Addr) (c : Nat) (sep : ByteArray) (w : World) :
  Calls Tryd.prog 35 #[.slice a 0 c, .string sep] w fun e w' => e = .returned (.string ⟨#[]⟩) ∧ w' = w := Any.strings_Join_none Tryd.lays156 Tryd.Builder_Extra_156 a c sep w
open Go.RowKit in
/-- strings.Join: "Join concatenates the elements of its first argument to create a single string. The separator string sep is placed between elements in the resulting string.": HOWEVER MANY ELEMENTS. Below the heap's end the world is as it was. (LAID: no walk: one application.) -/
theorem Tryd.strings_Join (bk o c : Nat) (xs : List ByteArray) (sep : ByteArray) (w : World) (hcells : ∀ (j : Nat) x, xs[j]? = some x → w.cell? ⟨bk, o + j, none⟩ = some (.string x)) (hbk : bk < w.heap.size) (hN : xs.length ≤ 140737488355328) (hcap : xs.length ≤ c) (hlen : (Lib.join (xs.map (·.data.toList)) sep.data.toList).length ≤ 140737488355328) :
  Calls Tryd.prog 35 #[.slice (some ⟨bk, o, none⟩) xs.length c, .string sep] w fun e w' => e = .returned (.string ⟨(Lib.join (xs.map (·.data.toList)) sep.data.toList).toArray⟩) ∧ Below w.heap.size w w' := Any.strings_Join Tryd.lays156 Tryd.Builder_Extra_156 bk o c xs sep w hcells hbk hN hcap hlen
def Tryd.laysM171_ren : Go.Shelf.Ren := ⟨fun | 171 => 34 | 243 => 61 | 246 => 78 | 283 => 91 | 284 => 92 | 285 => 93 | 286 => 94 | 129 => 105 | 317 => 104 | 318 => 106 | 319 => 107 | 320 => 108 | 337 => 113 | 338 => 114 | n => n, fun | 3 => 3 | 9 => 9 | 2 => 2 | 4 => 4 | 171 => 109 | 0 => 0 | 53 => 110 | 37 => 43 | 5 => 5 | 173 => 113 | 212 => 124 | 51 => 125 | 20 => 20 | 213 => 126 | 46 => 72 | 232 => 139 | 233 => 140 | n => n, fun | 17 => 3 | 18 => 6 | 19 => 7 | n => n⟩
theorem Tryd.laysM171 : Go.Proofs.LaysM.n171 Tryd.prog Tryd.laysM171_ren := {
 mixed := by kernel_rfl
 f129 := Tryd.func105.trans (congrArg some (by kernel_rfl))
 f171 := Tryd.func34.trans (congrArg some (by kernel_rfl))
 f243 := Tryd.func61.trans (congrArg some (by kernel_rfl))
 f246 := Tryd.func78.trans (congrArg some (by kernel_rfl))
 f283 := Tryd.func91.trans (congrArg some (by kernel_rfl))
 f284 := Tryd.func92.trans (congrArg some (by kernel_rfl))
 f285 := Tryd.func93.trans (congrArg some (by kernel_rfl))
 f286 := Tryd.func94.trans (congrArg some (by kernel_rfl))
 f317 := Tryd.func104.trans (congrArg some (by kernel_rfl))
 f318 := Tryd.func106.trans (congrArg some (by kernel_rfl))
 f319 := Tryd.func107.trans (congrArg some (by kernel_rfl))
 f320 := Tryd.func108.trans (congrArg some (by kernel_rfl))
 f337 := Tryd.func113.trans (congrArg some (by kernel_rfl))
 f338 := Tryd.func114.trans (congrArg some (by kernel_rfl))
 t0 := Tryd.underlying0
 a0 := Tryd.isAgg0
 z0 := Tryd.sizeOf0
 v0 := Tryd.zeroValue0
 t2 := Tryd.underlying2
 a2 := Tryd.isAgg2
 z2 := Tryd.sizeOf2
 v2 := Tryd.zeroValue2
 t3 := Tryd.underlying3
 a3 := Tryd.isAgg3
 z3 := Tryd.sizeOf3
 v3 := Tryd.zeroValue3
 t4 := Tryd.underlying4
 a4 := Tryd.isAgg4
 z4 := Tryd.sizeOf4
 v4 := Tryd.zeroValue4
 t5 := Tryd.underlying5
 a5 := Tryd.isAgg5
 z5 := Tryd.sizeOf5
 v5 := Tryd.zeroValue5
 t9 := Tryd.underlying9
 a9 := Tryd.isAgg9
 z9 := Tryd.sizeOf9
 v9 := Tryd.zeroValue9
 t20 := Tryd.underlying20
 a20 := Tryd.isAgg20
 z20 := Tryd.sizeOf20
 v20 := Tryd.zeroValue20
 t37 := Tryd.underlying43
 a37 := Tryd.isAgg43
 z37 := Tryd.sizeOf43
 v37 := Tryd.zeroValue43
 t46 := Tryd.underlying72
 a46 := Tryd.isAgg72
 z46 := Tryd.sizeOf72
 v46 := Tryd.zeroValue72
 t51 := Tryd.underlying125
 a51 := Tryd.isAgg125
 z51 := Tryd.sizeOf125
 v51 := Tryd.zeroValue125
 t53 := Tryd.underlying110
 a53 := Tryd.isAgg110
 z53 := Tryd.sizeOf110
 v53 := Tryd.zeroValue110
 t171 := Tryd.underlying109
 a171 := Tryd.isAgg109
 z171 := Tryd.sizeOf109
 v171 := Tryd.zeroValue109
 t173 := Tryd.underlying113
 a173 := Tryd.isAgg113
 z173 := Tryd.sizeOf113
 v173 := Tryd.zeroValue113
 t212 := Tryd.underlying124
 a212 := Tryd.isAgg124
 z212 := Tryd.sizeOf124
 v212 := Tryd.zeroValue124
 t213 := Tryd.underlying126
 a213 := Tryd.isAgg126
 z213 := Tryd.sizeOf126
 t232 := Tryd.underlying139
 a232 := Tryd.isAgg139
 z232 := Tryd.sizeOf139
 v232 := Tryd.zeroValue139
 t233 := Tryd.underlying140
 a233 := Tryd.isAgg140
 z233 := Tryd.sizeOf140
 v233 := Tryd.zeroValue140
 g17 := by kernel_rfl
 g18 := by kernel_rfl
 g19 := by kernel_rfl
 i0 := by kernel_rfl
 i2 := by kernel_rfl
 i3 := by kernel_rfl
 i4 := by kernel_rfl
 i5 := by kernel_rfl
 i9 := by kernel_rfl
 i20 := by kernel_rfl
 i37 := by kernel_rfl
 i46 := by kernel_rfl
 i51 := by kernel_rfl
 i53 := by kernel_rfl
 i171 := by kernel_rfl
 i173 := by kernel_rfl
 i212 := by kernel_rfl
 i232 := by kernel_rfl
 i233 := by kernel_rfl
 m17 := by kernel_rfl
 m18 := by kernel_rfl
 m19 := by kernel_rfl }
open Go.RowKit Go.Sort Go.Lib in
/-- strconv.Itoa: "Itoa is equivalent to FormatInt(int64(i), 10).": i's DECIMAL NUMERAL ('Lib.itoa': a '-' where i is negative, then the digits), FOR EVERY int. The world behind the call: the world before it, new blocks behind the heap (the library's 'var a [24]byte'), draws. (LAID: no walk: one application.) -/
theorem Tryd.strconv_Itoa (n : Int) (h0 : -9223372036854775808 ≤ n) (h1 : n ≤ 9223372036854775807) (w : World) (htab : Lib.TabIs Tryd.prog w "internal/strconv.uint64pow10" .u64 Lib.pow10Tab) :
  Calls Tryd.prog 34 #[.int .i64 n] w fun e w' => e = .returned (.string ⟨(Lib.itoa n).toArray⟩) ∧ ∃ k os, w' = grow (w.drewN k) os := Any.strconv_Itoa Tryd.laysM171 n h0 h1 w htab
def Tryd.laysC172_ren : Go.Shelf.Ren := ⟨fun | 172 => 49 | 244 => 70 | 245 => 71 | 247 => 85 | 279 => 86 | 280 => 87 | 281 => 88 | 282 => 89 | 287 => 97 | 316 => 98 | 171 => 34 | 205 => 99 | 321 => 109 | 322 => 110 | 243 => 61 | 246 => 78 | 283 => 91 | 284 => 92 | 285 => 93 | 286 => 94 | 129 => 105 | 317 => 104 | 318 => 106 | 319 => 107 | 320 => 108 | 337 => 113 | 338 => 114 | n => n, fun | 9 => 9 | 3 => 3 | 75 => 61 | 76 => 62 | 4 => 4 | 5 => 5 | 167 => 103 | 37 => 43 | 0 => 0 | 85 => 104 | 2 => 2 | 168 => 106 | 53 => 110 | 175 => 116 | 46 => 72 | 210 => 120 | 127 => 87 | 145 => 135 | 143 => 133 | 21 => 21 | 171 => 109 | 173 => 113 | 212 => 124 | 51 => 125 | 20 => 20 | 213 => 126 | 232 => 139 | 233 => 140 | 80 => 64 | n => n, fun | 15 => 0 | 16 => 1 | 17 => 3 | 18 => 6 | 19 => 7 | n => n⟩
theorem Tryd.laysC172 : Go.Proofs.LaysC.n172 Tryd.prog Tryd.laysC172_ren := {
 mixed := by kernel_rfl
 f129 := Tryd.func105.trans (congrArg some (by kernel_rfl))
 f171 := Tryd.func34.trans (congrArg some (by kernel_rfl))
 f172 := Tryd.func49.trans (congrArg some (by kernel_rfl))
 f205 := Tryd.func99.trans (congrArg some (by kernel_rfl))
 f243 := Tryd.func61.trans (congrArg some (by kernel_rfl))
 f244 := Tryd.func70.trans (congrArg some (by kernel_rfl))
 f245 := Tryd.func71.trans (congrArg some (by kernel_rfl))
 f246 := Tryd.func78.trans (congrArg some (by kernel_rfl))
 f247 := Tryd.func85.trans (congrArg some (by kernel_rfl))
 f279 := Tryd.func86.trans (congrArg some (by kernel_rfl))
 f280 := Tryd.func87.trans (congrArg some (by kernel_rfl))
 f281 := Tryd.func88.trans (congrArg some (by kernel_rfl))
 f282 := Tryd.func89.trans (congrArg some (by kernel_rfl))
 f283 := Tryd.func91.trans (congrArg some (by kernel_rfl))
 f284 := Tryd.func92.trans (congrArg some (by kernel_rfl))
 f285 := Tryd.func93.trans (congrArg some (by kernel_rfl))
 f286 := Tryd.func94.trans (congrArg some (by kernel_rfl))
 f287 := Tryd.func97.trans (congrArg some (by kernel_rfl))
 f316 := Tryd.func98.trans (congrArg some (by kernel_rfl))
 f317 := Tryd.func104.trans (congrArg some (by kernel_rfl))
 f318 := Tryd.func106.trans (congrArg some (by kernel_rfl))
 f319 := Tryd.func107.trans (congrArg some (by kernel_rfl))
 f320 := Tryd.func108.trans (congrArg some (by kernel_rfl))
 f321 := Tryd.func109.trans (congrArg some (by kernel_rfl))
 f322 := Tryd.func110.trans (congrArg some (by kernel_rfl))
 f337 := Tryd.func113.trans (congrArg some (by kernel_rfl))
 f338 := Tryd.func114.trans (congrArg some (by kernel_rfl))
 t0 := Tryd.underlying0
 a0 := Tryd.isAgg0
 z0 := Tryd.sizeOf0
 v0 := Tryd.zeroValue0
 t2 := Tryd.underlying2
 a2 := Tryd.isAgg2
 z2 := Tryd.sizeOf2
 v2 := Tryd.zeroValue2
 t3 := Tryd.underlying3
 a3 := Tryd.isAgg3
 z3 := Tryd.sizeOf3
 v3 := Tryd.zeroValue3
 t4 := Tryd.underlying4
 a4 := Tryd.isAgg4
 z4 := Tryd.sizeOf4
 v4 := Tryd.zeroValue4
 t5 := Tryd.underlying5
 a5 := Tryd.isAgg5
 z5 := Tryd.sizeOf5
 v5 := Tryd.zeroValue5
 t9 := Tryd.underlying9
 a9 := Tryd.isAgg9
 z9 := Tryd.sizeOf9
 v9 := Tryd.zeroValue9
 t20 := Tryd.underlying20
 a20 := Tryd.isAgg20
 z20 := Tryd.sizeOf20
 v20 := Tryd.zeroValue20
 t21 := Tryd.underlying21
 a21 := Tryd.isAgg21
 z21 := Tryd.sizeOf21
 v21 := Tryd.zeroValue21
 t37 := Tryd.underlying43
 a37 := Tryd.isAgg43
 z37 := Tryd.sizeOf43
 v37 := Tryd.zeroValue43
 t46 := Tryd.underlying72
 a46 := Tryd.isAgg72
 z46 := Tryd.sizeOf72
 v46 := Tryd.zeroValue72
 t51 := Tryd.underlying125
 a51 := Tryd.isAgg125
 z51 := Tryd.sizeOf125
 v51 := Tryd.zeroValue125
 t53 := Tryd.underlying110
 a53 := Tryd.isAgg110
 z53 := Tryd.sizeOf110
 v53 := Tryd.zeroValue110
 t75 := Tryd.underlying61
 a75 := Tryd.isAgg61
 z75 := Tryd.sizeOf61
 v75 := Tryd.zeroValue61
 t76 := Tryd.underlying62
 a76 := Tryd.isAgg62
 z76 := Tryd.sizeOf62
 v76 := Tryd.zeroValue62
 t85 := Tryd.underlying104
 a85 := Tryd.isAgg104
 z85 := Tryd.sizeOf104
 v85 := Tryd.zeroValue104
 t127 := Tryd.underlying87
 a127 := Tryd.isAgg87
 z127 := Tryd.sizeOf87
 v127 := Tryd.zeroValue87
 t143 := Tryd.underlying133
 a143 := Tryd.isAgg133
 z143 := Tryd.sizeOf133
 v143 := Tryd.zeroValue133
 t145 := Tryd.underlying135
 a145 := Tryd.isAgg135
 z145 := Tryd.sizeOf135
 v145 := Tryd.zeroValue135
 t167 := Tryd.underlying103
 a167 := Tryd.isAgg103
 z167 := Tryd.sizeOf103
 v167 := Tryd.zeroValue103
 t168 := Tryd.underlying106
 a168 := Tryd.isAgg106
 z168 := Tryd.sizeOf106
 v168 := Tryd.zeroValue106
 t171 := Tryd.underlying109
 a171 := Tryd.isAgg109
 z171 := Tryd.sizeOf109
 v171 := Tryd.zeroValue109
 t173 := Tryd.underlying113
 a173 := Tryd.isAgg113
 z173 := Tryd.sizeOf113
 v173 := Tryd.zeroValue113
 t175 := Tryd.underlying116
 a175 := Tryd.isAgg116
 z175 := Tryd.sizeOf116
 v175 := Tryd.zeroValue116
 t210 := Tryd.underlying120
 a210 := Tryd.isAgg120
 z210 := Tryd.sizeOf120
 v210 := Tryd.zeroValue120
 t212 := Tryd.underlying124
 a212 := Tryd.isAgg124
 z212 := Tryd.sizeOf124
 v212 := Tryd.zeroValue124
 t213 := Tryd.underlying126
 a213 := Tryd.isAgg126
 z213 := Tryd.sizeOf126
 t232 := Tryd.underlying139
 a232 := Tryd.isAgg139
 z232 := Tryd.sizeOf139
 v232 := Tryd.zeroValue139
 t233 := Tryd.underlying140
 a233 := Tryd.isAgg140
 z233 := Tryd.sizeOf140
 v233 := Tryd.zeroValue140
 g15 := by kernel_rfl
 g16 := by kernel_rfl
 g17 := by kernel_rfl
 g18 := by kernel_rfl
 g19 := by kernel_rfl
 t80 := Tryd.underlying64
 a80 := Tryd.isAgg64
 z80 := Tryd.sizeOf64
 v80 := Tryd.zeroValue64
 i0 := by kernel_rfl
 i2 := by kernel_rfl
 i3 := by kernel_rfl
 i4 := by kernel_rfl
 i5 := by kernel_rfl
 i9 := by kernel_rfl
 i20 := by kernel_rfl
 i21 := by kernel_rfl
 i37 := by kernel_rfl
 i46 := by kernel_rfl
 i51 := by kernel_rfl
 i53 := by kernel_rfl
 i75 := by kernel_rfl
 i76 := by kernel_rfl
 i80 := by kernel_rfl
 i85 := by kernel_rfl
 i127 := by kernel_rfl
 i143 := by kernel_rfl
 i145 := by kernel_rfl
 i167 := by kernel_rfl
 i168 := by kernel_rfl
 i171 := by kernel_rfl
 i173 := by kernel_rfl
 i175 := by kernel_rfl
 i210 := by kernel_rfl
 i212 := by kernel_rfl
 i232 := by kernel_rfl
 i233 := by kernel_rfl
 m15 := by kernel_rfl
 m16 := by kernel_rfl
 m17 := by kernel_rfl
 m18 := by kernel_rfl
 m19 := by kernel_rfl
 c0 := by kernel_rfl
 c2 := by kernel_rfl
 c3 := by kernel_rfl
 c4 := by kernel_rfl
 c5 := by kernel_rfl
 c9 := by kernel_rfl
 c20 := by kernel_rfl
 c21 := by kernel_rfl
 c37 := by kernel_rfl
 c46 := by kernel_rfl
 c51 := by kernel_rfl
 c53 := by kernel_rfl
 c75 := by kernel_rfl
 c76 := by kernel_rfl
 c80 := by kernel_rfl
 c85 := by kernel_rfl
 c127 := by kernel_rfl
 c143 := by kernel_rfl
 c145 := by kernel_rfl
 c167 := by kernel_rfl
 c168 := by kernel_rfl
 c171 := by kernel_rfl
 c173 := by kernel_rfl
 c175 := by kernel_rfl
 c210 := by kernel_rfl
 c212 := by kernel_rfl
 c213 := by kernel_rfl
 c232 := by kernel_rfl
 c233 := by kernel_rfl }
open Go.RowKit in
/-- strconv.Atoi, AT EVERY STRING THAT SPELLS AN int ('Lib.atoiAll .. = .ok v'; of whatever length: leading zeros count): v, AND NO ERROR. The world: as it was, or with the one new row that '[]byte(..)' lays. (LAID: no walk: one application.) -/
theorem Tryd.strconv_Atoi_ok (s : ByteArray) (hmax : s.size ≤ 9223372036854775806) (v : Int) (h : Lib.atoiAll s.data.toList = .ok v) (w : World) :
  Calls Tryd.prog 49 #[.string s] w fun e w' => e = .returned (.tuple #[.int .i64 v, .nilIface]) ∧ (w' = w ∨ ∃ t, w' = Lib.bytesWorld w 5 t) := Any.strconv_Atoi_ok Tryd.laysC172 s hmax v h w
open Go.RowKit in
/-- strconv.Atoi, AT EVERY STRING THAT IS NO DECIMAL NUMERAL ('.syntax'): 0, AND AN ERROR THAT IS NOT nil: a *NumError in a new block N: {Func: "Atoi", Num: s's bytes, Err: what the variable ErrSyntax holds}. Of what was there nothing has turned. (LAID: no walk: one application.) -/
theorem Tryd.strconv_Atoi_syntax (s : ByteArray) (hlim : s.size ≤ 281474976710656) (h : match Lib.atoiAll s.data.toList with | .ok _ => False | .range => False | _ => True) (ev : Value) (w : World) (hv : w.cell? ⟨0, 0, none⟩ = some ev) (hev : ev = .nilIface ∨ ∃ te pe, ev = .iface te pe) :
  Calls Tryd.prog 49 #[.string s] w fun e w' => ∃ N, e = .returned (.tuple #[.int .i64 (0), .iface 106 (.pointer (some ⟨N, 0, none⟩))]) ∧ w.heap.size ≤ N ∧ w'.heap[N]? = some (.cells #[.string ⟨#[65, 116, 111, 105]⟩, .string s, ev] 120 (0, 0)) ∧ Below w.heap.size w w' := Any.strconv_Atoi_syntax Tryd.laysC172 s hlim (by revert h; cases Lib.atoiAll s.data.toList <;> simp) ev w hv hev
open Go.RowKit in
/-- strconv.Atoi, AT EVERY NUMERAL THAT NO int HOLDS ('.range'): THE GREATEST OR THE LEAST int, BY THE SIGN ('Lib.atoiSat'), AND AN ERROR THAT IS NOT nil: a *NumError in a new block N: {Func: "Atoi", Num: s's bytes, Err: what the variable ErrRange holds}. Of what was there nothing has turned. (LAID: no walk: one application.) -/
theorem Tryd.strconv_Atoi_range (s : ByteArray) (hlim : s.size ≤ 281474976710656) (h : Lib.atoiAll s.data.toList = .range) (ev : Value) (w : World) (hv : w.cell? ⟨1, 0, none⟩ = some ev) (hev : ev = .nilIface ∨ ∃ te pe, ev = .iface te pe) :
  Calls Tryd.prog 49 #[.string s] w fun e w' => ∃ N, e = .returned (.tuple #[.int .i64 (Lib.atoiSat s.data.toList), .iface 106 (.pointer (some ⟨N, 0, none⟩))]) ∧ w.heap.size ≤ N ∧ w'.heap[N]? = some (.cells #[.string ⟨#[65, 116, 111, 105]⟩, .string s, ev] 120 (0, 0)) ∧ Below w.heap.size w w' := Any.strconv_Atoi_range Tryd.laysC172 s hlim h ev w hv hev
def Tryd.lays143_ren : Go.Shelf.Ren := ⟨fun | 143 => 84 | 219 => 90 | 217 => 100 | 225 => 101 | 224 => 102 | 267 => 103 | 266 => 111 | 314 => 112 | n => n, fun | 9 => 9 | 3 => 3 | 4 => 4 | 5 => 5 | 46 => 72 | 146 => 136 | 51 => 125 | n => n, fun | 1 => 2 | n => n⟩
theorem Tryd.lays143 : Go.Proofs.Lays.n143 Tryd.prog Tryd.lays143_ren := {
 mixed := by kernel_rfl
 f143 := Tryd.func84.trans (congrArg some (by kernel_rfl))
 f217 := Tryd.func100.trans (congrArg some (by kernel_rfl))
 f219 := Tryd.func90.trans (congrArg some (by kernel_rfl))
 f224 := Tryd.func102.trans (congrArg some (by kernel_rfl))
 f225 := Tryd.func101.trans (congrArg some (by kernel_rfl))
 f266 := Tryd.func111.trans (congrArg some (by kernel_rfl))
 f267 := Tryd.func103.trans (congrArg some (by kernel_rfl))
 f314 := Tryd.func112.trans (congrArg some (by kernel_rfl))
 t3 := Tryd.underlying3
 a3 := Tryd.isAgg3
 z3 := Tryd.sizeOf3
 v3 := Tryd.zeroValue3
 t4 := Tryd.underlying4
 a4 := Tryd.isAgg4
 z4 := Tryd.sizeOf4
 v4 := Tryd.zeroValue4
 t5 := Tryd.underlying5
 a5 := Tryd.isAgg5
 z5 := Tryd.sizeOf5
 v5 := Tryd.zeroValue5
 t9 := Tryd.underlying9
 a9 := Tryd.isAgg9
 z9 := Tryd.sizeOf9
 v9 := Tryd.zeroValue9
 t46 := Tryd.underlying72
 a46 := Tryd.isAgg72
 z46 := Tryd.sizeOf72
 v46 := Tryd.zeroValue72
 t51 := Tryd.underlying125
 a51 := Tryd.isAgg125
 z51 := Tryd.sizeOf125
 v51 := Tryd.zeroValue125
 t146 := Tryd.underlying136
 a146 := Tryd.isAgg136
 z146 := Tryd.sizeOf136
 v146 := Tryd.zeroValue136
 g1 := by kernel_rfl }
open Go.RowKit Go.Lib in
/-- strings.Index: "Index returns the index of the first instance of substr in s, or -1 if substr is not present in s.": AT A substr OF ONE BYTE c: IT RETURNS 'Lib.indexByte s c'; the world is as it was. (LAID: no walk: one application.) -/
theorem Tryd.strings_Index_one (s : ByteArray) (c : UInt8) (w : World) :
  Calls Tryd.prog 84 #[.string s, .string ⟨#[c]⟩] w fun e w' => e = .returned (.int .i64 (Lib.indexByte s.data.toList c)) ∧ w' = w := Any.strings_Index_one Tryd.lays143 s c w
end Go.Proofs

namespace Go.Proofs.YtgbdnbbfgcogjaaDoor.Tb
open Go.RowKit
/-- The table of powers of ten lies as the library's text lays it. -/
def T1 (w : World) : Prop := Lib.TabIs Tryd.prog w "internal/strconv.uint64pow10" .u64 Lib.pow10Tab
theorem T1.below {w w' : World} (h : T1 w) (hb : Below w.heap.size w w') : T1 w' := by
 unfold T1 Lib.TabIs World.var? at h ⊢
 rcases hg : Tryd.prog.globalNamed "internal/strconv.uint64pow10" with _ | g
 ·rw [hg] at h
  cases h
 ·rw [hg] at h
  simp only [Option.bind_some] at h ⊢
  have hlt : g < w.heap.size := by
   rcases Nat.lt_or_ge g w.heap.size with h' | h'
   ·exact h'
   ·rw [Array.getElem?_eq_none h'] at h; cases h
  rw [hb.block g hlt]
  exact h
/-- The variables of the two errors hold interface values. -/
def Er (w : World) : Prop := (∃ ev, w.cell? ⟨0, 0, none⟩ = some ev ∧ (ev = .nilIface ∨ ∃ te pe, ev = .iface te pe)) ∧ (∃ ev, w.cell? ⟨1, 0, none⟩ = some ev ∧ (ev = .nilIface ∨ ∃ te pe, ev = .iface te pe))
theorem cell_later {w w' : World} (hb : Below w.heap.size w w') {a : Addr} {v : Value} (hc : w.cell? a = some v) : w'.cell? a = some v := (hb.cell (World.block_lt_of_cell? w a hc)).trans hc
theorem Er.below {w w' : World} (h : Er w) (hb : Below w.heap.size w w') : Er w' := by
 obtain ⟨⟨e1, h1, k1⟩, e2, h2, k2⟩ := h
 exact ⟨⟨e1, cell_later hb h1, k1⟩, e2, cell_later hb h2, k2⟩
/-- The table, and the errors' variables. -/
def T2 (w : World) : Prop := T1 w ∧ Er w
theorem T2.below {w w' : World} (h : T2 w) (hb : Below w.heap.size w w') : T2 w' := ⟨h.1.below hb, h.2.below hb⟩
theorem T1.of {w : World} (h : T2 w) : T1 w := h.1
theorem below_drewN (w : World) : ∀ n, Below w.heap.size w (w.drewN n)
 | 0 => Below.refl _ _
 | n + 1 => by
  rw [← World.drew_drewN]
  exact (below_drewN w n).drew
open Go.Shelf Go.Sort in
theorem below_grow (w : World) (n : Nat) (os : Array Obj) : Below w.heap.size w (grow (w.drewN n) os) := by
 have h := below_drewN w n
 have hs := h.size
 refine ⟨h.os, h.tape, h.output, ?_, fun i hi => ?_⟩
 ·simp
 ·rw [heap_grow_old _ _ (by omega)]
  exact h.block i hi
end Go.Proofs.YtgbdnbbfgcogjaaDoor.Tb

namespace Go.Proofs.YtgbdnbbfgcogjaaDoor.Q
open Go.RowKit Go.Proofs.YtgbdnbbfgcogjaaDoorW.PrintWords Go.Proofs.YtgbdnbbfgcogjaaDoorW.PrintLast Go.Proofs.YtgbdnbbfgcogjaaDoorW.PrintMore
attribute [local go_sem] max2_int min2_int max_two min_two max_three min_three max_four min_four
set_option linter.unusedVariables false
set_option linter.unusedSimpArgs false
/-- A number in decimals. -/
def strconv_Itoa.f (a0 : Int) : Option ByteArray := if -9223372036854775808 ≤ a0 ∧ a0 ≤ 9223372036854775807 then some ⟨(Lib.itoa a0).toArray⟩ else none
theorem strconv_Itoa.calls (a0 : Int) (r : ByteArray) (w : World) (hT : Tb.T1 w) (h : strconv_Itoa.f a0 = some r) :
  Calls Tryd.prog 34 #[.int .i64 a0] w fun e w' => e = .returned (.string r) ∧ Below w.heap.size w w' := by
 unfold strconv_Itoa.f at h
 split at h
 ·rename_i hc
  obtain rfl := Option.some.inj h
  refine (Tryd.strconv_Itoa a0 hc.1 hc.2 w hT).mono ?_
  rintro e w' ⟨rfl, k, os, rfl⟩
  exact ⟨rfl, Tb.below_grow w k os⟩
 ·cases h
end Go.Proofs.YtgbdnbbfgcogjaaDoor.Q

namespace Go.Proofs.YtgbdnbbfgcogjaaDoor.Q
open Go.RowKit Go.Proofs.YtgbdnbbfgcogjaaDoorW.PrintWords Go.Proofs.YtgbdnbbfgcogjaaDoorW.PrintLast Go.Proofs.YtgbdnbbfgcogjaaDoorW.PrintMore
attribute [local go_sem] max2_int min2_int max_two min_two max_three min_three max_four min_four
set_option linter.unusedVariables false
set_option linter.unusedSimpArgs false
/-- Strings joined by a separator. -/
def strings_Join.f (l0 : List ByteArray) (a1 : ByteArray) : Option ByteArray :=
 if l0.length ≤ 140737488355328 ∧ (Lib.join (l0.map (·.data.toList)) a1.data.toList).length ≤ 140737488355328 then some ⟨(Lib.join (l0.map (·.data.toList)) a1.data.toList).toArray⟩ else none
theorem strings_Join.calls (A0 : Option Addr) (c0 : Nat) (l0 : List ByteArray) (a1 : ByteArray) (r : ByteArray) (w : World) (hr0 : Kd.C Kd.string w A0 l0.length l0) (hc0 : l0.length ≤ c0) (h : strings_Join.f l0 a1 = some r) :
  Calls Tryd.prog 35 #[.slice A0 l0.length c0, .string a1] w fun e w' => e = .returned (.string r) ∧ Below w.heap.size w w' := by
 unfold strings_Join.f at h
 split at h
 ·rename_i hc
  obtain rfl := Option.some.inj h
  rcases Nat.eq_zero_or_pos l0.length with h0 | h0
  ·obtain rfl := List.length_eq_zero_iff.1 h0
   refine (Tryd.strings_Join_none A0 c0 a1 w).mono ?_
   rintro e w' ⟨rfl, rfl⟩
   exact ⟨rfl, Below.refl _ _⟩
  ·obtain ⟨ad, rfl, c00⟩ := Kd.at_string hr0 0 (Int.le_refl 0) (by omega)
   have hn : ad.spot = none := by
    have h : w.cell? (ad.add 0) = _ := c00
    unfold Addr.add World.cell? at h
    rw [if_pos rfl] at h
    split at h
    ·cases hs : ad.spot with
     | none => rfl
     | some x => rw [hs] at h; simp at h
    ·cases h
   obtain ⟨b, off, sp⟩ := ad
   obtain rfl : sp = none := hn
   refine (Tryd.strings_Join b off c0 l0 a1 w (fun j x hj => ?_) (World.block_lt_of_cell? w ⟨b, off, none⟩ c00) hc.1 hc0 hc.2).mono ?_
   ·have hlt : j < l0.length := by
     rcases Nat.lt_or_ge j l0.length with h | h
     ·exact h
     ·rw [List.getElem?_eq_none h] at hj; cases hj
    obtain ⟨ad, e, c0⟩ := Kd.at_string hr0 j (by omega) (by omega)
    obtain rfl : (⟨b, off, none⟩ : Addr) = ad := Option.some.inj e
    simp only [Addr.add_lit, Int.toNat_natCast] at c0
    have hx : rdOf ByteArray.empty l0 (j : Int) = x := by
     show l0.getD ((j : Int)).toNat _ = x
     rw [Int.toNat_natCast, List.getD_eq_getElem?_getD, hj]
     rfl
    rw [c0, hx]
   ·rintro e w' ⟨rfl, hb⟩
    exact ⟨rfl, hb⟩
 ·cases h
end Go.Proofs.YtgbdnbbfgcogjaaDoor.Q

namespace Go.Proofs.YtgbdnbbfgcogjaaDoor.Q
open Go.RowKit Go.Proofs.YtgbdnbbfgcogjaaDoorW.PrintWords Go.Proofs.YtgbdnbbfgcogjaaDoorW.PrintLast Go.Proofs.YtgbdnbbfgcogjaaDoorW.PrintMore
attribute [local go_sem] max2_int min2_int max_two min_two max_three min_three max_four min_four
set_option linter.unusedVariables false
set_option linter.unusedSimpArgs false
def impl_AddrText.l0 : Nat → Int → List ByteArray → Int → Option (ByteArray)
 | 0, _, _, _ => none
 | k + 1, x0, x3, x4 => if x4 ≥ 0 then (if 0 ≤ x4 then ((strconv_Itoa.f (Go.bits .and .i64 (shr .i64 x0 x4) 255)).bind fun t102 => (if x3.length < 8796093022208 then (impl_AddrText.l0 k x0 (x3 ++ [t102]) (wrap64 (x4 - 8))) else (none))) else (none)) else ((strings_Join.f x3 (⟨#[46]⟩ : ByteArray)).bind fun t106 => (some t106))
def impl_AddrText.f (k : Nat) (a0 : Int) : Option (ByteArray) := (impl_isAddr.f a0).bind fun t101 => (if t101 = true then (impl_AddrText.l0 k a0 ([] : List ByteArray) 24) else (some (⟨#[]⟩ : ByteArray)))
set_option maxHeartbeats 8000000 in
set_option maxRecDepth 100000 in
theorem impl_AddrText.calls (k : Nat) (a0 : Int) (r : ByteArray) (w : World) (hT : Tb.T1 w) (h : impl_AddrText.f k a0 = some r) :
  Calls Tryd.prog 11 #[.int .i64 a0] w fun e w' => e = .returned (.string r) ∧ Below w.heap.size w w' := by
 have HT := Aside0.mk hT
 clear hT
 have HB := Aside0.mk (Below.refl w.heap.size w)
 have H : ((impl_isAddr.f a0).bind fun t101 => (if t101 = true then (impl_AddrText.l0 k a0 ([] : List ByteArray) 24) else (some (⟨#[]⟩ : ByteArray)))) = some r := h
 clear h
 replace H := Option.bind_eq_some_iff.mp H
 obtain ⟨t101, A20, H⟩ := H
 replace H : (if t101 = true then (impl_AddrText.l0 k a0 ([] : List ByteArray) 24) else (some (⟨#[]⟩ : ByteArray))) = some r := H
 have A2 := Aside0.mk A20
 clear A20
 by_cases c3 : t101 = true
 ·subst c3
  have H1 : (impl_AddrText.l0 k a0 ([] : List ByteArray) 24) = some r := by rw [if_pos rfl] at H; exact H
  clear H
  have H := H1
  clear H1
  have H' := Aside0.mk H
  clear H
  go_enter Tryd.func11, Tryd.ntmps11
  go_wp2_with (first | ((with_reducible refine gate_callee (f := 33) rfl ?_); refine goesL_ (some 6) rfl rfl Tryd.func33 (by kernel_rfl) rfl #[.int .i64 a0] rfl (by (try simp only [List.map_toArray, List.map_cons, List.map_nil]); first | done | rfl | (simp only [List.length_drop, List.length_take]; rfl)) ?_; (with_reducible refine (impl_isAddr.calls a0 true _ A2.out).mono ?_); rintro e w' ⟨rfl, ⟨nd, rfl⟩⟩; refine ⟨_, rfl, ?_⟩))
  go_loopg [3, 4] k (fun kq v3 v4 w' => ∃ (x3_1 : List ByteArray) (x4_1 : Int), v4 = .int .i64 x4_1 ∧ Aside0 (impl_AddrText.l0 kq a0 x3_1 x4_1 = some r) ∧ Aside0 (kq ≤ k) ∧ Aside0 (Kd.R Kd.string 9 w' w.heap.size (fun _ => True) v3 x3_1) ∧ Aside0 (Below w.heap.size w w'))
  case atStart => exact ⟨(([] : List ByteArray)), (24), (by first | rfl | (simp; done) | (simp [*]; done)), H', ⟨Nat.le_refl _⟩, ⟨by first | exact Kd.R_nil _ _ _ _ _ | exact Kd.N_nil _ _ _ _ _ | exact Kd.V_nil _ _ _ _ _ | exact Kd.Q_nil _ _ _ _ _ | exact Kd.S_nil _ _ _ _ _⟩, ⟨by repeat (first | (with_reducible first | exact HB.out | apply below_alloc | apply pw_below_drewN | apply below_drew1) | exact HB.out)⟩⟩
  case round =>
   clear H'
   try clear c1
   try clear p2
   try clear c3
   obtain ⟨x3_1, x4_1, rfl, HA, HK1, HO_3, HB⟩ := hrel
   cases gk with
   | zero => exact absurd HA.out (by simp [impl_AddrText.l0])
   | succ k1 =>
    have H := HA.out
    clear HA
    simp only [impl_AddrText.l0] at H
    by_cases c4 : x4_1 ≥ 0
    ·rw [if_pos c4] at H
     have c4b0 : decide (0 ≤ x4_1) = true := decide_eq_true c4
     clear c4
     by_cases c5 : 0 ≤ x4_1
     ·rw [if_pos c5] at H
      have c5b0 := eq_true c5
      have c5b1 : decide (0 ≤ x4_1) = true := decide_eq_true c5
      clear c5
      obtain ⟨ji6, hji6⟩ : ∃ j_ : Int, (shr .i64 a0 x4_1) = j_ := ⟨_, rfl⟩
      replace H : ((strconv_Itoa.f (Go.bits .and .i64 (ji6) 255)).bind fun t102 => (if x3_1.length < 8796093022208 then (impl_AddrText.l0 k1 a0 (x3_1 ++ [t102]) (wrap64 (x4_1 - 8))) else (none))) = some r := by first | (rw [hji6] at H; exact H) | (simp only [hji6] at H ⊢; exact H)
      have hji6_ : (a0 / 2 ^ min x4_1.toNat 64) = ji6 := hji6
      have hji6z : x4_1 ≤ 64 → (a0 / 2 ^ x4_1.toNat) = ji6 := shr_small hji6
      replace H := Option.bind_eq_some_iff.mp H
      obtain ⟨t102, A70, H⟩ := H
      replace H : (if x3_1.length < 8796093022208 then (impl_AddrText.l0 k1 a0 (x3_1 ++ [t102]) (wrap64 (x4_1 - 8))) else (none)) = some r := H
      have A7 := Aside0.mk A70
      clear A70
      by_cases c8 : x3_1.length < 8796093022208
      ·rw [if_pos c8] at H
       have LMc8 := Aside0.mk c8
       clear c8
       obtain ⟨y103, hy103⟩ : ∃ y_ : List ByteArray, y_ = (x3_1 ++ [t102]) := ⟨_, rfl⟩
       replace H : (impl_AddrText.l0 k1 a0 y103 (wrap64 (x4_1 - 8))) = some r := by first | (rw [hy103]; with_reducible exact H) | (have H2_ := (Option.bind_some _ _).symm.trans H; rw [hy103]; with_reducible exact H2_) | (have H2_ := (Option.bind_some _ _).symm.trans H; with_reducible exact H2_) | with_reducible exact H | (rw [hy103]; exact H) | exact H
       have Ny103 := Aside0.mk hy103
       clear hy103
       have H' := Aside0.mk H
       clear H
       go_wp2_with (first | ((with_reducible refine gate_callee (f := 34) rfl ?_); refine goesL_ (some 17) rfl rfl Tryd.func34 (by kernel_rfl) rfl #[.int .i64 (Go.bits .and .i64 (ji6) 255)] rfl (by (try simp only [List.map_toArray, List.map_cons, List.map_nil]); first | done | (simp only [hji6]; rfl) | rfl | (simp only [List.length_drop, List.length_take]; rfl)) ?_; (with_reducible refine (strconv_Itoa.calls (Go.bits .and .i64 (ji6) 255) t102 _ ?side1 A7.out).mono ?_); (case side1 => exact (Tb.T1.below HT.out (by repeat (first | (with_reducible first | exact HB.out | apply below_alloc | apply pw_below_drewN | apply below_drew1) | exact HB.out)))); rintro e w9 ⟨rfl, hb⟩; refine ⟨_, rfl, ?_⟩; have n0_ := Aside0.mk (Kd.R_below (by (with_reducible repeat (first | apply Kd.R_alloc | apply Kd.R_drewN | apply Kd.R_drew)); exact HO_3.out) hb); have n1_ := Aside0.mk (below_step (by repeat (first | (with_reducible first | exact HB.out | apply below_alloc | apply pw_below_drewN | apply below_drew1) | exact HB.out)) hb); clear HO_3; clear HB; have HO_3 := n0_; have HB := n1_; clear n0_ n1_; (try clear hb); (try clear hb2); (try clear hk); (try clear hi)) | ((with_reducible refine gate_builtin (b := .append) (xs := #[.tmp 12, .tmp 18]) rfl ?_); at_builtin; refine Kd.R_append Kd.string (w0 := w) w.heap.size rfl (.tmp 12) (.tmp 18) 49 9 (.string ⟨#[]⟩) 16 rfl Tryd.underlying49 info9 rfl (by decide) (by omega) u3 x3_1 t102 [.string t102] (fun _ => True) (fun _ => False) rfl rfl ?aP (fun _ hk => hk.elim) ?aF ?aO ?aB ?aS ?aL ?_; (case aP => exact rfl); (case aB => exact (by repeat (first | (with_reducible first | exact HB.out | apply below_alloc | apply pw_below_drewN | apply below_drew1) | exact HB.out))); (case aF => exact (fun _ _ => trivial)); (case aO => exact (by (with_reducible repeat (first | apply Kd.R_alloc | apply Kd.R_drewN | apply Kd.R_drew)); exact HO_3.out)); (case aS => exact (below_size (by repeat (first | (with_reducible first | exact HB.out | apply below_alloc | apply pw_below_drewN | apply below_drew1) | exact HB.out)))); (case aL => have := LMc8.out; omega); intro v104 w10 ho hb hg hat; rw [← Ny103.out] at ho; have n0_ := Aside0.mk (hb); have n1_ := Aside0.mk (ho); clear HB; clear HO_3; have HB := n0_; have HO105 := n1_; clear n0_ n1_; clear ho hb hg hat))
       go_roundg k1
       case measure => have := HK1.out; omega
       case rel => exact ⟨(y103), (wrap64 (x4_1 - 8)), (by first | rfl | (simp; done) | (simp [*]; done)), H', ⟨by have := HK1.out; omega⟩, ⟨by (with_reducible repeat (first | apply Kd.R_alloc | apply Kd.R_drewN | apply Kd.R_drew)); exact HO105.out⟩, ⟨by repeat (first | (with_reducible first | exact HB.out | apply below_alloc | apply pw_below_drewN | apply below_drew1) | exact HB.out)⟩⟩
      ·rw [if_neg c8] at H
       exact absurd H (by simp)
     ·rw [if_neg c5] at H
      exact absurd H (by simp)
    ·rw [if_neg c4] at H
     have c4b0 : decide (0 ≤ x4_1) = false := decide_eq_false c4
     clear c4
     replace H := Option.bind_eq_some_iff.mp H
     obtain ⟨t106, A110, H⟩ := H
     replace H : (some t106) = some r := H
     have A11 := Aside0.mk A110
     clear A110
     obtain rfl := Option.some.inj H
     obtain ⟨Ao12, co12, eo12⟩ := Kd.R_slice HO_3.out
     subst eo12
     go_wp2_with (first | ((with_reducible refine gate_callee (f := 35) rfl ?_); refine goesL_ (some 21) rfl rfl Tryd.func35 (by kernel_rfl) rfl #[.slice Ao12 x3_1.length co12, .string (⟨#[46]⟩ : ByteArray)] rfl (by (try simp only [List.map_toArray, List.map_cons, List.map_nil]); first | done | rfl | (simp only [List.length_drop, List.length_take]; rfl)) ?_; (with_reducible refine (strings_Join.calls _ _ x3_1 (⟨#[46]⟩ : ByteArray) t106 _ ?side1 ?side2 A11.out).mono ?_); (case side1 => repeat (first | exact (Kd.R_reads' HO_3.out).2.2 | (with_reducible refine Kd.C_alloc ?_ _) | (with_reducible refine Kd.C_drewN ?_ _) | (with_reducible refine Kd.C_drew ?_))); (case side2 => exact (Kd.R_reads' HO_3.out).2.1); rintro e w13 ⟨rfl, hb⟩; refine ⟨_, rfl, ?_⟩; have n0_ := Aside0.mk (Kd.R_below (by (with_reducible repeat (first | apply Kd.R_alloc | apply Kd.R_drewN | apply Kd.R_drew)); exact HO_3.out) hb); have n1_ := Aside0.mk (below_step (by repeat (first | (with_reducible first | exact HB.out | apply below_alloc | apply pw_below_drewN | apply below_drew1) | exact HB.out)) hb); clear HO_3; clear HB; have HO_3 := n0_; have HB := n1_; clear n0_ n1_; (try clear hb); (try clear hb2); (try clear hk); (try clear hi)))
     go_ret
     exact ⟨by first | rfl | (simp [errW_none, errW_some] <;> rfl) | (simp [*, errW_none, errW_some] <;> rfl), by repeat (first | (with_reducible first | exact HB.out | apply below_alloc | apply pw_below_drewN | apply below_drew1) | exact HB.out)⟩
 ·replace c3 := Bool.eq_false_iff.mpr c3
  subst c3
  have H1 : (some (⟨#[]⟩ : ByteArray)) = some r := by rw [if_neg (show ¬ (false = true) by decide)] at H; exact H
  clear H
  have H := H1
  clear H1
  obtain rfl := Option.some.inj H
  go_enter Tryd.func11, Tryd.ntmps11
  go_wp2_with (first | ((with_reducible refine gate_callee (f := 33) rfl ?_); refine goesL_ (some 6) rfl rfl Tryd.func33 (by kernel_rfl) rfl #[.int .i64 a0] rfl (by (try simp only [List.map_toArray, List.map_cons, List.map_nil]); first | done | rfl | (simp only [List.length_drop, List.length_take]; rfl)) ?_; (with_reducible refine (impl_isAddr.calls a0 false _ A2.out).mono ?_); rintro e w' ⟨rfl, ⟨nd, rfl⟩⟩; refine ⟨_, rfl, ?_⟩))
  go_ret
  exact ⟨by first | rfl | (simp [errW_none, errW_some] <;> rfl) | (simp [*, errW_none, errW_some] <;> rfl), by repeat (first | (with_reducible first | exact HB.out | apply below_alloc | apply pw_below_drewN | apply below_drew1) | exact HB.out)⟩
end Go.Proofs.YtgbdnbbfgcogjaaDoor.Q

namespace Go.Proofs.YtgbdnbbfgcogjaaDoor.Sq
open Go Go.RowKit Go.Shelf
attribute [local go_sem] Oper.semAt_some
set_option linter.unusedVariables false
set_option linter.unusedSimpArgs false
/-- The contract of an iterator whose own steps are Tn: the caller's facts abide them. -/
def SeqC {α : Type} (F : Fence) (n : Nat) (P : Program) (g : Nat) (lb : Array Value) (encs : α → Array Value) (Ok : α → Prop) (Tn Kp : World → World → Prop) (S Sp : List α → Prop) (N : Nat) (w : World) : Prop :=
 ∀ (l : Nat) (J Jx : List α → World → Prop) (W : World), Below w.heap.size w W → (∀ s A B, J s A → Tn A B → J s B) →
  (∀ pre x W1, J pre W1 → pre.length < N → Ok x → YieldAt F (n - 1) P l (encs x) W1 fun e W' =>
   (e = .returned (.bool true) ∧ J (pre ++ [x]) W' ∧ Kp W1 W') ∨ (e = .returned (.bool false) ∧ Jx (pre ++ [x]) W')) →
  J [] W →
  CallsIn F n P g (#[.func (.yield l) #[] #[]] ++ lb) W fun e W' => (∃ v, e = .returned v) ∧ ((∃ xs, S xs ∧ J xs W') ∨ (∃ pre, Sp pre ∧ Jx pre W'))
variable {F : Fence} {n : Nat} {P : Program}
/-- The caller's law for such an iterator. -/
theorem wpIn_range_own {α : Type} {g : Operand} {ps : Array Tmp} {assign body : Code} {Q : Exit → Act → World → Prop} {a : Act} {w : World}
  (hro : F.round = none) (h1 : 1 ≤ n) {gf : Nat} {lb : Array Value} (hg : a.eval g = .func (.func gf) #[] lb) (hFg : F.fn gf) (eg : ∀ args w, (callFunc gf args).run P w = .ok (.enter gf args) w)
  {encs : α → Array Value} {Ok : α → Prop} {Tn Kp : World → World → Prop} {S Sp : List α → Prop} {N : Nat} {w0 : World} (hseq : SeqC F (n - 1) P gf lb encs Ok Tn Kp S Sp N w0)
  (hTn : ∀ A B, Tn A B → KeepsOthers A B) (hKt : ∀ {A B C : World}, Kp A B → Kp B C → Kp A C) (hKb : ∀ (W : World) (l : Nat) (o o' : Obj), w.heap.size ≤ l → W.heap[l]? = some o → o.isCells = false → Kp W (W.putObj l o'))
  (hb0 : Below w0.heap.size w0 w) (hps : ∀ x, (encs x).size = ps.size)
  (I : List α → World → Prop) (Ix : List α → World → Prop) (hI : OwnFrom w.heap.size I) (hIx : OwnFrom w.heap.size Ix) (hIT : ∀ s A B, I s A → Tn A B → I s B) (h0 : I [] w) (a₁ : α → Act)
  (hassign : ∀ (l : Nat) (x : α) (W : World) (K : Act → World → Prop), K (a₁ x) W →
   assign.wpIn (F.inRound l) (n - 1 - 1) P (Exit.then K (fun _ _ _ => False)) { tmps := (ps.zip (encs x)).foldl (fun t (p, v) => t.setIfInBounds p v) a.tmps, defers := [] } W)
  (hbody : ∀ (l : Nat) (pre : List α) (x : α) (W : World), w.heap.size ≤ l → I pre W → pre.length < N → Ok x →
   body.wpIn (F.inRound l) (n - 1 - 1) P (ownPostG w.heap.size Kp I (fun c xs W' => c = .ret ∧ Ix xs W') (pre ++ [x]) W) (a₁ x) W)
  (hdone : ∀ (D : Nat) (xs : List α) (W : World), w.heap.size ≤ D → S xs → I xs W → W.heap[D]? = some (.deferred (some [])) → Q .normal { a with defers := { target := .collected D, args := #[] } :: a.defers } W)
  (hstop : ∀ (D : Nat) (pre : List α) (W : World), w.heap.size ≤ D → Sp pre → Ix pre W → W.heap[D]? = some (.deferred (some [])) → Code.ret.wpIn F n P Q { a with defers := { target := .collected D, args := #[] } :: a.defers } W) :
  (Code.rangeFunc g ps assign body).wpIn F n P Q a w := by
 refine wpIn_rangeFunc fun fn hfn => ?_
 rw [hro]
 -- the two blocks of book-keeping
 have hsz : ((w.alloc (.deferred (some []))).alloc (.loop { state := .ready, pending := none, fn, tmps := a.tmps, params := ps, assign, body, defers := w.heap.size })).heap.size = w.heap.size + 2 := by simp
 generalize hR : (fun (st : LoopState) (pe : Option Code) => ({ state := st, pending := pe, fn, tmps := a.tmps, params := ps, assign, body, defers := w.heap.size } : Loop)) = R
 have hR0 : ({ state := .ready, pending := none, fn, tmps := a.tmps, params := ps, assign, body, defers := w.heap.size } : Loop) = R .ready none := by rw [← hR]
 have hent := run_enterLoop_outer (P := P) (w := w) fn a.tmps ps assign body
 rw [hR0] at hent hsz
 generalize hW1 : (w.alloc (.deferred (some []))).alloc (.loop (R .ready none)) = W1 at hent hsz
 have bL : W1.heap[w.heap.size + 1]? = some (.loop (R .ready none)) := by
  rw [← hW1]
  have := World.alloc_heap_new (w.alloc (.deferred (some []))) (.loop (R .ready none))
  rwa [World.size_alloc] at this
 have bD : W1.heap[w.heap.size]? = some (.deferred (some [])) := by
  rw [← hW1]
  exact (Below.heap_alloc _ _ _ (by simp)).trans (World.alloc_heap_new w _)
 have iI : I [] W1 := by rw [← hW1]; exact hI.alloc _ (hI.alloc _ h0)
 have bel : Below w0.heap.size w0 W1 := by
  rw [← hW1]
  exact hb0.trans ((((Below.refl _ w).alloc (Nat.le_refl _) _).alloc (by simp) _).mono hb0.size)
 refine ⟨w.heap.size + 1, _, W1, { target := .fn (.func gf) lb, args := #[.func (.yield (w.heap.size + 1)) #[] #[]] }, W1, gf, #[.func (.yield (w.heap.size + 1)) #[] #[]] ++ lb, W1, hent, ?_, ?_, ?_, fun _ => h1, ?_⟩
 ·simp only [resolve, hg]
  simp [go_sem]
 ·intro f' hf'
  simp [Target.leads] at hf'
  subst hf'
  exact hFg
 ·simp [invoke, go_sem, eg]
 refine (hseq (w.heap.size + 1)
  (fun pre W => I pre W ∧ W.heap[w.heap.size + 1]? = some (.loop (R .ready none)) ∧ W.heap[w.heap.size]? = some (.deferred (some [])))
  (fun pre W => Ix pre W ∧ W.heap[w.heap.size + 1]? = some (.loop (R .done (some .ret))) ∧ W.heap[w.heap.size]? = some (.deferred (some [])))
  W1 bel (fun s A B ⟨i, l, d⟩ ht => ⟨hIT s A B i ht, (hTn A B ht).same _ _ l rfl, (hTn A B ht).same _ _ d rfl⟩) ?_ ⟨iI, bL, bD⟩).mono ?_
 ·rintro pre x W ⟨i, l, d⟩ hlen hok
  have hlt : w.heap.size + 1 < W.heap.size := (Array.getElem?_eq_some_iff.1 l).1
  have hy := run_yield (P := P) (args := encs x) l (by rw [← hR]; exact hps x)
  rw [← hR] at hy
  refine ⟨fn, _, assign, body, hy, roundIn_of_wpIn hfn (hassign _ x W _ ?_)⟩
  clear hy
  refine ⟨_, run_beginRound l (by rw [← hR]), ?_⟩
  obtain ⟨V, hV⟩ : ∃ V, W.putObj (w.heap.size + 1) (.loop { R .ready none with state := .busy }) = V := ⟨_, rfl⟩
  have l2 : V.heap[w.heap.size + 1]? = some (.loop { R .ready none with state := .busy }) := by rw [← hV]; exact World.putObj_heap_same hlt
  have d2 : V.heap[w.heap.size]? = some (.deferred (some [])) := by rw [← hV]; exact (World.putObj_heap_other (by omega)).trans d
  have k2 : Kp W V := by rw [← hV]; exact hKb _ _ _ _ (by omega) l rfl
  have i2 : I pre V := by rw [← hV]; exact hI.putObj _ i (by omega) l rfl
  rw [hV]
  refine wpIn_mono (hbody _ pre x V (by omega) i2 hlen hok) ?_
  rintro e a3 W3 hp
  have fin : ∀ jump : Option Code, KeepsFrom w.heap.size V W3 → (Instr.endRound (w.heap.size + 1) jump).run P W3 = .ok (.bool jump.isNone) (W3.putObj (w.heap.size + 1) (.loop (R (if jump.isNone then .ready else .done) jump))) ∧ W3.heap[w.heap.size + 1]? = some (.loop { R .ready none with state := .busy }) ∧ W3.heap[w.heap.size]? = some (.deferred (some [])) ∧ w.heap.size + 1 < W3.heap.size := fun jump hk => by
   have l3 := hk.same _ _ (by omega) l2 rfl
   have h := run_endRound (P := P) jump l3
   rw [← hR] at h ⊢
   exact ⟨h, by rw [← hR] at l3; exact l3, hk.same _ _ (Nat.le_refl _) d2 rfl, (Array.getElem?_eq_some_iff.1 l3).1⟩
  cases e with
  | normal =>
   obtain ⟨hk, hkp, hi⟩ := hp
   obtain ⟨h, l3, d3, hlt3⟩ := fin none hk
   exact ⟨_, _, h, .inl ⟨rfl, ⟨hI.putObj _ hi (by omega) l3 rfl, World.putObj_heap_same hlt3, (World.putObj_heap_other (by omega)).trans d3⟩, hKt (hKt k2 hkp) (hKb _ _ _ _ (by omega) l3 rfl)⟩⟩
  | ret =>
   obtain ⟨hk, _, hi⟩ := hp
   obtain ⟨h, l3, d3, hlt3⟩ := fin (some .ret) hk
   exact ⟨_, _, h, .inr ⟨rfl, hIx.putObj _ hi (by omega) l3 rfl, World.putObj_heap_same hlt3, (World.putObj_heap_other (by omega)).trans d3⟩⟩
  | exit id => obtain ⟨_, hc, _⟩ := hp; cases hc
  | goto t => obtain ⟨_, hc, _⟩ := hp; cases hc
  | panic ch => exact hp.elim
  | outgrown => exact hp.elim
 ·rintro e W2 ⟨⟨v, rfl⟩, (⟨xs, hS, i, l, d⟩ | ⟨pre, hSp, i, l, d⟩)⟩
  ·have h := run_endLoop (P := P) l (by rw [← hR]; simp)
   rw [← hR] at h
   exact ⟨none, _, h, hdone _ xs _ (Nat.le_refl _) hS (hI.putObj _ i (by omega) l rfl) ((World.putObj_heap_other (by omega)).trans d)⟩
  ·have h := run_endLoop (P := P) l (by rw [← hR]; simp)
   rw [← hR] at h
   exact ⟨some .ret, _, h, hstop _ pre _ (Nat.le_refl _) hSp (hIx.putObj _ i (by omega) l rfl) ((World.putObj_heap_other (by omega)).trans d)⟩
end Go.Proofs.YtgbdnbbfgcogjaaDoor.Sq

namespace Go.Proofs.YtgbdnbbfgcogjaaDoor.Sq
open Go Go.RowKit Go.Shelf
attribute [local go_sem] Oper.semAt_some
set_option linter.unusedVariables false
set_option linter.unusedSimpArgs false
/-- A text of some bytes. -/
def tx (l : List UInt8) : ByteArray := ⟨l.toArray⟩
theorem tx_size (l : List UInt8) : (tx l).size = l.length := by simp [tx, ByteArray.size]
theorem tx_data (l : List UInt8) : (tx l).data.toList = l := by simp [tx]
theorem tx_extract (l : List UInt8) (a b : Nat) : (tx l).extract a b = tx ((l.take b).drop a) := by
 apply ByteArray.ext
 apply Array.ext'
 simp [tx, List.drop_take]
/-- The pieces of a text between a byte's places. -/
def parts (c : UInt8) : List UInt8 → List (List UInt8)
 | [] => [[]]
 | b :: r => if b = c then [] :: parts c r else
  match parts c r with
  | [] => [[b]]
  | p :: ps => (b :: p) :: ps
theorem parts_none {c : UInt8} : ∀ {l : List UInt8}, c ∉ l → parts c l = [l]
 | [], _ => rfl
 | b :: r, h => by
  have h1 : ¬ b = c := fun e => h (by rw [e]; exact List.mem_cons_self)
  have h2 := parts_none (l := r) (fun e => h (List.mem_cons_of_mem _ e))
  simp [parts, h1, h2]
theorem parts_some {c : UInt8} (r : List UInt8) : ∀ {a : List UInt8}, c ∉ a → parts c (a ++ c :: r) = a :: parts c r
 | [], _ => by simp [parts]
 | b :: a, h => by
  have h1 : ¬ b = c := fun e => h (by rw [e]; exact List.mem_cons_self)
  have h2 := parts_some r (a := a) (fun e => h (List.mem_cons_of_mem _ e))
  rw [List.cons_append]
  simp [parts, h1, h2]
theorem parts_len (c : UInt8) : ∀ l : List UInt8, 1 ≤ (parts c l).length ∧ (parts c l).length ≤ l.length + 1
 | [] => by simp [parts]
 | b :: r => by
  have h := parts_len c r
  unfold parts
  split
  ·simp; omega
  ·cases hp : parts c r with
   | nil => simp
   | cons p ps => rw [hp] at h; simp at h ⊢; omega
theorem index_cases (c : UInt8) (l : List UInt8) : (Lib.indexByte l c = -1 ∧ c ∉ l) ∨ ∃ o : Nat, Lib.indexByte l c = o ∧ o < l.length ∧ l = l.take o ++ c :: l.drop (o + 1) ∧ c ∉ l.take o := by
 have hg := Lib.indexByte_ge l c
 by_cases h : Lib.indexByte l c = -1
 ·refine .inl ⟨h, fun hm => ?_⟩
  obtain ⟨k, hk, e⟩ := List.mem_iff_getElem.1 hm
  exact Lib.indexByte_none h k (by rw [List.getElem?_eq_getElem hk, e])
 ·obtain ⟨o, ho⟩ := Int.eq_ofNat_of_zero_le (show 0 ≤ Lib.indexByte l c by omega)
  obtain ⟨h1, h2⟩ := Lib.indexByte_some ho
  have hlt : o < l.length := by
   rcases Nat.lt_or_ge o l.length with h | h
   ·exact h
   ·rw [List.getElem?_eq_none h] at h1; cases h1
  refine .inr ⟨o, ho, hlt, ?_, fun hm => ?_⟩
  ·have e : l[o] = c := by rw [List.getElem?_eq_getElem hlt] at h1; exact Option.some.inj h1
   conv => lhs; rw [← List.take_append_drop o l, List.drop_eq_getElem_cons hlt, e]
  ·obtain ⟨k, hk, e⟩ := List.mem_iff_getElem.1 hm
   rw [List.length_take] at hk
   rw [List.getElem_take] at e
   exact h2 k (by omega) (by rw [List.getElem?_eq_getElem (by omega), e])
/-- A fact that the walk doesn't look into. -/
structure Off (p : Prop) : Prop where mk :: (out : p)
/-- The size of the text in a cell. -/
def szAt (B : Nat) (W : World) : Nat := match W.cell? ⟨B, 0, none⟩ with | some (.string s) => s.size | _ => 0
theorem szAt_boxed {B : Nat} {W : World} {t : TypeId} {s : ByteArray} (h : Boxed W B t (.string s)) : szAt B W = s.size := by
 unfold szAt
 rw [h.cell]
/-- What a round keeps of the iterator's own cells. -/
def Kp3 (B1 B2 B3 : Nat) (A B : World) : Prop := B.heap[B1]? = A.heap[B1]? ∧ B.heap[B2]? = A.heap[B2]? ∧ B.heap[B3]? = A.heap[B3]?
/-- The iterator's own steps: a text into its cell. -/
def Tn1 (B2 : Nat) (A B : World) : Prop := ∃ s : ByteArray, B = A.setCell ⟨B2, 0, none⟩ (.string s)
set_option maxRecDepth 100000 in
set_option maxHeartbeats 4000000 in
theorem split_in (n : Nat) (hn : 3 ≤ n) (l Bp Bs Bv : Nat) (hne1 : Bp ≠ Bs) (hne2 : Bv ≠ Bs) (c : UInt8) (t : List UInt8) (ht : t.length ≤ 1000000000000) (J Jx : List ByteArray → World → Prop) (hJ : ∀ s A B, J s A → Tn1 Bs A B → J s B)
  (hY : ∀ pre x W1, J pre W1 → pre.length < t.length + 1 → x.size ≤ t.length → YieldAt Fence.wide (n - 1) Tryd.prog l #[.string x] W1 fun e W' => (e = .returned (.bool true) ∧ J (pre ++ [x]) W' ∧ Kp3 Bp Bs Bv W1 W') ∨ (e = .returned (.bool false) ∧ Jx (pre ++ [x]) W'))
  (W : World) (hs : Boxed W Bs 9 (.string (tx t))) (hp : Boxed W Bp 9 (.string ⟨#[c]⟩)) (hv : Boxed W Bv 3 (.int .i64 0)) (h0 : J [] W) :
  CallsIn Fence.wide n Tryd.prog 82 #[.func (.yield l) #[] #[], .pointer (some ⟨Bp, 0, none⟩), .pointer (some ⟨Bs, 0, none⟩), .pointer (some ⟨Bv, 0, none⟩)] W fun e W' => (∃ v, e = .returned v) ∧
   ((∃ ys, ys = (parts c t).map tx ∧ J ys W') ∨ (∃ pre, pre <+: (parts c t).map tx ∧ Jx pre W')) := by
 have h1 : 1 ≤ n := by omega
 refine callsIn_of_wp Tryd.func82 rfl trivial ?_ rfl
 simp only [Tryd.ntmps82, List.size_toArray, List.length_cons, List.length_nil, Nat.reduceAdd, Nat.reduceSub, Array.replicate_succ, Array.replicate_zero, List.push_toArray, List.append_toArray, List.nil_append, List.cons_append]
 have c1 := hs.cell
 have c2 := hp.cell
 have c3 := hv.cell
 gi_wp2
 gi_loopw [7] (fun i wr => ∃ (pre : List ByteArray) (rest : List UInt8), (parts c t).map tx = pre ++ (parts c rest).map tx ∧ rest.length ≤ t.length ∧ pre.length + rest.length ≤ t.length ∧ Boxed wr Bs 9 (.string (tx rest)) ∧ Boxed wr Bp 9 (.string ⟨#[c]⟩) ∧ Boxed wr Bv 3 (.int .i64 0) ∧ J pre wr)
  (fun i wr => szAt Bs wr)
 case atStart => exact ⟨[], t, rfl, Nat.le_refl _, by simp, hs, hp, hv, h0⟩
 case round =>
  obtain ⟨pre, rest, hpt, hrl, hpl, hs, hp, hv, hJs⟩ := hrel
  have c1 := hs.cell
  have c2 := hp.cell
  have c3 := hv.cell
  rcases index_cases c rest with ⟨hix, hnot⟩ | ⟨o, hix, ho, hsp, hnot⟩
  ·have hcon : Calls Tryd.prog 84 #[.string (tx rest), .string ⟨#[c]⟩] wr fun e w' => e = .returned (.int .i64 (-1)) ∧ w' = wr := by
    have h := Tryd.strings_Index_one (tx rest) c wr
    rwa [tx_data, hix] at h
   obtain ⟨fn, tmps, assign, body, hy, hR⟩ := hY pre (tx rest) wr hJs (by omega) (by rw [tx_size]; exact hrl)
   gi_wp2_with (refine ⟨trivial, ?_⟩; refine (callsIn_wide.2 hcon).mono ?_; rintro e w' ⟨rfl, rfl⟩)
   refine hR.mono ?_
   rintro e W3 (⟨rfl, hJ3, hk3⟩ | ⟨rfl, hJx3⟩)
   ·gi_wp2
    go_end0
    refine ⟨⟨_, rfl⟩, .inl ⟨_, ?_, hJ3⟩⟩
    rw [hpt, parts_none hnot]
    rfl
   ·gi_wp2
    go_end0
    refine ⟨⟨_, rfl⟩, .inr ⟨_, ?_, hJx3⟩⟩
    rw [hpt, parts_none hnot]
    exact List.prefix_refl _
  ·have hcon : Calls Tryd.prog 84 #[.string (tx rest), .string ⟨#[c]⟩] wr fun e w' => e = .returned (.int .i64 (o : Int)) ∧ w' = wr := by
    have h := Tryd.strings_Index_one (tx rest) c wr
    rwa [tx_data, hix] at h
   have HS := Off.mk hsp
   clear hsp
   have hsz := tx_size rest
   have q1 : (0 ≤ (o : Int)) = True := eq_true (by omega)
   have q2 : ((o : Int) ≤ (rest.length : Int)) = True := eq_true (by omega)
   have q3 : ((o : Int) < 0) = False := eq_false (by omega)
   have q4 : wrap64 (o : Int) = (o : Int) := by unfold wrap64; omega
   have q5 : wrap64 ((o : Int) + 1) = (o : Int) + 1 := by unfold wrap64; omega
   obtain ⟨fn, tmps, assign, body, hy, hR⟩ := hY pre ((tx rest).extract 0 o) wr hJs (by omega) (by rw [tx_extract, List.drop_zero, tx_size, List.length_take]; omega)
   gi_wp2_with (refine ⟨trivial, ?_⟩; refine (callsIn_wide.2 hcon).mono ?_; rintro e w' ⟨rfl, rfl⟩)
   refine hR.mono ?_
   rintro e W3 (⟨rfl, hJ3, hk3⟩ | ⟨rfl, hJx3⟩)
   ·have hs3 : Boxed W3 Bs 9 (.string (tx rest)) := hk3.2.1.trans hs
    have hp3 : Boxed W3 Bp 9 (.string ⟨#[c]⟩) := hk3.1.trans hp
    have hv3 : Boxed W3 Bv 3 (.int .i64 0) := hk3.2.2.trans hv
    have d1 := hs3.cell
    have d2 := hp3.cell
    have d3 := hv3.cell
    have d4 := hs3.frozen
    have q6 : ((o : Int) + 1 ≤ (rest.length : Int)) = True := eq_true (by omega)
    have q7 : (0 ≤ (o : Int) + 1) = True := eq_true (by omega)
    gi_wp2
    have e : parts c rest = rest.take o :: parts c (rest.drop (o + 1)) := by
     have h := parts_some (c := c) (rest.drop (o + 1)) hnot
     rwa [← HS.out] at h
    have e1 : (tx rest).extract (o + 1) rest.length = tx (rest.drop (o + 1)) := by rw [tx_extract, List.take_length]
    have e2 : (tx rest).extract 0 o = tx (rest.take o) := by rw [tx_extract, List.drop_zero]
    have hdl : (rest.drop (o + 1)).length + (o + 1) = rest.length := by rw [List.length_drop]; omega
    rw [e1]
    rw [e2] at hJ3
    have hb := hs3.set (.string (tx (rest.drop (o + 1))))
    go_roundw
    case rel => exact ⟨pre ++ [tx (rest.take o)], rest.drop (o + 1), by rw [hpt, e, List.append_assoc]; rfl, by omega, by rw [List.length_append, List.length_singleton]; omega, hb, hp3.other hne1 _, hv3.other hne2 _, hJ _ _ _ hJ3 ⟨_, rfl⟩⟩
    case measure => rw [szAt_boxed hb, szAt_boxed hs, tx_size, tx_size]; omega
   ·gi_wp2
    refine bodyPost_ret (results_none rfl _ _ _) rfl ?_
    refine ⟨⟨_, rfl⟩, .inr ⟨_, ?_, hJx3⟩⟩
    have e : parts c rest = rest.take o :: parts c (rest.drop (o + 1)) := by
     have h := parts_some (c := c) (rest.drop (o + 1)) hnot
     rwa [← HS.out] at h
    rw [hpt, e, List.map_cons, tx_extract, List.drop_zero]
    exact ⟨_, by rw [List.append_assoc]; rfl⟩
/-- The same as a contract for the caller's law. -/
theorem split_seq (n : Nat) (hn : 3 ≤ n) (Bp Bs Bv : Nat) (hne1 : Bp ≠ Bs) (hne2 : Bv ≠ Bs) (c : UInt8) (t : List UInt8) (ht : t.length ≤ 1000000000000) (w : World) (hs : Boxed w Bs 9 (.string (tx t))) (hp : Boxed w Bp 9 (.string ⟨#[c]⟩)) (hv : Boxed w Bv 3 (.int .i64 0)) :
  SeqC Fence.wide n Tryd.prog 82 #[.pointer (some ⟨Bp, 0, none⟩), .pointer (some ⟨Bs, 0, none⟩), .pointer (some ⟨Bv, 0, none⟩)] (fun x : ByteArray => #[.string x]) (fun x => x.size ≤ t.length) (Tn1 Bs) (Kp3 Bp Bs Bv) (fun ys => ys = (parts c t).map tx) (fun pre => pre <+: (parts c t).map tx) (t.length + 1) w :=
 fun l J Jx W hW hJ hY h0 => split_in n hn l Bp Bs Bv hne1 hne2 c t ht J Jx hJ hY W ((hW.block Bs hs.lt).trans hs) ((hW.block Bp hp.lt).trans hp) ((hW.block Bv hv.lt).trans hv) h0
/-- strings.SplitSeq itself: an iterator over three new cells. -/
theorem splitSeq_calls (s p : ByteArray) (w : World) : Calls Tryd.prog 48 #[.string s, .string p] w fun e w' => e = .returned (.func (.func 82) #[] #[.pointer (some ⟨w.heap.size + 1, 0, none⟩), .pointer (some ⟨w.heap.size, 0, none⟩), .pointer (some ⟨w.heap.size + 2, 0, none⟩)]) ∧ w' = ((w.alloc (.cells #[.string s] 9)).alloc (.cells #[.string p] 9)).alloc (.cells #[.int .i64 0] 3) := by
 have hin : Calls Tryd.prog 69 #[.string s, .string p, .int .i64 0] w fun e w' => e = .returned (.func (.func 82) #[] #[.pointer (some ⟨w.heap.size + 1, 0, none⟩), .pointer (some ⟨w.heap.size, 0, none⟩), .pointer (some ⟨w.heap.size + 2, 0, none⟩)]) ∧ w' = ((w.alloc (.cells #[.string s] 9)).alloc (.cells #[.string p] 9)).alloc (.cells #[.int .i64 0] 3) := by
  go_enter Tryd.func69, Tryd.ntmps69
  go_wp2
  go_ret
  exact ⟨by simp, rfl⟩
 go_enter Tryd.func48, Tryd.ntmps48
 go_wp2_with (go_at_call 69; refine hin.mono ?_; rintro e w' ⟨rfl, rfl⟩)
 go_ret
 exact ⟨rfl, rfl⟩
end Go.Proofs.YtgbdnbbfgcogjaaDoor.Sq

namespace Go.Proofs.YtgbdnbbfgcogjaaDoor.Sq
open Go Go.RowKit Go.Shelf Go.Proofs.YtgbdnbbfgcogjaaDoor.Q Go.Proofs.YtgbdnbbfgcogjaaDoorW.PrintWords Go.Proofs.YtgbdnbbfgcogjaaDoorW.PrintLast Go.Proofs.YtgbdnbbfgcogjaaDoorW.PrintMore
attribute [local go_sem] Oper.semAt_some
set_option linter.unusedVariables false
set_option linter.unusedSimpArgs false
/-- One piece more. -/
def stepA (a : Int) (x : ByteArray) : Option Int :=
 match Lib.atoiAll x.data.toList with
 | .ok n => if (0 ≤ n ∧ n ≤ 255) ∧ (0 ≤ a ∧ a ≤ 4294967295) then some (Go.bits .or .i64 (a * 256) n) else none
 | _ => none
def foldA : Int → List ByteArray → Option Int
 | a, [] => some a
 | a, x :: r => (stepA a x).bind fun b => foldA b r
theorem foldA_append : ∀ (r s : List ByteArray) (a : Int), foldA a (r ++ s) = (foldA a r).bind fun b => foldA b s
 | [], s, a => rfl
 | x :: r, s, a => by
  rw [List.cons_append]
  show ((stepA a x).bind fun b => foldA b (r ++ s)) = ((stepA a x).bind fun b => foldA b r).bind fun b => foldA b s
  rcases stepA a x with _ | b
  ·rfl
  ·exact foldA_append r s b
theorem foldA_snoc (r : List ByteArray) (x : ByteArray) (a : Int) : foldA a (r ++ [x]) = (foldA a r).bind fun b => stepA b x := by
 rw [foldA_append]
 congr 1
 funext b
 unfold foldA
 rcases stepA b x with _ | z <;> rfl
theorem foldA_prefix {pre xs : List ByteArray} (h : pre <+: xs) {a : Int} (hn : foldA a pre = none) : foldA a xs = none := by
 obtain ⟨s, rfl⟩ := h
 rw [foldA_append, hn]
 rfl
theorem atoi_calls (x : ByteArray) (hx : x.size ≤ 281474976710656) (w : World) (hT : Tb.T2 w) : Calls Tryd.prog 49 #[.string x] w fun e w' => ∃ n ev, e = .returned (.tuple #[.int .i64 n, ev]) ∧ Below w.heap.size w w' ∧
  ((Lib.atoiAll x.data.toList = .ok n ∧ ev = .nilIface) ∨ ((∀ v, Lib.atoiAll x.data.toList ≠ .ok v) ∧ ∃ te pe, ev = .iface te pe)) := by
 obtain ⟨_, ⟨e1, h1, k1⟩, e2, h2, k2⟩ := hT
 rcases hc : Lib.atoiAll x.data.toList with v | _ | _
 ·refine (Tryd.strconv_Atoi_ok x (by omega) v hc w).mono ?_
  rintro e w' ⟨rfl, rfl | ⟨t, rfl⟩⟩
  ·exact ⟨v, _, rfl, Below.refl _ _, .inl ⟨rfl, rfl⟩⟩
  ·exact ⟨v, _, rfl, bytes_below (Below.refl _ _) (Nat.le_refl _) _ _, .inl ⟨rfl, rfl⟩⟩
 ·refine (Tryd.strconv_Atoi_syntax x hx (by rw [hc]; trivial) e1 w h1 k1).mono ?_
  rintro e w' ⟨N, rfl, _, _, hb⟩
  exact ⟨_, _, rfl, hb, .inr ⟨fun v h => (by cases h), _, _, rfl⟩⟩
 ·refine (Tryd.strconv_Atoi_range x hx hc e2 w h2 k2).mono ?_
  rintro e w' ⟨N, rfl, _, _, hb⟩
  exact ⟨_, _, rfl, hb, .inr ⟨fun v h => (by cases h), _, _, rfl⟩⟩
theorem keepsFrom_below {B : Nat} {V W : World} (h : Below V.heap.size V W) : KeepsFrom B V W :=
 ⟨h.size, fun k o _ hk _ => (h.block k (Array.getElem?_eq_some_iff.1 hk).1).trans hk⟩
/-- What has been made of the pieces so far. -/
def valA (pre : List ByteArray) : Int := (foldA 0 pre).getD 0
/-- What AddrGet answers. -/
def addrGetF (k : Nat) (s : ByteArray) : Option (Int × Bool) :=
 if s.size ≤ 1000000000 then
  match foldA 0 ((parts 46 s.data.toList).map tx) with
  | none => some (0, false)
  | some a => (impl_AddrText.f k a).bind fun t => if t = s then some (a, true) else some (0, false)
 else none
theorem tx_of (s : ByteArray) : tx s.data.toList = s := by
 apply ByteArray.ext
 simp [tx]
/-- The facts between two rounds. -/
def IA (w : World) (pre : List ByteArray) (W : World) : Prop :=
 (foldA 0 pre = some (valA pre) ∧ w.heap.size + 6 ≤ W.heap.size) ∧ (Boxed W (w.heap.size + 2) 3 (.int .i64 (valA pre)) ∧ Boxed W w.heap.size 3 (.int .i64 0) ∧ Boxed W (w.heap.size + 1) 4 (.bool false)) ∧ Below w.heap.size w W
/-- The facts behind a round that has left. -/
def IX (w : World) (pre : List ByteArray) (W : World) : Prop :=
 foldA 0 pre = none ∧ (Boxed W w.heap.size 3 (.int .i64 0) ∧ Boxed W (w.heap.size + 1) 4 (.bool false)) ∧ Below w.heap.size w W
theorem IA_own (w : World) {B : Nat} (hB : w.heap.size ≤ B) : OwnFrom B (IA w) := by
 intro s W W' row ⟨⟨h1, h2⟩, ⟨h3, h4, h5⟩, h6⟩ hg hr
 have hne : ∀ {b : Nat} {t : TypeId} {v : Value}, Boxed W b t v → some b ≠ row := fun {b t v} hb e => by
  obtain ⟨_, o, ho, hc⟩ := hr b e.symm
  rw [show W.heap[b]? = _ from hb] at ho
  cases Option.some.inj ho
  cases hc
 exact ⟨⟨h1, Nat.le_trans h2 hg.size⟩, ⟨h3.kept hg (hne h3), h4.kept hg (hne h4), h5.kept hg (hne h5)⟩, ownFrom_below (Nat.le_refl _) hB s W W' row h6 hg hr⟩
theorem IX_own (w : World) {B : Nat} (hB : w.heap.size ≤ B) : OwnFrom B (IX w) := by
 intro s W W' row ⟨h1, ⟨h4, h5⟩, h6⟩ hg hr
 have hne : ∀ {b : Nat} {t : TypeId} {v : Value}, Boxed W b t v → some b ≠ row := fun {b t v} hb e => by
  obtain ⟨_, o, ho, hc⟩ := hr b e.symm
  rw [show W.heap[b]? = _ from hb] at ho
  cases Option.some.inj ho
  cases hc
 exact ⟨h1, ⟨h4.kept hg (hne h4), h5.kept hg (hne h5)⟩, ownFrom_below (Nat.le_refl _) hB s W W' row h6 hg hr⟩
theorem IA_turn (w : World) : ∀ s A B, IA w s A → Tn1 (w.heap.size + 3) A B → IA w s B := by
 rintro s A B ⟨⟨h1, h2⟩, ⟨h3, h4, h5⟩, h6⟩ ⟨z, rfl⟩
 exact ⟨⟨h1, by simpa using h2⟩, ⟨h3.other (by omega) _, h4.other (by omega) _, h5.other (by omega) _⟩, h6.setCell (p := ⟨w.heap.size + 3, 0, none⟩) (by show w.heap.size ≤ w.heap.size + 3; omega) _⟩
theorem body_ok {w W V : World} {B : Nat} {pre : List ByteArray} {x : ByteArray} {b : Int} (hI : IA w pre W) (hV : Below W.heap.size W V) (hb : stepA (valA pre) x = some b) (hB : w.heap.size + 3 ≤ B) :
  KeepsFrom B W (V.setCell ⟨w.heap.size + 2, 0, none⟩ (.int .i64 b)) ∧ Kp3 (w.heap.size + 4) (w.heap.size + 3) (w.heap.size + 5) W (V.setCell ⟨w.heap.size + 2, 0, none⟩ (.int .i64 b)) ∧ IA w (pre ++ [x]) (V.setCell ⟨w.heap.size + 2, 0, none⟩ (.int .i64 b)) := by
 obtain ⟨⟨hf, hw6⟩, ⟨g2, g0, g1⟩, hbel⟩ := hI
 have e2 : Boxed V (w.heap.size + 2) 3 (.int .i64 (valA pre)) := (hV.block _ g2.lt).trans g2
 have e0 : Boxed V w.heap.size 3 (.int .i64 0) := (hV.block _ g0.lt).trans g0
 have e1 : Boxed V (w.heap.size + 1) 4 (.bool false) := (hV.block _ g1.lt).trans g1
 have hfo : foldA 0 (pre ++ [x]) = some b := by rw [foldA_snoc, hf]; exact hb
 have hva : valA (pre ++ [x]) = b := by unfold valA; rw [hfo]; rfl
 have oth : ∀ k, k ≠ w.heap.size + 2 → k < W.heap.size → (V.setCell ⟨w.heap.size + 2, 0, none⟩ (.int .i64 b)).heap[k]? = W.heap[k]? := fun k hk hl => ((grownBy_setCell' V (w.heap.size + 2) (.int .i64 b)).block k (Nat.lt_of_lt_of_le hl hV.size) (fun e => hk (Option.some.inj e))).trans (hV.block k hl)
 refine ⟨(keepsFrom_below hV).trans ((KeepsOthers.setCell _ _ _).from _), ⟨oth _ (by omega) (by omega), oth _ (by omega) (by omega), oth _ (by omega) (by omega)⟩, ⟨by rw [hfo, hva], ?_⟩, ⟨?_, e0.other (by omega) _, e1.other (by omega) _⟩, ?_⟩
 ·have := hV.size
  simp
  omega
 ·rw [hva]
  exact e2.set _
 ·exact (hbel.trans (hV.mono (by omega))).setCell (p := ⟨w.heap.size + 2, 0, none⟩) (by show w.heap.size ≤ w.heap.size + 2; omega) _
theorem body_no {w W V : World} {B : Nat} {pre : List ByteArray} {x : ByteArray} (hI : IA w pre W) (hV : Below W.heap.size W V) (hb : stepA (valA pre) x = none) :
  KeepsFrom B W ((V.setCell ⟨w.heap.size, 0, none⟩ (.int .i64 0)).setCell ⟨w.heap.size + 1, 0, none⟩ (.bool false)) ∧ IX w (pre ++ [x]) ((V.setCell ⟨w.heap.size, 0, none⟩ (.int .i64 0)).setCell ⟨w.heap.size + 1, 0, none⟩ (.bool false)) := by
 obtain ⟨⟨hf, hw6⟩, ⟨g2, g0, g1⟩, hbel⟩ := hI
 have e0 : Boxed V w.heap.size 3 (.int .i64 0) := (hV.block _ g0.lt).trans g0
 have e1 : Boxed V (w.heap.size + 1) 4 (.bool false) := (hV.block _ g1.lt).trans g1
 refine ⟨((keepsFrom_below hV).trans ((KeepsOthers.setCell _ _ _).from _)).trans ((KeepsOthers.setCell _ _ _).from _), by rw [foldA_snoc, hf]; exact hb, ⟨(e0.set _).other (by omega) _, (e1.other (by omega) _).set _⟩, ?_⟩
 exact ((hbel.trans (hV.mono (by omega))).setCell (p := ⟨w.heap.size, 0, none⟩) (Nat.le_refl _) _).setCell (p := ⟨w.heap.size + 1, 0, none⟩) (by show w.heap.size ≤ w.heap.size + 1; omega) _
theorem six (w : World) (o0 o1 o2 o3 o4 o5 : Obj) (W0 : World) (h : (((((w.alloc o0).alloc o1).alloc o2).alloc o3).alloc o4).alloc o5 = W0) :
  W0.heap.size = w.heap.size + 6 ∧ W0.heap[w.heap.size]? = some o0 ∧ W0.heap[w.heap.size + 1]? = some o1 ∧ W0.heap[w.heap.size + 2]? = some o2 ∧ W0.heap[w.heap.size + 3]? = some o3 ∧ W0.heap[w.heap.size + 4]? = some o4 ∧ W0.heap[w.heap.size + 5]? = some o5 ∧ Below w.heap.size w W0 := by
 subst h
 have a : ∀ (V : World) (o : Obj) (m : Nat), V.heap.size = m → (V.alloc o).heap[m]? = some o := fun V o m e => by rw [← e]; exact World.alloc_heap_new V o
 have b : ∀ (V : World) (o : Obj) (m : Nat), m < V.heap.size → (V.alloc o).heap[m]? = V.heap[m]? := fun V o m e => Below.heap_alloc _ _ _ e
 have s1 : (w.alloc o0).heap.size = w.heap.size + 1 := by simp
 have s2 : ((w.alloc o0).alloc o1).heap.size = w.heap.size + 2 := by simp
 have s3 : (((w.alloc o0).alloc o1).alloc o2).heap.size = w.heap.size + 3 := by simp
 have s4 : ((((w.alloc o0).alloc o1).alloc o2).alloc o3).heap.size = w.heap.size + 4 := by simp
 have s5 : (((((w.alloc o0).alloc o1).alloc o2).alloc o3).alloc o4).heap.size = w.heap.size + 5 := by simp
 refine ⟨by simp, ?_, ?_, ?_, ?_, ?_, a _ _ _ s5, ?_⟩
 ·rw [b _ _ _ (by omega), b _ _ _ (by omega), b _ _ _ (by omega), b _ _ _ (by omega), b _ _ _ (by omega)]; exact a _ _ _ rfl
 ·rw [b _ _ _ (by omega), b _ _ _ (by omega), b _ _ _ (by omega), b _ _ _ (by omega)]; exact a _ _ _ s1
 ·rw [b _ _ _ (by omega), b _ _ _ (by omega), b _ _ _ (by omega)]; exact a _ _ _ s2
 ·rw [b _ _ _ (by omega), b _ _ _ (by omega)]; exact a _ _ _ s3
 ·rw [b _ _ _ (by omega)]; exact a _ _ _ s4
 ·exact ((((((Below.refl _ w).alloc (Nat.le_refl _) _).alloc (by omega) _).alloc (by omega) _).alloc (by omega) _).alloc (by omega) _).alloc (by omega) _
set_option maxRecDepth 100000 in
set_option maxHeartbeats 4000000 in
theorem addrGet_in (n : Nat) (hn : 6 ≤ n) (k : Nat) (s : ByteArray) (r : Int × Bool) (w : World) (hT : Tb.T2 w) (h : addrGetF k s = some r) :
  CallsIn Fence.wide n Tryd.prog 21 #[.string s] w fun e w' => e = .returned (.tuple #[.int .i64 r.1, .bool r.2]) ∧ Below w.heap.size w w' := by
 have h1 : 1 ≤ n := by omega
 unfold addrGetF at h
 by_cases hsz : s.size ≤ 1000000000
 ·rw [if_pos hsz] at h
  have hsl : s.data.toList.length = s.size := Array.length_toList
  refine callsIn_of_wp_marks Tryd.func21 rfl trivial ?_ rfl
  simp only [Tryd.ntmps21, List.size_toArray, List.length_cons, List.length_nil, Nat.reduceAdd, Nat.reduceSub, Array.replicate_succ, Array.replicate_zero, List.push_toArray, List.append_toArray, List.nil_append, List.cons_append]
  gi_wp2_with (refine ⟨trivial, ?_⟩; refine (callsIn_wide.2 (splitSeq_calls _ _ _)).mono ?_; rintro e w' ⟨rfl, rfl⟩)
  obtain ⟨W0, hW0⟩ : ∃ W0, (((((w.alloc (.cells #[.int .i64 0] 3)).alloc (.cells #[.bool false] 4)).alloc (.cells #[.int .i64 0] 3)).alloc (.cells #[.string s] 9)).alloc (.cells #[.string ⟨#[46]⟩] 9)).alloc (.cells #[.int .i64 0] 3) = W0 := ⟨_, rfl⟩
  obtain ⟨hsz0, b0, b1, b2, b3, b4, b5, bel0⟩ := six w _ _ _ _ _ _ W0 hW0
  simp only [Nat.add_assoc, Nat.reduceAdd]
  rw [hW0]
  clear hW0
  refine wpIn_range_own (w := W0) (w0 := W0) rfl h1 (gf := 82) (lb := #[.pointer (some ⟨w.heap.size + 4, 0, none⟩), .pointer (some ⟨w.heap.size + 3, 0, none⟩), .pointer (some ⟨w.heap.size + 5, 0, none⟩)]) rfl trivial (enters_of Tryd.func82 (by kernel_rfl) rfl)
   (split_seq (n - 1) (by omega) (w.heap.size + 4) (w.heap.size + 3) (w.heap.size + 5) (by omega) (by omega) 46 s.data.toList (by omega) W0 (by rw [tx_of]; exact b3) b4 b5)
   (fun A B ⟨z, e⟩ => e ▸ KeepsOthers.setCell _ _ _) (fun {A B C} h1 h2 => ⟨h2.1.trans h1.1, h2.2.1.trans h1.2.1, h2.2.2.trans h1.2.2⟩)
   (fun W l o o' hl ho hc => ⟨World.putObj_heap_other (by omega), World.putObj_heap_other (by omega), World.putObj_heap_other (by omega)⟩) (Below.refl _ _) (fun _ => rfl)
   (IA w) (IX w) (IA_own w (by omega)) (IX_own w (by omega)) (IA_turn w) ⟨⟨rfl, by omega⟩, ⟨b2, b0, b1⟩, bel0⟩
   (fun x => { tmps := #[.string s, undef, .pointer (some ⟨w.heap.size, 0, none⟩), .pointer (some ⟨w.heap.size + 1, 0, none⟩), .pointer (some ⟨w.heap.size + 2, 0, none⟩), .string x, undef, undef, .string s, .func (.func 82) #[] #[.pointer (some ⟨w.heap.size + 4, 0, none⟩), .pointer (some ⟨w.heap.size + 3, 0, none⟩), .pointer (some ⟨w.heap.size + 5, 0, none⟩)], .string x, undef, undef, undef, undef, undef, undef, undef, undef, undef, undef, undef, undef, undef, undef, undef, undef, undef, undef, undef, undef, undef, undef, undef, undef, undef, undef], defers := [] }) ?assign ?body ?done ?stop
  case assign =>
   intro l x W K hK
   gi_wp2
   exact hK
  case body =>
   rintro l pre x W hl hIA hlen hok
   have hI := hIA
   obtain ⟨⟨hf, hw6⟩, ⟨g2, g0, g1⟩, hbel⟩ := hI
   have h2 : 1 ≤ n - 1 - 1 := by omega
   have hat := atoi_calls x (by omega) W (hT.below hbel)
   by_cases hv : ∃ v, Lib.atoiAll x.data.toList = .ok v
   ·obtain ⟨v, hv⟩ := hv
    have hat' : Calls Tryd.prog 49 #[.string x] W fun e w' => e = .returned (.tuple #[.int .i64 v, .nilIface]) ∧ Below W.heap.size W w' := hat.mono fun e w' ⟨n', ev, he, hb, hc⟩ => by
     rcases hc with ⟨h1, h2⟩ | ⟨h1, _⟩
     ·rw [hv] at h1
      cases h1
      exact ⟨by rw [he, h2], hb⟩
     ·exact absurd hv (h1 v)
    clear hat
    have hin := fun V r h => impl_in.calls v 0 255 r V h
    by_cases hr : 0 ≤ v ∧ v ≤ 255
    ·have hinv : impl_in.f v 0 255 = some true := by
      unfold impl_in.f
      simp [hr.1, hr.2]
     by_cases ha : 0 ≤ valA pre ∧ valA pre ≤ 4294967295
     ·have had : impl_isAddr.f (valA pre) = some true := by
       unfold impl_isAddr.f impl_in.f
       simp [ha.1, ha.2]
      have hst : stepA (valA pre) x = some (Go.bits .or .i64 (valA pre * 256) v) := by
       unfold stepA
       rw [hv]
       exact if_pos ⟨hr, ha⟩
      gi_wp2
      refine ⟨trivial, ?_⟩
      refine (CallsIn.inRound l (callsIn_wide.2 hat')).mono ?_
      rintro e W1 ⟨rfl, hb1⟩
      have f0 : Boxed W1 w.heap.size 3 (.int .i64 0) := (hb1.block _ g0.lt).trans g0
      have f1 : Boxed W1 (w.heap.size + 1) 4 (.bool false) := (hb1.block _ g1.lt).trans g1
      have f2 : Boxed W1 (w.heap.size + 2) 3 (.int .i64 (valA pre)) := (hb1.block _ g2.lt).trans g2
      have c0 := f0.cell
      have c1 := f1.cell
      have c2 := f2.cell
      have d0 := f0.frozen
      have d1 := f1.frozen
      have d2 := f2.frozen
      gi_wp2_with (first | (refine ⟨trivial, ?_⟩; refine (CallsIn.inRound l (callsIn_wide.2 (impl_in.calls v 0 255 true _ hinv))).mono ?_; rintro e w' ⟨rfl, ⟨nd, rfl⟩⟩) | (refine ⟨trivial, ?_⟩; refine (CallsIn.inRound l (callsIn_wide.2 (impl_isAddr.calls (valA pre) true _ had))).mono ?_; rintro e w' ⟨rfl, ⟨nd, rfl⟩⟩) | (refine ⟨trivial, ?_⟩))
      exact body_ok hIA (pw_below_drewN hb1 _) hst (by omega)
     ·have had : impl_isAddr.f (valA pre) = some false := by
       unfold impl_isAddr.f impl_in.f
       by_cases h0 : valA pre ≥ 0
       ·simp [h0]; omega
       ·simp [h0]
      have hst : stepA (valA pre) x = none := by
       unfold stepA
       rw [hv]
       exact if_neg fun h => ha h.2
      gi_wp2
      refine ⟨trivial, ?_⟩
      refine (CallsIn.inRound l (callsIn_wide.2 hat')).mono ?_
      rintro e W1 ⟨rfl, hb1⟩
      have f0 : Boxed W1 w.heap.size 3 (.int .i64 0) := (hb1.block _ g0.lt).trans g0
      have f1 : Boxed W1 (w.heap.size + 1) 4 (.bool false) := (hb1.block _ g1.lt).trans g1
      have f2 : Boxed W1 (w.heap.size + 2) 3 (.int .i64 (valA pre)) := (hb1.block _ g2.lt).trans g2
      have c0 := f0.cell
      have c1 := f1.cell
      have c2 := f2.cell
      have d0 := f0.frozen
      have d1 := f1.frozen
      have d2 := f2.frozen
      gi_wp2_with (first | (refine ⟨trivial, ?_⟩; refine (CallsIn.inRound l (callsIn_wide.2 (impl_in.calls v 0 255 true _ hinv))).mono ?_; rintro e w' ⟨rfl, ⟨nd, rfl⟩⟩) | (refine ⟨trivial, ?_⟩; refine (CallsIn.inRound l (callsIn_wide.2 (impl_isAddr.calls (valA pre) false _ had))).mono ?_; rintro e w' ⟨rfl, ⟨nd, rfl⟩⟩) | (refine ⟨trivial, ?_⟩))
      exact ⟨(body_no hIA (pw_below_drewN hb1 _) hst).1, rfl, (body_no (B := W0.heap.size) hIA (pw_below_drewN hb1 _) hst).2⟩
    ·have hinv : impl_in.f v 0 255 = some false := by
      unfold impl_in.f
      by_cases h0 : v ≥ 0
      ·simp [h0]; omega
      ·simp [h0]
     have hst : stepA (valA pre) x = none := by
      unfold stepA
      rw [hv]
      exact if_neg fun h => hr h.1
     gi_wp2
     refine ⟨trivial, ?_⟩
     refine (CallsIn.inRound l (callsIn_wide.2 hat')).mono ?_
     rintro e W1 ⟨rfl, hb1⟩
     have f0 : Boxed W1 w.heap.size 3 (.int .i64 0) := (hb1.block _ g0.lt).trans g0
     have f1 : Boxed W1 (w.heap.size + 1) 4 (.bool false) := (hb1.block _ g1.lt).trans g1
     have f2 : Boxed W1 (w.heap.size + 2) 3 (.int .i64 (valA pre)) := (hb1.block _ g2.lt).trans g2
     have c0 := f0.cell
     have c1 := f1.cell
     have c2 := f2.cell
     have d0 := f0.frozen
     have d1 := f1.frozen
     have d2 := f2.frozen
     gi_wp2_with (first | (refine ⟨trivial, ?_⟩; refine (CallsIn.inRound l (callsIn_wide.2 (impl_in.calls v 0 255 false _ hinv))).mono ?_; rintro e w' ⟨rfl, ⟨nd, rfl⟩⟩) | (refine ⟨trivial, ?_⟩))
     exact ⟨(body_no hIA (pw_below_drewN hb1 _) hst).1, rfl, (body_no (B := W0.heap.size) hIA (pw_below_drewN hb1 _) hst).2⟩
   ·have hat' : Calls Tryd.prog 49 #[.string x] W fun e w' => (∃ nv te pe, e = .returned (.tuple #[.int .i64 nv, .iface te pe])) ∧ Below W.heap.size W w' := hat.mono fun e w' ⟨n', ev, he, hb, hc⟩ => by
     rcases hc with ⟨h1, _⟩ | ⟨_, te, pe, h2⟩
     ·exact absurd ⟨n', h1⟩ hv
     ·exact ⟨⟨n', te, pe, by rw [he, h2]⟩, hb⟩
    clear hat
    have hst : stepA (valA pre) x = none := by
     unfold stepA
     rcases hc : Lib.atoiAll x.data.toList with v | _ | _
     ·exact absurd ⟨v, hc⟩ hv
     ·rfl
     ·rfl
    gi_wp2
    refine ⟨trivial, ?_⟩
    refine (CallsIn.inRound l (callsIn_wide.2 hat')).mono ?_
    rintro e W1 ⟨⟨nv, te, pe, rfl⟩, hb1⟩
    have f0 : Boxed W1 w.heap.size 3 (.int .i64 0) := (hb1.block _ g0.lt).trans g0
    have f1 : Boxed W1 (w.heap.size + 1) 4 (.bool false) := (hb1.block _ g1.lt).trans g1
    have c0 := f0.cell
    have c1 := f1.cell
    have d0 := f0.frozen
    have d1 := f1.frozen
    gi_wp2_with (refine ⟨trivial, ?_⟩)
    obtain ⟨k1, k2⟩ := body_no hIA hb1 hst
    exact ⟨k1, rfl, k2⟩
  case done =>
   rintro D xs W hD rfl ⟨⟨hf, hw6⟩, ⟨g2, g0, g1⟩, hbel⟩ hK
   rw [hf] at h
   dsimp only at h
   obtain ⟨t, ht, h⟩ := Option.bind_eq_some_iff.1 h
   have hAT := impl_AddrText.calls k _ t W (Tb.T1.of (hT.below hbel)) ht
   have hKl : D < W.heap.size := (Array.getElem?_eq_some_iff.1 hK).1
   have c2 := g2.cell
   by_cases hts : t = s
   ·rw [if_pos hts] at h
    obtain rfl := Option.some.inj h
    gi_wp2
    refine ⟨trivial, ?_⟩
    refine (callsIn_wide.2 hAT).mono ?_
    rintro e W1 ⟨rfl, hb1⟩
    have f0 : Boxed W1 w.heap.size 3 (.int .i64 0) := (hb1.block _ g0.lt).trans g0
    have f1 : Boxed W1 (w.heap.size + 1) 4 (.bool false) := (hb1.block _ g1.lt).trans g1
    have f2 : Boxed W1 (w.heap.size + 2) 3 (.int .i64 (valA ((parts 46 s.data.toList).map tx))) := (hb1.block _ g2.lt).trans g2
    have hK1 : W1.heap[D]? = some (.deferred (some [])) := (hb1.block _ hKl).trans hK
    have c0 := f0.cell
    have c1 := f1.cell
    have c2 := f2.cell
    have d0 := f0.frozen
    have d1 := f1.frozen
    have d2 := f2.frozen
    gi_wp2
    have z0 : Boxed _ _ _ _ := ((f0.set (.int .i64 (valA ((parts 46 s.data.toList).map tx)))).other (B' := w.heap.size + 1) (by omega) (.bool true))
    have z1 : Boxed _ _ _ _ := ((f1.other (B' := w.heap.size) (by omega) (.int .i64 (valA ((parts 46 s.data.toList).map tx)))).set (.bool true))
    have zk := (KeepsOthers.setCell _ ⟨w.heap.size + 1, 0, none⟩ (.bool true)).same D _ ((KeepsOthers.setCell W1 ⟨w.heap.size, 0, none⟩ (.int .i64 (valA ((parts 46 s.data.toList).map tx)))).same D _ hK1 rfl) rfl
    have zb := ((hbel.trans (hb1.mono hbel.size)).setCell (p := ⟨w.heap.size, 0, none⟩) (Nat.le_refl _) (.int .i64 (valA ((parts 46 s.data.toList).map tx)))).setCell (p := ⟨w.heap.size + 1, 0, none⟩) (by show w.heap.size ≤ w.heap.size + 1; omega) (.bool true)
    refine ⟨by simp, .inl ⟨_, _, rfl, run_takeDeferred zk, ?_⟩⟩
    have y0 := cell_kept z0.cell (grownBy_putObj' _ D (.deferred none)) (fun r e => by cases e; exact ⟨_, zk, rfl⟩)
    have y1 := cell_kept z1.cell (grownBy_putObj' _ D (.deferred none)) (fun r e => by cases e; exact ⟨_, zk, rfl⟩)
    refine ⟨.tuple #[.int .i64 (valA ((parts 46 s.data.toList).map tx)), .bool true], ?_, rfl, zb.trans (belowK_b (w := w) (Nat.le_refl _) _ D _ _ (by omega) zk rfl rfl)⟩
    simp [results, Tryd.f21, go_sem, y0, y1]
   ·rw [if_neg hts] at h
    have hne : (t.toList == s.toList) = false := beq_eq_false_iff_ne.2 fun e => hts (by
     rw [ByteArray.toList_eq, ByteArray.toList_eq] at e
     rw [← tx_of t, ← tx_of s, e])
    obtain rfl := Option.some.inj h
    gi_wp2
    refine ⟨trivial, ?_⟩
    refine (callsIn_wide.2 hAT).mono ?_
    rintro e W1 ⟨rfl, hb1⟩
    have f0 : Boxed W1 w.heap.size 3 (.int .i64 0) := (hb1.block _ g0.lt).trans g0
    have f1 : Boxed W1 (w.heap.size + 1) 4 (.bool false) := (hb1.block _ g1.lt).trans g1
    have f2 : Boxed W1 (w.heap.size + 2) 3 (.int .i64 (valA ((parts 46 s.data.toList).map tx))) := (hb1.block _ g2.lt).trans g2
    have hK1 : W1.heap[D]? = some (.deferred (some [])) := (hb1.block _ hKl).trans hK
    have c0 := f0.cell
    have c1 := f1.cell
    have c2 := f2.cell
    have d0 := f0.frozen
    have d1 := f1.frozen
    have d2 := f2.frozen
    gi_wp2
    have z0 : Boxed _ _ _ _ := ((f0.set (.int .i64 0)).other (B' := w.heap.size + 1) (by omega) (.bool false))
    have z1 : Boxed _ _ _ _ := ((f1.other (B' := w.heap.size) (by omega) (.int .i64 0)).set (.bool false))
    have zk := (KeepsOthers.setCell _ ⟨w.heap.size + 1, 0, none⟩ (.bool false)).same D _ ((KeepsOthers.setCell W1 ⟨w.heap.size, 0, none⟩ (.int .i64 0)).same D _ hK1 rfl) rfl
    have zb := ((hbel.trans (hb1.mono hbel.size)).setCell (p := ⟨w.heap.size, 0, none⟩) (Nat.le_refl _) (.int .i64 0)).setCell (p := ⟨w.heap.size + 1, 0, none⟩) (by show w.heap.size ≤ w.heap.size + 1; omega) (.bool false)
    refine ⟨by simp, .inl ⟨_, _, rfl, run_takeDeferred zk, ?_⟩⟩
    have y0 := cell_kept z0.cell (grownBy_putObj' _ D (.deferred none)) (fun r e => by cases e; exact ⟨_, zk, rfl⟩)
    have y1 := cell_kept z1.cell (grownBy_putObj' _ D (.deferred none)) (fun r e => by cases e; exact ⟨_, zk, rfl⟩)
    refine ⟨.tuple #[.int .i64 0, .bool false], ?_, rfl, zb.trans (belowK_b (w := w) (Nat.le_refl _) _ D _ _ (by omega) zk rfl rfl)⟩
    simp [results, Tryd.f21, go_sem, y0, y1]
  case stop =>
   rintro D pre W hD hpre ⟨hf, ⟨g0, g1⟩, hbel⟩ hK
   rw [foldA_prefix hpre hf] at h
   obtain rfl := Option.some.inj h
   gi_wp2
   have z0 : Boxed _ _ _ _ := g0
   have z1 : Boxed _ _ _ _ := g1
   have zk := hK
   have zb := hbel
   refine ⟨by simp, .inl ⟨_, _, rfl, run_takeDeferred zk, ?_⟩⟩
   have y0 := cell_kept z0.cell (grownBy_putObj' _ D (.deferred none)) (fun r e => by cases e; exact ⟨_, zk, rfl⟩)
   have y1 := cell_kept z1.cell (grownBy_putObj' _ D (.deferred none)) (fun r e => by cases e; exact ⟨_, zk, rfl⟩)
   refine ⟨.tuple #[.int .i64 0, .bool false], ?_, rfl, zb.trans (belowK_b (w := w) (Nat.le_refl _) _ D _ _ (by omega) zk rfl rfl)⟩
   simp [results, Tryd.f21, go_sem, y0, y1]
 ·rw [if_neg hsz] at h
  cases h
end Go.Proofs.YtgbdnbbfgcogjaaDoor.Sq

namespace Go.Proofs.YtgbdnbbfgcogjaaDoor.Q
open Go.RowKit Go.Proofs.YtgbdnbbfgcogjaaDoorW.PrintWords Go.Proofs.YtgbdnbbfgcogjaaDoorW.PrintLast Go.Proofs.YtgbdnbbfgcogjaaDoorW.PrintMore
attribute [local go_sem] max2_int min2_int max_two min_two max_three min_three max_four min_four
set_option linter.unusedVariables false
set_option linter.unusedSimpArgs false
/-- What AddrGet answers. -/
def impl_AddrGet.f (k : Nat) (a0 : ByteArray) : Option (Int × Bool) := Sq.addrGetF k a0
theorem impl_AddrGet.calls (k : Nat) (a0 : ByteArray) (r1 : Int) (r2 : Bool) (w : World) (hT : Tb.T2 w) (h : impl_AddrGet.f k a0 = some (r1, r2)) :
  Calls Tryd.prog 21 #[.string a0] w fun e w' => e = .returned (.tuple #[.int .i64 r1, .bool r2]) ∧ Below w.heap.size w w' :=
 callsIn_wide.1 (Sq.addrGet_in 6 (Nat.le_refl _) k a0 (r1, r2) w hT h)
end Go.Proofs.YtgbdnbbfgcogjaaDoor.Q

namespace Go.Proofs.YtgbdnbbfgcogjaaDoor.Q
open Go.RowKit Go.Proofs.YtgbdnbbfgcogjaaDoorW.PrintWords Go.Proofs.YtgbdnbbfgcogjaaDoorW.PrintLast Go.Proofs.YtgbdnbbfgcogjaaDoorW.PrintMore
attribute [local go_sem] max2_int min2_int max_two min_two max_three min_three max_four min_four
set_option linter.unusedVariables false
set_option linter.unusedSimpArgs false
def laws_FnExactAddrGet.f (k : Nat) (a0 : ByteArray) : Option (Bool) := if (a0.size : Int) > 1048576 then (some true) else ((spec_AddrGet.f k a0).bind fun bt101 => ((impl_AddrGet.f k a0).bind fun bt103 => (if bt103.1 = bt101.1 then (if (bt103.2 != bt101.2) = true then (some false) else (some true)) else (some false))))
set_option maxHeartbeats 8000000 in
set_option maxRecDepth 100000 in
theorem laws_FnExactAddrGet.calls (k : Nat) (a0 : ByteArray) (r : Bool) (w : World) (hT : Tb.T2 w) (h : laws_FnExactAddrGet.f k a0 = some r) :
  Calls Tryd.prog 6 #[.string a0] w fun e w' => e = .returned (.bool r) ∧ Below w.heap.size w w' := by
 have HT := Aside0.mk hT
 clear hT
 have HB := Aside0.mk (Below.refl w.heap.size w)
 have H : (if (a0.size : Int) > 1048576 then (some true) else ((spec_AddrGet.f k a0).bind fun bt101 => ((impl_AddrGet.f k a0).bind fun bt103 => (if bt103.1 = bt101.1 then (if (bt103.2 != bt101.2) = true then (some false) else (some true)) else (some false))))) = some r := h
 clear h
 by_cases c2 : (a0.size : Int) > 1048576
 ·rw [if_pos c2] at H
  have c2b0 : decide (1048576 < (a0.size : Int)) = true := decide_eq_true c2
  have c2b1 : decide (1048576 < a0.size) = true := decide_eq_true (by omega)
  clear c2
  obtain rfl := Option.some.inj H
  go_enter Tryd.func6, Tryd.ntmps6
  go_wp2
  go_ret
  exact ⟨by first | rfl | (simp [errW_none, errW_some] <;> rfl) | (simp [*, errW_none, errW_some] <;> rfl), by repeat (first | (with_reducible first | exact HB.out | apply below_alloc | apply pw_below_drewN | apply below_drew1) | exact HB.out)⟩
 ·rw [if_neg c2] at H
  have c2b0 : decide (1048576 < (a0.size : Int)) = false := decide_eq_false c2
  have c2b1 : decide (1048576 < a0.size) = false := decide_eq_false (by omega)
  clear c2
  replace H := Option.bind_eq_some_iff.mp H
  obtain ⟨⟨t101, t102⟩, A30, H⟩ := H
  replace H : ((impl_AddrGet.f k a0).bind fun bt103 => (if bt103.1 = t101 then (if (bt103.2 != t102) = true then (some false) else (some true)) else (some false))) = some r := H
  have A3 := Aside0.mk A30
  clear A30
  replace H := Option.bind_eq_some_iff.mp H
  obtain ⟨⟨t103, t104⟩, A40, H⟩ := H
  replace H : (if t103 = t101 then (if (t104 != t102) = true then (some false) else (some true)) else (some false)) = some r := H
  have A4 := Aside0.mk A40
  clear A40
  by_cases c5 : t103 = t101
  ·rw [if_pos c5] at H
   have c5b0 : (t103 == t101) = true := beq_iff_eq.mpr c5
   have c5b1 : (t103 != t101) = false := bne_eq_false_iff_eq.mpr c5
   clear c5
   by_cases c6 : (t104 != t102) = true
   ·rw [if_pos c6] at H
    have c6b0 : (t104 != t102) = true := c6
    (try (have c6b1 : decide (t104 = t102) = false := by simpa using c6))
    (try (have c6b2 : (t104 == t102) = false := by simpa using c6))
    (try (have c6b3 : ¬ (t104 = t102) := by simpa using c6))
    clear c6
    obtain rfl := Option.some.inj H
    go_enter Tryd.func6, Tryd.ntmps6
    go_wp2_with (first | ((with_reducible refine gate_callee (f := 20) rfl ?_); refine goesL_ (some 12) rfl rfl Tryd.func20 (by kernel_rfl) rfl #[.string a0] rfl (by (try simp only [List.map_toArray, List.map_cons, List.map_nil]); first | done | rfl | (simp only [List.length_drop, List.length_take]; rfl)) ?_; (with_reducible refine (spec_AddrGet.calls k a0 t101 t102 _ A3.out).mono ?_); rintro e w7 ⟨rfl, hb⟩; refine ⟨_, rfl, ?_⟩; have n0_ := Aside0.mk (below_step (by repeat (first | (with_reducible first | exact HB.out | apply below_alloc | apply pw_below_drewN | apply below_drew1) | exact HB.out)) hb); clear HB; have HB := n0_; clear n0_; (try clear hb); (try clear hb2); (try clear hk); (try clear hi)) | ((with_reducible refine gate_callee (f := 21) rfl ?_); refine goesL_ (some 17) rfl rfl Tryd.func21 (by kernel_rfl) rfl #[.string a0] rfl (by (try simp only [List.map_toArray, List.map_cons, List.map_nil]); first | done | rfl | (simp only [List.length_drop, List.length_take]; rfl)) ?_; (with_reducible refine (impl_AddrGet.calls k a0 t103 t104 _ ?side1 A4.out).mono ?_); (case side1 => exact (Tb.T2.below HT.out (by repeat (first | (with_reducible first | exact HB.out | apply below_alloc | apply pw_below_drewN | apply below_drew1) | exact HB.out)))); rintro e w8 ⟨rfl, hb⟩; refine ⟨_, rfl, ?_⟩; have n0_ := Aside0.mk (below_step (by repeat (first | (with_reducible first | exact HB.out | apply below_alloc | apply pw_below_drewN | apply below_drew1) | exact HB.out)) hb); clear HB; have HB := n0_; clear n0_; (try clear hb); (try clear hb2); (try clear hk); (try clear hi)))
    go_ret
    exact ⟨by first | rfl | (simp [errW_none, errW_some] <;> rfl) | (simp [*, errW_none, errW_some] <;> rfl), by repeat (first | (with_reducible first | exact HB.out | apply below_alloc | apply pw_below_drewN | apply below_drew1) | exact HB.out)⟩
   ·rw [if_neg c6] at H
    have c6b0 : (t104 != t102) = false := by simpa using c6
    (try (have c6b1 : decide (t104 = t102) = true := by simpa using c6))
    (try (have c6b2 : (t104 == t102) = true := by simpa using c6))
    clear c6
    obtain rfl := Option.some.inj H
    go_enter Tryd.func6, Tryd.ntmps6
    go_wp2_with (first | ((with_reducible refine gate_callee (f := 20) rfl ?_); refine goesL_ (some 12) rfl rfl Tryd.func20 (by kernel_rfl) rfl #[.string a0] rfl (by (try simp only [List.map_toArray, List.map_cons, List.map_nil]); first | done | rfl | (simp only [List.length_drop, List.length_take]; rfl)) ?_; (with_reducible refine (spec_AddrGet.calls k a0 t101 t102 _ A3.out).mono ?_); rintro e w9 ⟨rfl, hb⟩; refine ⟨_, rfl, ?_⟩; have n0_ := Aside0.mk (below_step (by repeat (first | (with_reducible first | exact HB.out | apply below_alloc | apply pw_below_drewN | apply below_drew1) | exact HB.out)) hb); clear HB; have HB := n0_; clear n0_; (try clear hb); (try clear hb2); (try clear hk); (try clear hi)) | ((with_reducible refine gate_callee (f := 21) rfl ?_); refine goesL_ (some 17) rfl rfl Tryd.func21 (by kernel_rfl) rfl #[.string a0] rfl (by (try simp only [List.map_toArray, List.map_cons, List.map_nil]); first | done | rfl | (simp only [List.length_drop, List.length_take]; rfl)) ?_; (with_reducible refine (impl_AddrGet.calls k a0 t103 t104 _ ?side1 A4.out).mono ?_); (case side1 => exact (Tb.T2.below HT.out (by repeat (first | (with_reducible first | exact HB.out | apply below_alloc | apply pw_below_drewN | apply below_drew1) | exact HB.out)))); rintro e w10 ⟨rfl, hb⟩; refine ⟨_, rfl, ?_⟩; have n0_ := Aside0.mk (below_step (by repeat (first | (with_reducible first | exact HB.out | apply below_alloc | apply pw_below_drewN | apply below_drew1) | exact HB.out)) hb); clear HB; have HB := n0_; clear n0_; (try clear hb); (try clear hb2); (try clear hk); (try clear hi)))
    go_ret
    exact ⟨by first | rfl | (simp [errW_none, errW_some] <;> rfl) | (simp [*, errW_none, errW_some] <;> rfl), by repeat (first | (with_reducible first | exact HB.out | apply below_alloc | apply pw_below_drewN | apply below_drew1) | exact HB.out)⟩
  ·rw [if_neg c5] at H
   have c5b0 : (t103 == t101) = false := beq_eq_false_iff_ne.mpr c5
   have c5b1 : (t103 != t101) = true := bne_iff_ne.mpr c5
   obtain rfl := Option.some.inj H
   go_enter Tryd.func6, Tryd.ntmps6
   go_wp2_with (first | ((with_reducible refine gate_callee (f := 20) rfl ?_); refine goesL_ (some 12) rfl rfl Tryd.func20 (by kernel_rfl) rfl #[.string a0] rfl (by (try simp only [List.map_toArray, List.map_cons, List.map_nil]); first | done | rfl | (simp only [List.length_drop, List.length_take]; rfl)) ?_; (with_reducible refine (spec_AddrGet.calls k a0 t101 t102 _ A3.out).mono ?_); rintro e w11 ⟨rfl, hb⟩; refine ⟨_, rfl, ?_⟩; have n0_ := Aside0.mk (below_step (by repeat (first | (with_reducible first | exact HB.out | apply below_alloc | apply pw_below_drewN | apply below_drew1) | exact HB.out)) hb); clear HB; have HB := n0_; clear n0_; (try clear hb); (try clear hb2); (try clear hk); (try clear hi)) | ((with_reducible refine gate_callee (f := 21) rfl ?_); refine goesL_ (some 17) rfl rfl Tryd.func21 (by kernel_rfl) rfl #[.string a0] rfl (by (try simp only [List.map_toArray, List.map_cons, List.map_nil]); first | done | rfl | (simp only [List.length_drop, List.length_take]; rfl)) ?_; (with_reducible refine (impl_AddrGet.calls k a0 t103 t104 _ ?side1 A4.out).mono ?_); (case side1 => exact (Tb.T2.below HT.out (by repeat (first | (with_reducible first | exact HB.out | apply below_alloc | apply pw_below_drewN | apply below_drew1) | exact HB.out)))); rintro e w12 ⟨rfl, hb⟩; refine ⟨_, rfl, ?_⟩; have n0_ := Aside0.mk (below_step (by repeat (first | (with_reducible first | exact HB.out | apply below_alloc | apply pw_below_drewN | apply below_drew1) | exact HB.out)) hb); clear HB; have HB := n0_; clear n0_; (try clear hb); (try clear hb2); (try clear hk); (try clear hi)))
   go_ret
   exact ⟨by first | rfl | (simp [errW_none, errW_some] <;> rfl) | (simp [*, errW_none, errW_some] <;> rfl), by repeat (first | (with_reducible first | exact HB.out | apply below_alloc | apply pw_below_drewN | apply below_drew1) | exact HB.out)⟩
end Go.Proofs.YtgbdnbbfgcogjaaDoor.Q

namespace Go.Proofs.YtgbdnbbfgcogjaaDoor.Open
open Go.RowKit Go.ChangeShapes Go.WideShapes Go.Deep Go.Proofs.YtgbdnbbfgcogjaaDoorW.PrintWords
/-- What the cells of a type say. -/
def Opens (P : Program) (w : World) (t : TypeId) {α : Type} (d : Kd α) (p : α → Prop) : Prop :=
 ∀ (H : Type) (enc : TypeId × Value → H) (base : Nat) (spare : Nat → Bool) (held : Bool) (fuel : Nat) (cs : List Value) (x : DataW H × List MemPlace),
  DataW.trod enc P w base spare held fuel t cs = some x → ∃ a, d.K w a cs ∧ p a
theorem opens_string {P : Program} {w : World} {t : TypeId} (ht : P.underlying t = some .string) : Opens P w t Kd.string (fun s => s.size ≤ 9223372036854775807) := by
 intro H enc base spare held fuel cs x h
 obtain ⟨s, rfl, _, hs⟩ := DataW.trod_string ht h
 exact ⟨s, rfl, hs⟩
theorem open_arg {H : Type} {enc : TypeId × Value → H} {P : Program} {w : World} {base : Nat} {spare : Nat → Bool} {held : Bool} {t : TypeId} {α : Type} {d : Kd α} {p : α → Prop} {v : Value} {dt : DataW H} {ps : List MemPlace} (he : Opens P w t d p)
  (h : DataW.Trod enc P w base spare held t v dt ps) : ∃ a, d.K w a v.cells.toList ∧ p a := by
 obtain ⟨fuel, hf⟩ := h
 exact he _ _ _ _ _ _ _ _ hf
theorem string_of_cells {w : World} {v : Value} {x : ByteArray} (h : ∃ n, v = .string n) (K : Kd.string.K w x v.cells.toList) : v = .string x := by
 obtain ⟨n, rfl⟩ := h
 have K' : (Value.string n).cells.toList = [.string x] := K
 simp only [Value.cells, List.cons.injEq, and_true] at K'
 exact K'
end Go.Proofs.YtgbdnbbfgcogjaaDoor.Open

namespace Go.Proofs.YtgbdnbbfgcogjaaDoor.Q
open Go.RowKit Go.Proofs.YtgbdnbbfgcogjaaDoorW.PrintWords Go.Proofs.YtgbdnbbfgcogjaaDoor.Open
theorem op9 (w : World) : Opens Tryd.prog w 9 Kd.string (fun x => x.size ≤ 9223372036854775807) := opens_string Tryd.underlying9
end Go.Proofs.YtgbdnbbfgcogjaaDoor.Q

namespace Go.Proofs.YtgbdnbbfgcogjaaDoor.Q
open Go.Proofs.YtgbdnbbfgcogjaaDoor.Open
/-- The pure statement of laws_FnExactAddrGet. -/
def laws_FnExactAddrGet.Pure : Prop := ∀ (x0 : ByteArray), (x0.size ≤ 9223372036854775807) → ∃ k, laws_FnExactAddrGet.f k x0 = some true
end Go.Proofs.YtgbdnbbfgcogjaaDoor.Q

namespace Go.Proofs.YtgbdnbbfgcogjaaDoor.Pure
open Go.RowKit
theorem w64 {x : Int} (h : -9223372036854775808 ≤ x) (h' : x ≤ 9223372036854775807) : wrap64 x = x := by
 unfold wrap64
 omega
end Go.Proofs.YtgbdnbbfgcogjaaDoor.Pure

namespace Go.Proofs.YtgbdnbbfgcogjaaDoor.Pure
open Go.RowKit Go.Proofs.YtgbdnbbfgcogjaaDoor.Q Go.Proofs.YtgbdnbbfgcogjaaDoorW.PrintWords Go.Proofs.YtgbdnbbfgcogjaaDoorW.PrintLast Go.Proofs.YtgbdnbbfgcogjaaDoorW.PrintMore
theorem in_spec (a lo hi : Int) : spec_l1In.f a lo hi = some (decide (lo ≤ a ∧ a ≤ hi)) := by
 unfold spec_l1In.f
 by_cases h : a ≥ lo
 ·rw [if_pos h]; simp [show lo ≤ a from h]
 ·rw [if_neg h]; simp [show ¬ lo ≤ a from h]
theorem in_impl (a lo hi : Int) : impl_in.f a lo hi = some (decide (lo ≤ a ∧ a ≤ hi)) := by
 unfold impl_in.f
 by_cases h : a ≥ lo
 ·rw [if_pos h]; simp [show lo ≤ a from h]
 ·rw [if_neg h]; simp [show ¬ lo ≤ a from h]
theorem addr_impl (a : Int) : impl_isAddr.f a = some (decide (0 ≤ a ∧ a ≤ 4294967295)) := by
 unfold impl_isAddr.f
 rw [in_impl]
 rfl
end Go.Proofs.YtgbdnbbfgcogjaaDoor.Pure

namespace Go.Proofs.YtgbdnbbfgcogjaaDoor.Tx
set_option linter.unusedSimpArgs false
set_option linter.unusedVariables false
open Go.RowKit Go.Proofs.YtgbdnbbfgcogjaaDoor.Q Go.Proofs.YtgbdnbbfgcogjaaDoor.Pure Go.Proofs.YtgbdnbbfgcogjaaDoorW.PrintWords Go.Proofs.YtgbdnbbfgcogjaaDoorW.PrintLast Go.Proofs.YtgbdnbbfgcogjaaDoorW.PrintMore
/-- A text of some bytes. -/
def bs (l : List UInt8) : ByteArray := ⟨l.toArray⟩
/-- The figures of a number. -/
abbrev dec (n : Nat) : List UInt8 := Lib.decDigits n
theorem dec_small {n : Nat} (h : n < 10) : dec n = [UInt8.ofNat (48 + n)] := by
 unfold dec; rw [Lib.decDigits, dif_pos h]
theorem dec_big {n : Nat} (h : ¬ n < 10) : dec n = dec (n / 10) ++ [UInt8.ofNat (48 + n % 10)] := by
 unfold dec; rw [Lib.decDigits, dif_neg h]
theorem dec_len : ∀ (d n : Nat), n < 10 ^ (d + 1) → (dec n).length ≤ d + 1
 | 0, n, h => by rw [dec_small (by simpa using h)]; simp
 | d + 1, n, h => by
  by_cases hc : n < 10
  ·rw [dec_small hc]; simp
  ·rw [dec_big hc, List.length_append, List.length_singleton]
   have := dec_len d (n / 10) (by rw [Nat.pow_succ] at h; omega)
   omega
theorem dec_pos (n : Nat) : 1 ≤ (dec n).length := by
 by_cases hc : n < 10
 ·rw [dec_small hc]; simp
 ·rw [dec_big hc, List.length_append, List.length_singleton]; omega
/-- An address in four numbers. -/
def addrT (a : Nat) : List UInt8 := dec (a / 16777216) ++ [46] ++ dec (a / 65536 % 256) ++ [46] ++ dec (a / 256 % 256) ++ [46] ++ dec (a % 256)
theorem dec_byte {n : Nat} (h : n < 256) : (dec n).length ≤ 3 := dec_len 2 n (by simp; omega)
theorem addrT_len {a : Nat} (h : a < 4294967296) : (addrT a).length ≤ 15 := by
 have h1 := dec_byte (show a / 16777216 < 256 by omega)
 have h2 := dec_byte (show a / 65536 % 256 < 256 by omega)
 have h3 := dec_byte (show a / 256 % 256 < 256 by omega)
 have h4 := dec_byte (show a % 256 < 256 by omega)
 simp only [addrT, List.length_append, List.length_singleton]
 omega
theorem and255 {a : Nat} (h : a < 4611686018427387904) : Go.bits .and .i64 (a : Int) 255 = ((a % 256 : Nat) : Int) := by
 simp only [Go.bits, BitVec.ofInt_natCast, BitVec.toNat_and, BitVec.toNat_ofNat]
 rw [show (BitVec.ofInt IntKind.i64.bits 255).toNat = 255 by decide, Nat.mod_eq_of_lt (show a < 2 ^ IntKind.i64.bits by show a < 2 ^ 64; omega)]
 rw [show a &&& 255 = a % 256 from Nat.and_two_pow_sub_one_eq_mod a 8, IntKind.wrap_i64]
 omega
theorem itoa_ev {n : Nat} (h : n < 256) : strconv_Itoa.f (n : Int) = some (bs (dec n)) := by
 unfold strconv_Itoa.f
 rw [if_pos (by omega)]
 unfold Lib.itoa
 rw [if_neg (by omega), Int.toNat_natCast]
 rfl
theorem byte_at (a : Nat) (h : a < 4294967296) (c m : Nat) (hm : 2 ^ c = m) (hc : c ≤ 24) : Go.bits .and .i64 (shr .i64 (a : Int) (c : Int)) 255 = ((a / m % 256 : Nat) : Int) := by
 have hp : 0 < m := by rw [← hm]; exact Nat.pow_pos (by decide)
 have e : shr .i64 (a : Int) (c : Int) = ((a / m : Nat) : Int) := by
  unfold shr
  rw [Int.toNat_natCast, show min c IntKind.i64.bits = c from Nat.min_eq_left (by show c ≤ 64; omega)]
  rw [← hm]
  push_cast
  rfl
 rw [e, and255]
 exact Nat.lt_of_le_of_lt (Nat.div_le_self _ _) (by omega)
theorem join_four (x y z t : List UInt8) (h : (x ++ [46] ++ y ++ [46] ++ z ++ [46] ++ t).length ≤ 100) : strings_Join.f [bs x, bs y, bs z, bs t] ⟨#[46]⟩ = some (bs (x ++ [46] ++ y ++ [46] ++ z ++ [46] ++ t)) := by
 have e : Lib.join ([bs x, bs y, bs z, bs t].map (·.data.toList)) (ByteArray.mk #[46]).data.toList = x ++ [46] ++ y ++ [46] ++ z ++ [46] ++ t := by
  simp [Lib.join, List.intercalate, bs]
 unfold strings_Join.f
 rw [e, if_pos ⟨by simp, by omega⟩]
 rfl
theorem addrText_in {a : Nat} (h : a < 4294967296) {k : Nat} (hk : 10 ≤ k) : impl_AddrText.f k (a : Int) = some (bs (addrT a)) := by
 obtain ⟨k, rfl⟩ : ∃ j, k = j + 5 := ⟨k - 5, by omega⟩
 have hl := addrT_len h
 unfold impl_AddrText.f
 rw [addr_impl, Option.bind_some, if_pos (decide_eq_true (by omega))]
 have b3 := byte_at a h 24 16777216 (by decide) (by decide)
 have b2 := byte_at a h 16 65536 (by decide) (by decide)
 have b1 := byte_at a h 8 256 (by decide) (by decide)
 have b0 := byte_at a h 0 1 (by decide) (by decide)
 have i3 := itoa_ev (n := a / 16777216 % 256) (by omega)
 have i2 := itoa_ev (n := a / 65536 % 256) (by omega)
 have i1 := itoa_ev (n := a / 256 % 256) (by omega)
 have i0 := itoa_ev (n := a / 1 % 256) (by omega)
 rw [← b3] at i3
 rw [← b2] at i2
 rw [← b1] at i1
 rw [← b0] at i0
 have w3 : wrap64 (24 - 8) = 16 := by rw [w64 (by omega) (by omega)]; rfl
 have w2 : wrap64 (16 - 8) = 8 := by rw [w64 (by omega) (by omega)]; rfl
 have w1 : wrap64 (8 - 8) = 0 := by rw [w64 (by omega) (by omega)]; rfl
 have w0 : wrap64 (0 - 8) = -8 := by rw [w64 (by omega) (by omega)]; rfl
 have s3 : impl_AddrText.l0 (k + 4 + 1) (a : Int) [] 24 = impl_AddrText.l0 (k + 4) (a : Int) [bs (dec (a / 16777216 % 256))] 16 := by
  rw [impl_AddrText.l0, if_pos (by decide), if_pos (by decide)]
  refine Eq.trans (congrArg (fun x => Option.bind x _) i3) ?_
  rw [Option.bind_some, if_pos (by simp), w3]
  rfl
 have s2 : ∀ x, impl_AddrText.l0 (k + 3 + 1) (a : Int) [x] 16 = impl_AddrText.l0 (k + 3) (a : Int) [x, bs (dec (a / 65536 % 256))] 8 := by
  intro x
  rw [impl_AddrText.l0, if_pos (by decide), if_pos (by decide)]
  refine Eq.trans (congrArg (fun x => Option.bind x _) i2) ?_
  rw [Option.bind_some, if_pos (by simp), w2]
  rfl
 have s1 : ∀ x y, impl_AddrText.l0 (k + 2 + 1) (a : Int) [x, y] 8 = impl_AddrText.l0 (k + 2) (a : Int) [x, y, bs (dec (a / 256 % 256))] 0 := by
  intro x y
  rw [impl_AddrText.l0, if_pos (by decide), if_pos (by decide)]
  refine Eq.trans (congrArg (fun x => Option.bind x _) i1) ?_
  rw [Option.bind_some, if_pos (by simp), w1]
  rfl
 have s0 : ∀ x y z, impl_AddrText.l0 (k + 1 + 1) (a : Int) [x, y, z] 0 = impl_AddrText.l0 (k + 1) (a : Int) [x, y, z, bs (dec (a / 1 % 256))] (-8) := by
  intro x y z
  rw [impl_AddrText.l0, if_pos (by decide), if_pos (by decide)]
  refine Eq.trans (congrArg (fun x => Option.bind x _) i0) ?_
  rw [Option.bind_some, if_pos (by simp), w0]
  rfl
 show impl_AddrText.l0 (k + 4 + 1) (a : Int) [] 24 = _
 rw [s3, s2, s1, s0, impl_AddrText.l0, if_neg (by decide)]
 have ha : addrT a = dec (a / 16777216 % 256) ++ [46] ++ dec (a / 65536 % 256) ++ [46] ++ dec (a / 256 % 256) ++ [46] ++ dec (a / 1 % 256) := by
  unfold addrT
  rw [Nat.mod_eq_of_lt (show a / 16777216 < 256 by omega), Nat.div_one]
 rw [ha] at hl ⊢
 rw [join_four _ _ _ _ (by omega), Option.bind_some]
theorem addrText_impl (a : Int) {k : Nat} (hk : 10 ≤ k) : impl_AddrText.f k a = some (if 0 ≤ a ∧ a ≤ 4294967295 then bs (addrT a.toNat) else bs []) := by
 by_cases h : 0 ≤ a ∧ a ≤ 4294967295
 ·rw [if_pos h]
  have e := addrText_in (a := a.toNat) (by omega) hk
  rwa [show ((a.toNat : Nat) : Int) = a by omega] at e
 ·unfold impl_AddrText.f
  rw [addr_impl, Option.bind_some, if_neg (by simpa using h), if_neg h]
  rfl
end Go.Proofs.YtgbdnbbfgcogjaaDoor.Tx

namespace Go.Proofs.YtgbdnbbfgcogjaaDoor.Tx
set_option linter.unusedSimpArgs false
set_option linter.unusedVariables false
open Go.RowKit Go.Proofs.YtgbdnbbfgcogjaaDoor.Q Go.Proofs.YtgbdnbbfgcogjaaDoor.Pure Go.Proofs.YtgbdnbbfgcogjaaDoorW.PrintWords Go.Proofs.YtgbdnbbfgcogjaaDoorW.PrintLast Go.Proofs.YtgbdnbbfgcogjaaDoorW.PrintMore
open Go.Proofs.YtgbdnbbfgcogjaaDoor.Sq (tx parts parts_some parts_none tx_size tx_data tx_extract stepA foldA addrGetF)
theorem fig_nat {d : Nat} (h : d < 10) : (UInt8.ofNat (48 + d)).toNat = 48 + d := by
 rw [UInt8.toNat_ofNat', Nat.mod_eq_of_lt (by omega)]
theorem dec_figs : ∀ n : Nat, ∀ b ∈ dec n, 48 ≤ b.toNat ∧ b.toNat ≤ 57 := by
 intro n
 induction n using Nat.strongRecOn with
 | _ n ih =>
  intro b hb
  by_cases h : n < 10
  ·rw [dec_small h, List.mem_singleton] at hb
   rw [hb, fig_nat h]
   omega
  ·rw [dec_big h] at hb
   rcases List.mem_append.1 hb with hb | hb
   ·exact ih (n / 10) (by omega) b hb
   ·rw [List.mem_singleton] at hb
    rw [hb, fig_nat (by omega)]
    omega
theorem dec_no {c : UInt8} (hc : c.toNat < 48) (n : Nat) : c ∉ dec n := fun h => by
 have := (dec_figs n c h).1
 omega
theorem parse_snoc : ∀ (x : List UInt8) (acc u d : Nat), d < 10 → Lib.parseUint10 acc x = .ok u → u < 100000000000000000 → Lib.parseUint10 acc (x ++ [UInt8.ofNat (48 + d)]) = .ok (u * 10 + d)
 | [], acc, u, d, hd, h, hu => by
  have e : acc = u := by simp only [Lib.parseUint10] at h; injection h
  subst e
  have hf := fig_nat hd
  simp only [List.nil_append, Lib.parseUint10]
  rw [hf, if_pos (by omega), if_neg (by omega), if_neg (by omega)]
  congr 1
  omega
 | c :: r, acc, u, d, hd, h, hu => by
  rw [List.cons_append]
  simp only [Lib.parseUint10] at h ⊢
  split at h
  ·rename_i h1
   rw [if_pos h1]
   split at h
   ·cases h
   ·rename_i h2
    rw [if_neg h2]
    split at h
    ·cases h
    ·rename_i h3
     rw [if_neg h3]
     exact parse_snoc r _ u d hd h hu
  ·cases h
theorem parse_dec : ∀ n : Nat, n < 1000000000000000000 → Lib.parseUint10 0 (dec n) = .ok n := by
 intro n
 induction n using Nat.strongRecOn with
 | _ n ih =>
  intro hn
  by_cases h : n < 10
  ·have := parse_snoc [] 0 0 n h rfl (by omega)
   rw [dec_small h]
   rwa [List.nil_append, Nat.zero_mul, Nat.zero_add] at this
  ·have := parse_snoc (dec (n / 10)) 0 (n / 10) (n % 10) (by omega) (ih (n / 10) (by omega) (by omega)) (by omega)
   rw [dec_big h, this]
   congr 1
   omega
theorem atoi_dec {n : Nat} (hn : n < 1000000000000000000) : Lib.atoiAll (dec n) = .ok (n : Int) := by
 have hp := parse_dec n hn
 have hl := dec_pos n
 have hf := dec_figs n
 cases hd : dec n with
 | nil => rw [hd] at hl; simp at hl
 | cons c r =>
  rw [hd] at hp hf
  have hc := hf c List.mem_cons_self
  simp only [Lib.atoiAll]
  rw [if_neg (by omega)]
  unfold Lib.parseMag
  rw [if_neg (by simp), hp]
  simp only
  rw [if_neg (by omega), if_neg (by omega), if_neg (by omega)]
/-- The figures' number. -/
def digv (b : UInt8) : Nat := b.toNat - 48
def isd (b : UInt8) : Bool := decide (48 ≤ b.toNat ∧ b.toNat ≤ 57)
def valF : Nat → List UInt8 → Nat
 | acc, [] => acc
 | acc, b :: r => valF (acc * 10 + digv b) r
theorem val_snoc (d : UInt8) : ∀ (y : List UInt8) (acc : Nat), valF acc (y ++ [d]) = valF acc y * 10 + digv d
 | [], acc => rfl
 | b :: y, acc => val_snoc d y _
theorem val_ge : ∀ (y : List UInt8) (acc : Nat), acc ≤ valF acc y
 | [], acc => Nat.le_refl _
 | b :: y, acc => by
  have := val_ge y (acc * 10 + digv b)
  show acc ≤ valF (acc * 10 + digv b) y
  omega
theorem fig_back {b : UInt8} (h : isd b = true) : UInt8.ofNat (48 + digv b) = b ∧ digv b < 10 := by
 have h' := of_decide_eq_true h
 unfold digv
 refine ⟨?_, by omega⟩
 apply UInt8.toNat_inj.1
 rw [UInt8.toNat_ofNat', Nat.mod_eq_of_lt (by have := b.toNat_lt; omega)]
 omega
theorem back : ∀ (m : Nat) (x : List UInt8), x.length = m + 1 → x.all isd = true → (1 < x.length → x.head? ≠ some 48) → dec (valF 0 x) = x
 | 0, x, hl, ha, _ => by
  obtain ⟨d, rfl⟩ := List.length_eq_one_iff.1 hl
  have hd : isd d = true := by simpa using ha
  obtain ⟨h1, h2⟩ := fig_back hd
  show dec (0 * 10 + digv d) = [d]
  rw [Nat.zero_mul, Nat.zero_add, dec_small h2, h1]
 | m + 1, x, hl, ha, hh => by
  have hne : x ≠ [] := fun e => by rw [e] at hl; simp at hl
  have hx := List.dropLast_concat_getLast hne
  generalize hy : x.dropLast = y at hx
  generalize hz : x.getLast hne = d at hx
  subst hx
  have hyl : y.length = m + 1 := by rw [List.length_append, List.length_singleton] at hl; omega
  rw [List.all_append, Bool.and_eq_true] at ha
  have hd : isd d = true := by simpa using ha.2
  obtain ⟨h1, h2⟩ := fig_back hd
  cases hyc : y with
  | nil => rw [hyc] at hyl; simp at hyl
  | cons c r =>
   have hc : c ≠ 48 := fun e => by
    refine hh (by rw [hl]; omega) ?_
    rw [hyc, e]
    rfl
   have hcd : isd c = true := by
    have := ha.1
    rw [hyc, List.all_cons, Bool.and_eq_true] at this
    exact this.1
   have hb := back m y hyl ha.1 (fun _ => by rw [hyc]; intro e; exact hc (Option.some.inj e))
   rw [← hyc]
   have hv : 1 ≤ valF 0 y := by
    rw [hyc]
    have := val_ge r (0 * 10 + digv c)
    have hcn := of_decide_eq_true hcd
    have : 49 ≤ c.toNat := by
     rcases Nat.lt_or_ge c.toNat 49 with h | h
     ·exact absurd (UInt8.toNat_inj.1 (show c.toNat = (48 : UInt8).toNat by show c.toNat = 48; omega)) hc
     ·exact h
    show 1 ≤ valF (0 * 10 + digv c) r
    unfold digv at *
    omega
   rw [val_snoc, dec_big (by omega), show (valF 0 y * 10 + digv d) / 10 = valF 0 y by omega, show (valF 0 y * 10 + digv d) % 10 = digv d by omega, hb, h1]
theorem val_dec : ∀ n : Nat, valF 0 (dec n) = n := by
 intro n
 induction n using Nat.strongRecOn with
 | _ n ih =>
  by_cases h : n < 10
  ·rw [dec_small h]
   show 0 * 10 + digv _ = n
   unfold digv
   rw [fig_nat h]
   omega
  ·rw [dec_big h, val_snoc, ih (n / 10) (by omega)]
   unfold digv
   rw [fig_nat (by omega)]
   omega
theorem dec_head : ∀ n : Nat, 1 ≤ n → (dec n).head? ≠ some 48 := by
 intro n
 induction n using Nat.strongRecOn with
 | _ n ih =>
  intro hn
  by_cases h : n < 10
  ·rw [dec_small h]
   intro e
   have := congrArg UInt8.toNat (Option.some.inj e)
   rw [fig_nat h] at this
   change 48 + n = 48 at this
   omega
  ·have h1 := ih (n / 10) (by omega) (by omega)
   rw [dec_big h]
   cases hd : dec (n / 10) with
   | nil => have := dec_pos (n / 10); rw [hd] at this; simp at this
   | cons c r => rw [hd] at h1; exact h1
/-- What the reference makes of a text that should be a number. -/
def numE (x : List UInt8) : Int := if x.length = 0 ∨ 9 < x.length ∨ (1 < x.length ∧ x.head? = some 48) then -1 else if x.all isd = true then (valF 0 x : Int) else -1
theorem num_back {x : List UInt8} {n : Nat} (h : numE x = n) : x = dec n := by
 unfold numE at h
 split at h
 ·omega
 ·rename_i hc
  split at h
  ·rename_i ha
   have e : valF 0 x = n := by omega
   obtain ⟨m, hm⟩ : ∃ m, x.length = m + 1 := ⟨x.length - 1, by omega⟩
   have := back m x hm ha (fun h1 h2 => hc (.inr (.inr ⟨h1, h2⟩)))
   rw [← this, e]
  ·omega
theorem num_dec {n : Nat} (hn : n < 1000000000) : numE (dec n) = n := by
 have h1 := dec_pos n
 have h2 := dec_len 8 n (by simpa using hn)
 unfold numE
 rw [if_neg, if_pos, val_dec]
 ·rw [List.all_eq_true]
  exact fun b hb => decide_eq_true (dec_figs n b hb)
 ·rintro (h | h | ⟨h, h'⟩)
  ·omega
  ·omega
  ·by_cases hs : n < 10
   ·rw [dec_small hs] at h; simp at h
   ·exact dec_head n (by omega) h'
theorem bt_tx (l : List UInt8) (i : Nat) : bt (tx l) (i : Int) = ((l.getD i 0).toNat : Int) := by
 rw [← rd_bytesOf]
 show (bytesOf (tx l)).getD i 0 = _
 unfold bytesOf
 rw [List.getD_eq_getElem?_getD, List.getElem?_map, List.getD_eq_getElem?_getD, tx_data]
 cases l[i]? with
 | none => rfl
 | some b => rfl
theorem bt_mid (p : List UInt8) (b : UInt8) (r : List UInt8) : bt (tx (p ++ b :: r)) ((p.length : Nat) : Int) = (b.toNat : Int) := by
 rw [bt_tx, List.getD_eq_getElem?_getD, List.getElem?_append_right (Nat.le_refl _), Nat.sub_self]
 rfl
theorem num_loop : ∀ (r p : List UInt8) (acc : Nat), p.length + r.length ≤ 9 → acc < 10 ^ p.length → ∀ k, r.length < k → spec_l1Num.l0 k (tx (p ++ r)) (acc : Int) (p.length : Int) = some (if r.all isd = true then (valF acc r : Int) else -1) := by
 intro r
 induction r with
 | nil =>
  intro p acc hl ha k hk
  obtain ⟨k, rfl⟩ : ∃ j, k = j + 1 := ⟨k - 1, by omega⟩
  simp only [spec_l1Num.l0]
  rw [List.append_nil, tx_size, if_neg (by omega)]
  rfl
 | cons b r ih =>
  intro p acc hl ha k hk
  rw [List.length_cons] at hl hk
  obtain ⟨k, rfl⟩ : ∃ j, k = j + 1 := ⟨k - 1, by omega⟩
  have hm : acc < 1000000000 := by
   have := Nat.pow_le_pow_right (show 0 < 10 by decide) (show p.length ≤ 9 by omega)
   have e : (10 : Nat) ^ 9 = 1000000000 := by decide
   omega
  have hb := b.toNat_lt
  simp only [spec_l1Num.l0]
  rw [tx_size, List.length_append, List.length_cons, if_pos (by omega), if_pos (by omega), bt_mid]
  by_cases h1 : b.toNat < 48
  ·rw [if_pos (by omega), if_neg]
   rw [List.all_cons, Bool.and_eq_true]
   exact fun h => by have := of_decide_eq_true h.1; omega
  ·by_cases h2 : 57 < b.toNat
   ·rw [if_neg (by omega), if_pos (by omega), if_neg]
    rw [List.all_cons, Bool.and_eq_true]
    exact fun h => by have := of_decide_eq_true h.1; omega
   ·have hd : isd b = true := decide_eq_true (by omega)
    rw [if_neg (by omega), if_neg (by omega), w64 (x := (acc : Int) * 10) (by omega) (by omega), w64 (x := (p.length : Int) + 1) (by omega) (by omega), w64 (by omega) (by omega), show (acc : Int) * 10 + ((b.toNat : Int) - 48) % 256 = ((acc * 10 + digv b : Nat) : Int) by unfold digv; omega]
    have h := ih (p ++ [b]) (acc * 10 + digv b) (by rw [List.length_append, List.length_singleton]; omega) (by rw [List.length_append, List.length_singleton, Nat.pow_succ]; unfold digv; omega) k (by omega)
    rw [List.append_assoc, List.singleton_append, List.length_append, List.length_singleton] at h
    rw [show (p.length : Int) + 1 = ((p.length + 1 : Nat) : Int) by omega, h, List.all_cons, hd, Bool.true_and]
    rfl
theorem num_ev (x : List UInt8) {k : Nat} (hk : 20 ≤ k) : spec_l1Num.f k (tx x) = some (numE x) := by
 obtain ⟨k, rfl⟩ : ∃ j, k = j + 1 := ⟨k - 1, by omega⟩
 unfold spec_l1Num.f numE
 simp only [spec_l1Num.j0]
 rw [tx_size]
 by_cases h0 : x.length = 0
 ·rw [if_pos (by omega), if_pos trivial, if_pos (.inl h0)]
 ·rw [if_neg (by omega)]
  by_cases h1 : 9 < x.length
  ·rw [if_pos (by omega), if_pos trivial, if_pos (.inr (.inl h1))]
  ·rw [if_neg (by omega)]
   have hl := num_loop x [] 0 (by simp; omega) (by decide) k (by omega)
   rw [List.nil_append] at hl
   have hl' : spec_l1Num.l0 k (tx x) 0 0 = some (if x.all isd = true then (valF 0 x : Int) else -1) := hl
   cases x with
   | nil => simp at h0
   | cons c r =>
    have hb : bt (tx (c :: r)) 0 = (c.toNat : Int) := bt_mid [] c r
    by_cases h2 : 1 < (c :: r).length
    ·rw [if_pos (by omega), if_pos (by omega), hb]
     by_cases h3 : c = 48
     ·rw [if_pos (by rw [h3]; rfl), if_pos (.inr (.inr ⟨h2, by rw [h3]; rfl⟩))]
     ·have hc : ((c.toNat : Int) == 48) = false := by
       rw [beq_eq_false_iff_ne]
       intro e
       exact h3 (UInt8.toNat_inj.1 (show c.toNat = (48 : UInt8).toNat by show c.toNat = 48; omega))
      have hcd : ¬ ((c :: r).length = 0 ∨ 9 < (c :: r).length ∨ (1 < (c :: r).length ∧ (c :: r).head? = some 48)) := by
       rintro (h | h | ⟨_, h⟩)
       ·exact h0 h
       ·exact h1 h
       ·exact h3 (Option.some.inj h)
      rw [hc, if_neg (by simp), hl', if_neg hcd]
    ·have hcd : ¬ ((c :: r).length = 0 ∨ 9 < (c :: r).length ∨ (1 < (c :: r).length ∧ (c :: r).head? = some 48)) := by
      rintro (h | h | ⟨h, _⟩)
      ·exact h0 h
      ·exact h1 h
      ·exact h2 h
     rw [if_neg (by omega), if_neg (by simp), hl', if_neg hcd]
theorem cut_loop (c : UInt8) : ∀ (r a cur : List UInt8) (acc : List ByteArray), c ∉ cur → a.length + cur.length + r.length ≤ 1000000000 → acc.length + r.length ≤ 1000000000 → ∀ k, r.length < k →
  spec_l1Cut.l0 k (tx (a ++ cur ++ r)) (c.toNat : Int) acc (a.length : Int) ((a.length + cur.length : Nat) : Int) = some (acc ++ (parts c (cur ++ r)).map tx) := by
 intro r
 induction r with
 | nil =>
  intro a cur acc hc hl ha k hk
  rw [List.length_nil] at hl ha
  obtain ⟨k, rfl⟩ : ∃ j, k = j + 1 := ⟨k - 1, by omega⟩
  simp only [spec_l1Cut.l0]
  rw [List.append_nil, List.append_nil, tx_size, List.length_append, if_neg (by omega), if_pos (by omega), if_pos (by omega), if_pos (by omega), parts_none hc, Int.toNat_natCast, tx_extract, List.take_of_length_le (by rw [List.length_append]; exact Nat.le_refl _), List.drop_left]
  rfl
 | cons b r ih =>
  intro a cur acc hc hl ha k hk
  rw [List.length_cons] at hl ha hk
  obtain ⟨k, rfl⟩ : ∃ j, k = j + 1 := ⟨k - 1, by omega⟩
  have hbt : bt (tx (a ++ cur ++ b :: r)) ((a.length + cur.length : Nat) : Int) = (b.toNat : Int) := by
   have := bt_mid (a ++ cur) b r
   rwa [List.length_append] at this
  simp only [spec_l1Cut.l0]
  rw [tx_size, hbt, List.length_append, List.length_append, List.length_cons, if_pos (by omega), if_pos (by omega), w64 (by omega) (by omega)]
  by_cases h : b = c
  ·subst h
   rw [if_pos rfl, if_pos (by omega), if_pos (by omega), if_pos (by omega), if_pos (by omega), Int.toNat_natCast, Int.toNat_natCast, tx_extract]
   have e : ((a ++ cur ++ b :: r).take (a.length + cur.length)).drop a.length = cur := by
    rw [List.take_left' (List.length_append ..), List.drop_left]
   have hi := ih (a ++ cur ++ [b]) [] (acc ++ [tx cur]) (by simp) (by simp; omega) (by simp; omega) k (by omega)
   rw [e, parts_some r hc]
   rw [List.append_nil, List.append_assoc (a ++ cur), List.singleton_append, List.length_nil, Nat.add_zero, List.length_append, List.length_append, List.length_singleton, List.nil_append, List.append_assoc acc] at hi
   rw [show ((a.length + cur.length : Nat) : Int) + 1 = ((a.length + cur.length + 1 : Nat) : Int) by omega]
   exact hi
  ·have hne : ¬ (b.toNat : Int) = (c.toNat : Int) := fun e => h (UInt8.toNat_inj.1 (by omega))
   have hi := ih a (cur ++ [b]) acc (fun hm => by
    rcases List.mem_append.1 hm with hm | hm
    ·exact hc hm
    ·exact h (List.mem_singleton.1 hm).symm) (by simp; omega) (by omega) k (by omega)
   rw [if_neg hne]
   rw [← List.append_assoc a, List.append_assoc (a ++ cur), List.append_assoc cur, List.singleton_append, List.length_append, List.length_singleton] at hi
   rw [show ((a.length + cur.length : Nat) : Int) + 1 = ((a.length + (cur.length + 1) : Nat) : Int) by omega]
   exact hi
theorem cut_ev (c : UInt8) (l : List UInt8) (hl : l.length ≤ 1000000000) {k : Nat} (hk : l.length < k) : spec_l1Cut.f k (tx l) (c.toNat : Int) = some ((parts c l).map tx) := by
 unfold spec_l1Cut.f
 have h := cut_loop c l [] [] [] (by simp) (by simpa using hl) (by simpa using hl) k hk
 exact h
end Go.Proofs.YtgbdnbbfgcogjaaDoor.Tx

namespace Go.Proofs.YtgbdnbbfgcogjaaDoor.Tx
set_option linter.unusedSimpArgs false
set_option linter.unusedVariables false
open Go.RowKit Go.Proofs.YtgbdnbbfgcogjaaDoor.Q Go.Proofs.YtgbdnbbfgcogjaaDoor.Pure Go.Proofs.YtgbdnbbfgcogjaaDoorW.PrintWords Go.Proofs.YtgbdnbbfgcogjaaDoorW.PrintLast Go.Proofs.YtgbdnbbfgcogjaaDoorW.PrintMore
open Go.Proofs.YtgbdnbbfgcogjaaDoor.Sq (tx parts parts_some parts_none parts_len tx_size tx_data tx_extract stepA foldA addrGetF)
def glue (c : UInt8) : List (List UInt8) → List UInt8
 | [] => []
 | [p] => p
 | p :: q :: r => p ++ c :: glue c (q :: r)
theorem glue_parts (c : UInt8) : ∀ l : List UInt8, glue c (parts c l) = l
 | [] => rfl
 | b :: r => by
  have ih := glue_parts c r
  have hn := (parts_len c r).1
  cases hp : parts c r with
  | nil => rw [hp] at hn; simp at hn
  | cons p ps =>
   rw [hp] at ih
   by_cases h : b = c
   ·have e : parts c (b :: r) = [] :: p :: ps := by simp [parts, h, hp]
    rw [e, h]
    show [] ++ c :: glue c (p :: ps) = c :: r
    rw [ih]
    rfl
   ·have e : parts c (b :: r) = (b :: p) :: ps := by simp [parts, h, hp]
    rw [e]
    cases ps with
    | nil =>
     have : p = r := ih
     rw [this]
     rfl
    | cons q qs =>
     have : p ++ c :: glue c (q :: qs) = r := ih
     show b :: (p ++ c :: glue c (q :: qs)) = b :: r
     rw [this]
theorem no46 (n : Nat) : (46 : UInt8) ∉ dec n := dec_no (by decide) n
theorem parts_addr (a : Nat) : parts 46 (addrT a) = [dec (a / 16777216), dec (a / 65536 % 256), dec (a / 256 % 256), dec (a % 256)] := by
 have e : addrT a = dec (a / 16777216) ++ 46 :: (dec (a / 65536 % 256) ++ 46 :: (dec (a / 256 % 256) ++ 46 :: dec (a % 256))) := by simp [addrT]
 rw [e, parts_some _ (no46 _), parts_some _ (no46 _), parts_some _ (no46 _), parts_none (no46 _)]
theorem four_addr {n0 n1 n2 n3 : Nat} (h0 : n0 ≤ 255) (h1 : n1 ≤ 255) (h2 : n2 ≤ 255) (h3 : n3 ≤ 255) : glue 46 [dec n0, dec n1, dec n2, dec n3] = addrT (((n0 * 256 + n1) * 256 + n2) * 256 + n3) := by
 have e0 : (((n0 * 256 + n1) * 256 + n2) * 256 + n3) / 16777216 = n0 := by omega
 have e1 : (((n0 * 256 + n1) * 256 + n2) * 256 + n3) / 65536 % 256 = n1 := by omega
 have e2 : (((n0 * 256 + n1) * 256 + n2) * 256 + n3) / 256 % 256 = n2 := by omega
 have e3 : (((n0 * 256 + n1) * 256 + n2) * 256 + n3) % 256 = n3 := by omega
 unfold addrT
 rw [e0, e1, e2, e3]
 simp [glue]
theorem get_step (xs : List (List UInt8)) (acc : Int) (i : Nat) (x : List UInt8) (hx : xs[i]? = some x) (hi : i < 4) (h0 : 0 ≤ acc) (h1 : acc ≤ 4294967296) {k : Nat} (hk : 30 ≤ k) :
  spec_AddrGet.l0 (k + 1) (xs.map tx) acc (i : Int) = if 0 ≤ numE x ∧ numE x ≤ 255 then spec_AddrGet.l0 k (xs.map tx) (acc * 256 + numE x) ((i + 1 : Nat) : Int) else some (0, false) := by
 have hlt : i < xs.length := by
  rcases Nat.lt_or_ge i xs.length with h | h
  ·exact h
  ·rw [List.getElem?_eq_none h] at hx; cases hx
 have hr : rdOf ByteArray.empty (xs.map tx) (i : Int) = tx x := by
  show (xs.map tx).getD ((i : Int)).toNat _ = _
  rw [Int.toNat_natCast, List.getD_eq_getElem?_getD, List.getElem?_map, hx]
  rfl
 simp only [spec_AddrGet.l0]
 rw [if_pos (by omega), if_pos (by omega), if_pos (by rw [List.length_map]; omega), hr, num_ev x (by omega), Option.bind_some, in_spec, Option.bind_some]
 by_cases h : 0 ≤ numE x ∧ numE x ≤ 255
 ·rw [if_pos (decide_eq_true h), if_pos h, w64 (x := acc * 256) (by omega) (by omega), w64 (by omega) (by omega), w64 (by omega) (by omega)]
  rfl
 ·rw [if_neg (by simpa using h), if_neg h]
theorem get_end (xs : List (List UInt8)) (acc : Int) {k : Nat} : spec_AddrGet.l0 (k + 1) (xs.map tx) acc ((3 + 1 : Nat) : Int) = some (acc, true) := by
 simp only [spec_AddrGet.l0]
 rw [if_neg (by omega)]
theorem spec_get (l : List UInt8) (hl : l.length ≤ 1000000000) {k : Nat} (hk : l.length + 100 ≤ k) : spec_AddrGet.f k (tx l) = (match parts 46 l with
  | [A, B, C, D] => if (0 ≤ numE A ∧ numE A ≤ 255) ∧ (0 ≤ numE B ∧ numE B ≤ 255) ∧ (0 ≤ numE C ∧ numE C ≤ 255) ∧ (0 ≤ numE D ∧ numE D ≤ 255) then some (((numE A * 256 + numE B) * 256 + numE C) * 256 + numE D, true) else some (0, false)
  | _ => some (0, false)) := by
 obtain ⟨k, rfl⟩ : ∃ j, k = j + 5 := ⟨k - 5, by omega⟩
 have hc := cut_ev 46 l hl (k := k + 5) (by omega)
 have hc' : spec_l1Cut.f (k + 5) (tx l) 46 = some ((parts 46 l).map tx) := hc
 unfold spec_AddrGet.f
 rw [hc', Option.bind_some, List.length_map]
 generalize parts 46 l = xs
 by_cases h4 : xs.length = 4
 ·obtain ⟨A, B, C, D, rfl⟩ : ∃ A B C D, xs = [A, B, C, D] := by
   match xs, h4 with
   | [A, B, C, D], _ => exact ⟨A, B, C, D, rfl⟩
  rw [if_pos (by rw [h4]; rfl)]
  dsimp only
  have s0 := get_step [A, B, C, D] 0 0 A rfl (by omega) (by omega) (by omega) (k := k + 4) (by omega)
  rw [Int.zero_mul, Int.zero_add] at s0
  refine Eq.trans s0 ?_
  by_cases hA : 0 ≤ numE A ∧ numE A ≤ 255
  ·rw [if_pos hA, get_step [A, B, C, D] (numE A) (0 + 1) B rfl (by omega) (by omega) (by omega) (k := k + 3) (by omega)]
   by_cases hB : 0 ≤ numE B ∧ numE B ≤ 255
   ·rw [if_pos hB, get_step [A, B, C, D] (numE A * 256 + numE B) (0 + 1 + 1) C rfl (by omega) (by omega) (by omega) (k := k + 2) (by omega)]
    by_cases hC : 0 ≤ numE C ∧ numE C ≤ 255
    ·rw [if_pos hC, get_step [A, B, C, D] ((numE A * 256 + numE B) * 256 + numE C) (0 + 1 + 1 + 1) D rfl (by omega) (by omega) (by omega) (k := k + 1) (by omega)]
     by_cases hD : 0 ≤ numE D ∧ numE D ≤ 255
     ·rw [if_pos hD, if_pos ⟨hA, hB, hC, hD⟩]
      exact get_end _ _
     ·rw [if_neg hD, if_neg fun h => hD h.2.2.2]
    ·rw [if_neg hC, if_neg fun h => hC h.2.2.1]
   ·rw [if_neg hB, if_neg fun h => hB h.2.1]
  ·rw [if_neg hA, if_neg fun h => hA h.1]
 ·rw [if_neg (by omega)]
  split
  ·simp at h4
  ·rfl
theorem spec_yes {a : Nat} (ha : a < 4294967296) {k : Nat} (hk : 200 ≤ k) : spec_AddrGet.f k (tx (addrT a)) = some ((a : Int), true) := by
 have hl := addrT_len ha
 rw [spec_get _ (by omega) (by omega), parts_addr]
 simp only
 rw [num_dec (by omega), num_dec (n := a / 65536 % 256) (by omega), num_dec (n := a / 256 % 256) (by omega), num_dec (n := a % 256) (by omega), if_pos (by omega)]
 congr 2
 omega
theorem spec_no {l : List UInt8} (hl : l.length ≤ 1000000000) (hn : ∀ a < 4294967296, l ≠ addrT a) {k : Nat} (hk : l.length + 100 ≤ k) : spec_AddrGet.f k (tx l) = some (0, false) := by
 have hg := glue_parts 46 l
 rw [spec_get l hl hk]
 split
 ·rename_i A B C D hp
  rw [if_neg]
  rintro ⟨⟨a0, a1⟩, ⟨b0, b1⟩, ⟨c0, c1⟩, d0, d1⟩
  obtain ⟨n0, e0⟩ := Int.eq_ofNat_of_zero_le a0
  obtain ⟨n1, e1⟩ := Int.eq_ofNat_of_zero_le b0
  obtain ⟨n2, e2⟩ := Int.eq_ofNat_of_zero_le c0
  obtain ⟨n3, e3⟩ := Int.eq_ofNat_of_zero_le d0
  rw [hp, num_back e0, num_back e1, num_back e2, num_back e3, four_addr (by omega) (by omega) (by omega) (by omega)] at hg
  exact hn _ (by omega) hg.symm
 ·rfl
theorem or_b {x b : Int} (h0 : 0 ≤ x) (h1 : x < 1152921504606846976) (hx : x % 256 = 0) (b0 : 0 ≤ b) (b1 : b ≤ 255) : Go.bits .or .i64 x b = x + b :=
 bits_join .i64 60 (by decide) (fun n g0 g1 => by rw [IntKind.wrap_i64]; omega) 8 x b h0 (by omega) (by omega) b0 (by omega) (by omega)
theorem step_dec {acc n : Nat} (ha : acc ≤ 16777215) (hn : n ≤ 255) : stepA (acc : Int) (tx (dec n)) = some ((acc * 256 + n : Nat) : Int) := by
 unfold stepA
 rw [tx_data, atoi_dec (by omega)]
 simp only
 rw [if_pos (by omega), or_b (by omega) (by omega) (by omega) (by omega) (by omega)]
 congr 1
theorem fold_addr {a : Nat} (ha : a < 4294967296) : foldA 0 ((parts 46 (addrT a)).map tx) = some (a : Int) := by
 rw [parts_addr]
 have s0 := step_dec (acc := 0) (n := a / 16777216) (by omega) (by omega)
 have s1 := step_dec (acc := 0 * 256 + a / 16777216) (n := a / 65536 % 256) (by omega) (by omega)
 have s2 := step_dec (acc := (0 * 256 + a / 16777216) * 256 + a / 65536 % 256) (n := a / 256 % 256) (by omega) (by omega)
 have s3 := step_dec (acc := ((0 * 256 + a / 16777216) * 256 + a / 65536 % 256) * 256 + a / 256 % 256) (n := a % 256) (by omega) (by omega)
 show ((stepA ((0 : Nat) : Int) (tx (dec (a / 16777216)))).bind fun b => (stepA b (tx (dec (a / 65536 % 256)))).bind fun b => (stepA b (tx (dec (a / 256 % 256)))).bind fun b => (stepA b (tx (dec (a % 256)))).bind fun b => some b) = _
 rw [s0, Option.bind_some, s1, Option.bind_some, s2, Option.bind_some, s3, Option.bind_some]
 congr 1
 omega
theorem impl_yes {a : Nat} (ha : a < 4294967296) {k : Nat} (hk : 10 ≤ k) : impl_AddrGet.f k (tx (addrT a)) = some ((a : Int), true) := by
 have hl := addrT_len ha
 unfold impl_AddrGet.f addrGetF
 rw [tx_size, if_pos (by omega), tx_data, fold_addr ha]
 simp only
 rw [addrText_in ha hk, Option.bind_some]
 exact if_pos rfl
theorem tx_inj {x y : List UInt8} (h : tx x = tx y) : x = y := by rw [← tx_data x, h, tx_data]
theorem impl_no {l : List UInt8} (hl : l.length ≤ 1000000000) (hn : ∀ a < 4294967296, l ≠ addrT a) {k : Nat} (hk : 10 ≤ k) : impl_AddrGet.f k (tx l) = some (0, false) := by
 unfold impl_AddrGet.f addrGetF
 rw [tx_size, if_pos hl, tx_data]
 rcases hf : foldA 0 ((parts 46 l).map tx) with _ | a
 ·rfl
 ·simp only
  rw [addrText_impl a hk, Option.bind_some, if_neg]
  intro e
  by_cases h : 0 ≤ a ∧ a ≤ 4294967295
  ·rw [if_pos h] at e
   exact hn a.toNat (by omega) (tx_inj e).symm
  ·rw [if_neg h] at e
   have hnil : l = [] := (tx_inj e).symm
   rw [hnil] at hf
   have : stepA 0 (tx []) = none := by
    unfold stepA
    rw [tx_data]
    rfl
   change ((stepA 0 (tx [])).bind fun b => some b) = some a at hf
   rw [this] at hf
   cases hf
/-- A text is an address's, or it is none. -/
theorem addr_or (l : List UInt8) : (∃ a < 4294967296, l = addrT a) ∨ ∀ a < 4294967296, l ≠ addrT a := by
 by_cases h : ∃ a < 4294967296, l = addrT a
 ·exact .inl h
 ·exact .inr fun a ha e => h ⟨a, ha, e⟩
end Go.Proofs.YtgbdnbbfgcogjaaDoor.Tx

namespace Go.Proofs.YtgbdnbbfgcogjaaDoor.Tx
open Go.RowKit Go.Proofs.YtgbdnbbfgcogjaaDoor.Q Go.Proofs.YtgbdnbbfgcogjaaDoor.Open Go.Proofs.YtgbdnbbfgcogjaaDoor.Sq
theorem FnExactAddrGet_law : laws_FnExactAddrGet.Pure := by
 intro s _
 refine ⟨2000000, ?_⟩
 unfold laws_FnExactAddrGet.f
 by_cases h : (s.size : Int) > 1048576
 ·rw [if_pos h]
 ·rw [if_neg h]
  have hs := tx_of s
  have hl : s.data.toList.length = s.size := Array.length_toList
  generalize s.data.toList = l at hs hl
  subst hs
  rcases addr_or l with ⟨a, ha, rfl⟩ | hn
  ·rw [spec_yes ha (by omega), Option.bind_some, impl_yes ha (by omega), Option.bind_some]
   simp
  ·rw [spec_no (by omega) hn (by omega), Option.bind_some, impl_no (by omega) hn (by omega), Option.bind_some]
   simp
end Go.Proofs.YtgbdnbbfgcogjaaDoor.Tx
namespace Go.Proofs.YtgbdnbbfgcogjaaDoor.Pure
open Go.Proofs.YtgbdnbbfgcogjaaDoor.Q
theorem FnExactAddrGet : laws_FnExactAddrGet.Pure := Tx.FnExactAddrGet_law
end Go.Proofs.YtgbdnbbfgcogjaaDoor.Pure

namespace Go.Proofs.YtgbdnbbfgcogjaaDoor.Td
open Go.ChangeShapes Go.WideShapes Go.ChangeAt Go.RowKit
set_option maxRecDepth 100000 in
theorem door_met2 (os : Os) (args : Array Value) : laidMetH Tryd.prog Rows.fnExactAddrGetRow.laid ((World.laidAll Tryd.prog os Rows.fnExactAddrGetRow.laid).forCall (fun _ _ => 0) ⟨#[], args, []⟩).memory := by
 rw [MakeChecks.laidMetH_plain _ _ _ (by kernel_rfl)]
 exact laidMet_laidAll _ (by kernel_rfl) (by kernel_rfl)
theorem of_laid2 {W : World} (h : laidMetH Tryd.prog Rows.fnExactAddrGetRow.laid W) : Tb.T2 W := by
 rw [MakeChecks.laidMetH_plain _ _ _ (by kernel_rfl)] at h
 have h2 : laidMet Tryd.prog (("internal/strconv.uint64pow10", Rows.laid_internal_strconv_uint64pow10) :: Rows.fnExactAddrGetRow.laid.drop 3) W := h.tail.tail
 have h4 : laidMet Tryd.prog (("strconv.ErrRange", Rows.laid_strconv_ErrRange) :: Rows.fnExactAddrGetRow.laid.drop 5) W := h2.tail.tail
 have h5 : laidMet Tryd.prog (("strconv.ErrSyntax", Rows.laid_strconv_ErrSyntax) :: Rows.fnExactAddrGetRow.laid.drop 6) W := h4.tail
 have hrow : ∀ u, Tryd.prog.typeName? 3 u = some "*errors.errorString" → u = 133 := fun u hu => typeName_ptr_named (nm := "errors.errorString") (by kernel_rfl) (by kernel_rfl) (by decide) u hu
 refine ⟨Lib.tabIs_of_head (g := 3) (t := 124) (e := 110) (n := 20) (by kernel_rfl) (by kernel_rfl) (by kernel_rfl) (by kernel_rfl) (by kernel_rfl) (by kernel_rfl) h2, ?_, ?_⟩
 ·obtain ⟨a, s, hv, _⟩ := laid_sentinel (g := 0) (ti := 61) (tp := 133) (te := 135) (ts := 9) h5 (by kernel_rfl) (by kernel_rfl) Tryd.underlying61 hrow Tryd.underlying133 Tryd.underlying135 rfl rfl Tryd.underlying9 (by kernel_rfl) (by kernel_rfl)
  exact ⟨_, World.var?_cell (by kernel_rfl) hv 0, .inr ⟨_, _, rfl⟩⟩
 ·obtain ⟨a, s, hv, _⟩ := laid_sentinel (g := 1) (ti := 61) (tp := 133) (te := 135) (ts := 9) h4 (by kernel_rfl) (by kernel_rfl) Tryd.underlying61 hrow Tryd.underlying133 Tryd.underlying135 rfl rfl Tryd.underlying9 (by kernel_rfl) (by kernel_rfl)
  exact ⟨_, World.var?_cell (by kernel_rfl) hv 0, .inr ⟨_, _, rfl⟩⟩
end Go.Proofs.YtgbdnbbfgcogjaaDoor.Td

namespace Go.Proofs.YtgbdnbbfgcogjaaDoor.fnExactAddrGet
open Go.ChangeShapes Go.WideShapes Go.ChangeAt Go.RowKit Go.Proofs.YtgbdnbbfgcogjaaDoorW.PrintWords Go.Proofs.YtgbdnbbfgcogjaaDoor.Open Go.Proofs.YtgbdnbbfgcogjaaDoor.Q
open Go.ChangeMaps (open_string shut_string)
set_option linter.unusedVariables false
theorem own : ownKnob Tryd.prog.godebug = none := by kernel_rfl
theorem laidOut : laidOutB Tryd.prog = true := by kernel_rfl
set_option maxRecDepth 100000 in
theorem lifted (os : Os) (started : os.Started) (H : Type) (enc : TypeId × Value → H) :
  ReturnsInHanded {} Tryd.checked os 6 .any (fun w args => (Rows.fnExactAddrGetSpec.pre enc Tryd.prog Tryd.f6 [] false w args ∧ laidMetH Tryd.prog Rows.fnExactAddrGetRow.laid w) ∧ sizedMet enc Tryd.prog Tryd.f6 (OpenSpec.ofChange Rows.fnExactAddrGetSpec) false w args) (Rows.fnExactAddrGetSpec.post enc Tryd.prog Tryd.f6 false true false false) := by
 refine returnsInHanded_of_change_and (C := Tryd.checked) (X := (fun w _ => laidMetH Tryd.prog Rows.fnExactAddrGetRow.laid w)) (fun _ _ _ hh h => h.of_heap hh) own started (by kernel_rfl) Tryd.func6
  (ChangeSpec.witness_shaped (enc := enc) (C := Tryd.checked) (os := os) (X := (fun w _ => laidMetH Tryd.prog Rows.fnExactAddrGetRow.laid w)) false (World.laidAll Tryd.prog os Rows.fnExactAddrGetRow.laid) #[.string ByteArray.empty] 8 (World.laidAll_os _ _ _) (World.shaped_of_ZipB (by kernel_rfl) (by kernel_rfl)) (by kernel_rfl) (by kernel_rfl) (by kernel_rfl) (Td.door_met2 os _)) ?_
 intro W base args ds gs before hval0 hW _ _ hL _
 have hT := Td.of_laid2 hL
 have hval : ∀ (j : Nat) t v, Tryd.f6.params[j]? = some t → args[j]? = some v → Value.okWide Tryd.prog W .any base t v := hval0
 have hW' := hW
 obtain ⟨p, q, hA0, hV, rfl, hfz, hnd⟩ := hW
 have hA : DataW.TrodAll enc Tryd.prog W 0 (fun _ => true) true Tryd.f6.params.toList args.toList ds p := hA0
 rw [Tryd.params6] at hA hval
 obtain ⟨v0, vs0, d0, ds0, p0, q0, hargs, rfl, rfl, h0, r0⟩ := trodAll_cons hA
 obtain ⟨rfl, rfl, rfl⟩ := trodAll_nil r0
 obtain rfl : args = #[v0] := by cases args; simp_all
 obtain ⟨rfl, rfl⟩ := trodVars_none hV
 have lt0 : ∀ x ∈ p0, x.block < W.heap.size := by obtain ⟨m, hm⟩ := h0; exact DataW.trod_lt m _ _ _ hm
 have k0 := h0
 obtain ⟨x0, K0, w0⟩ := open_arg (op9 W) h0
 obtain rfl := string_of_cells (okWide_string Tryd.underlying9 (hval 0 9 v0 rfl rfl)) K0
 obtain ⟨k, hp⟩ := Pure.FnExactAddrGet x0 w0
 refine (laws_FnExactAddrGet.calls k x0 true W hT  hp).mono ?_
 rintro e W' ⟨rfl, bel0⟩
 have bel : Below W.heap.size W W' := bel0
 exact ⟨_, rfl, _, _, _, [], _, [], hW', trodAll_mk1 (shut_bool Tryd.underlying4 _), (trodAll_cons_mk (Below.trod laidOut (by kernel_rfl) (of_decide_eq_true (by kernel_rfl)) k0 bel lt0) trodAll_mk0), rfl, bel.frame _, fun h => by cases h⟩
theorem over : Rows.fnExactAddrGetRow.holds Tryd.pinned (OpenSpec.ofChange Rows.fnExactAddrGetSpec) :=
 OpenClaim.holds_of_wide 6 Tryd.f6 rfl rfl rfl rfl rfl rfl rfl ⟨rfl, rfl, rfl, rfl, rfl⟩ rfl rfl rfl rfl rfl (by kernel_rfl) Tryd.func6 (by kernel_rfl)
  (of_decide_eq_true (by kernel_rfl)) (by unfold Func.isWrapper; first | (rw [if_pos (by decide +kernel)]; kernel_rfl) | (rw [if_neg (by decide +kernel)]; exact ⟨rfl, rfl⟩))
  (fun os started H enc _ => lifted os started H enc)
theorem proved : Rows.FnExactAddrGetCardSaid :=
 Claim7.holds_tied_plain_at .later [] [.data, .data, .data, .data, .sentinel, .sentinel, .pinned] true (true, "97c8d26cae83a2f067d11ea8752188d9b630d7cf1ff1ddf7524d710d3f062912") true
  over (fun _ h => by cases h) (by kernel_rfl) (fun _ h => by cases h) fnExactAddrGet_row_tie rfl ⟨rfl, rfl⟩ (by kernel_rfl) rfl
  (fun f fn hf hfn => by
   obtain rfl : f = 6 := Option.some.inj ((show Tryd.prog.funcNamed "loop.example/overfare/laws.FnExactAddrGet" = some 6 by kernel_rfl).symm.trans hf) |>.symm
   obtain rfl : fn = Tryd.f6 := (Option.some.inj (Tryd.func6.symm.trans hfn)).symm
   exact ⟨by kernel_rfl, fun j t ht => by
    rw [Tryd.params6] at ht
    have hm : t ∈ [9] := by simpa using Array.mem_of_getElem? ht
    have hall : ([9].all fun u => !Tryd.prog.wantsStandIn u) = true := by kernel_rfl
    exact (show Tryd.prog.wantsStandIn t = false by simpa using List.all_eq_true.1 hall t hm)⟩)
  (by kernel_rfl)
#print axioms proved
end Go.Proofs.YtgbdnbbfgcogjaaDoor.fnExactAddrGet
namespace Go.Proofs.YtgbdnbbfgcogjaaDoor
/-- The row, under a short name, for the claim. -/
theorem fnExactAddrGet_holds : Rows.FnExactAddrGetCardSaid := fnExactAddrGet.proved
end Go.Proofs.YtgbdnbbfgcogjaaDoor
