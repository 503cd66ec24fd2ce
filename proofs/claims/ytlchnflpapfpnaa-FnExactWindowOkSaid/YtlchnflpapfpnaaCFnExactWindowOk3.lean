/- The law FnExactWindowOk (part 3 of 3): for every input the call answers true and its arguments read afterwards as before. No condition beyond the row's own. -/
import Derived.Test.YtlchnflpapfpnaaRows
import Derived.Test.YtlchnflpapfpnaaProg
import Derived.Below
import Derived.Deep.Draws
import Derived.Deep.AppendLies
import Derived.Maps.AppendAt
import Derived.OwnWalk
import Derived.Laws.BytesArg
import Derived.Laws.MakeOwn
import Derived.Laws.OwnMore
import Derived.Deep.OwnRows
import Derived.Tactics
import Derived.Lib.ConvBytes
import Derived.Laws.Slices
import Derived.WalkKit
import Derived.KernelRfl
import Derived.RowKit3
import Derived.Deep.LoopGhost
import Derived.Deep.QuietTactic
import Derived.BigQuiet
import Derived.WideLaws
import Derived.Deep.DeepCutAuto
import Derived.Deep.CutBlock
import Derived.Deep.RegionHeld3
import Derived.Laws.Rows
import Derived.Lib.AppendStr
import Derived.ArgAppend
import Derived.Laws.IdiomCopy
import Derived.OrdersHeld
import Derived.Laws.BitsLemmas
import Derived.RowKit
import Derived.Test.YtlchnflpapfpnaaWWords
import Derived.Test.YtlchnflpapfpnaaWLast
import Derived.Test.YtlchnflpapfpnaaWTab
import Derived.Test.YtlchnflpapfpnaaWFour
import Derived.Test.YtlchnflpapfpnaaWQPut
import Derived.Test.YtlchnflpapfpnaaWApart
import Derived.Test.YtlchnflpapfpnaaWArr
import Derived.Test.YtlchnflpapfpnaaWZeros
import Derived.Test.YtlchnflpapfpnaaWFoot
import Derived.Test.YtlchnflpapfpnaaWKept
import Derived.Test.YtlchnflpapfpnaaWShare
import Derived.Test.YtlchnflpapfpnaaWN
import Derived.Test.YtlchnflpapfpnaaWFootNe
import Derived.Test.YtlchnflpapfpnaaWAt
import Derived.Test.YtlchnflpapfpnaaWEqStruct
import Derived.Test.YtlchnflpapfpnaaWRepsOne
import Derived.Test.YtlchnflpapfpnaaWInv
import Derived.Test.YtlchnflpapfpnaaWInvWords
import Derived.Test.YtlchnflpapfpnaaWGuard
import Derived.Test.YtlchnflpapfpnaaWNEv
import Derived.Test.YtlchnflpapfpnaaWMore
import Derived.Deep.Slices
import Derived.Deep.Fields
import Derived.ChangeSame
import Derived.ProofKit
import Derived.WideShapes
import Derived.OpenShut
import Derived.ShutString
import Derived.ChangeOld
import Derived.SizedLaws
import Derived.Test.YtlchnflpapfpnaaCFnExactWindowOk2
/- Replay windows and security associations: the program and the reference say the same. Conditions: those in each statement. -/
namespace Go.Proofs.Ytlchnflpapfpnaa.Pure
set_option linter.unusedSimpArgs false
open Go.RowKit Go.Proofs.Ytlchnflpapfpnaa.Q Go.Proofs.YtlchnflpapfpnaaW.PrintWords Go.Proofs.YtlchnflpapfpnaaW.PrintLast Go.Proofs.YtlchnflpapfpnaaW.PrintMore
theorem win_l (top : Int) (l : List Int) (hl : l.length ≤ 35184372088832) : ∀ (d i : Nat), l.length - i = d → i ≤ l.length → l.length ≠ 0 →
    ∃ b, ∀ k, d < k → spec_WindowOk.l0 k (l.length : Int) i top l = some b ∧ impl_WindowOk.l0 k l (l.length : Int) i top l = some b := by
  intro d
  induction d with
  | zero =>
    intro i hd hi hn
    have hk1 : ∀ k, 0 < k → ∃ m, k = m + 1 := fun k hk => ⟨k - 1, by omega⟩
    have hge : ¬ (i : Int) < (l.length : Int) := by omega
    have e : wrap64 ((l.length : Int) - 1) = (l.length : Int) - 1 := w64 (by omega) (by omega)
    have h1 : 0 ≤ (l.length : Int) - 1 := by omega
    have h2 : (l.length : Int) - 1 < (l.length : Int) := by omega
    refine ⟨if rd l ((l.length : Int) - 1) = top then decide (top ≤ 1000000) else false, fun k hk => ?_⟩
    obtain ⟨k, rfl⟩ := hk1 k hk
    simp only [spec_WindowOk.l0, impl_WindowOk.l0, if_neg hge, e, if_pos h1, if_pos h2]
    split <;> exact ⟨rfl, rfl⟩
  | succ d ih =>
    intro i hd hi hn
    have hlt : (i : Int) < (l.length : Int) := by omega
    have h0 : 0 ≤ (i : Int) := by omega
    obtain ⟨b, hb⟩ := ih (i + 1) (by omega) (by omega) hn
    have e1 : wrap64 ((i : Int) + 1) = ((i + 1 : Nat) : Int) := by rw [w64 (by omega) (by omega)]; omega
    have e2 : wrap64 ((i : Int) - 1) = (i : Int) - 1 := w64 (by omega) (by omega)
    have key : ∀ k, d + 1 < k → ∃ m, k = m + 1 ∧ d < m := fun k hk => ⟨k - 1, by omega, by omega⟩
    by_cases c1 : rd l i ≤ wrap64 (top - 16)
    · refine ⟨false, fun k hk => ?_⟩
      obtain ⟨k, rfl, hk'⟩ := key k hk
      simp only [spec_WindowOk.l0, impl_WindowOk.l0, if_pos hlt, if_pos h0, if_pos c1]
      simp
    · by_cases c2 : rd l i < 1
      · refine ⟨false, fun k hk => ?_⟩
        obtain ⟨k, rfl, hk'⟩ := key k hk
        simp only [spec_WindowOk.l0, impl_WindowOk.l0, if_pos hlt, if_pos h0, if_neg c1, if_pos c2]
        simp
      · by_cases c3 : (i : Int) > 0
        · have h3 : 0 ≤ (i : Int) - 1 := by omega
          have h4 : (i : Int) - 1 < (l.length : Int) := by omega
          by_cases c4 : rd l ((i : Int) - 1) ≥ rd l i
          · have c5 : rd l i ≤ rd l ((i : Int) - 1) := c4
            refine ⟨false, fun k hk => ?_⟩
            obtain ⟨k, rfl, hk'⟩ := key k hk
            simp only [spec_WindowOk.l0, impl_WindowOk.l0, if_pos hlt, if_pos h0, if_neg c1, if_neg c2, if_pos c3, e2, if_pos h3, if_pos h4, if_pos c4, if_pos c5]
            simp
          · have c5 : ¬ rd l i ≤ rd l ((i : Int) - 1) := c4
            refine ⟨b, fun k hk => ?_⟩
            obtain ⟨k, rfl, hk'⟩ := key k hk
            simp only [spec_WindowOk.l0, impl_WindowOk.l0, if_pos hlt, if_pos h0, if_neg c1, if_neg c2, if_pos c3, e2, if_pos h3, if_pos h4, if_neg c4, if_neg c5, e1]
            exact hb k hk'
        · refine ⟨b, fun k hk => ?_⟩
          obtain ⟨k, rfl, hk'⟩ := key k hk
          simp only [spec_WindowOk.l0, impl_WindowOk.l0, if_pos hlt, if_pos h0, if_neg c1, if_neg c2, if_neg c3, e1]
          exact hb k hk'
theorem win_ev (top : Int) (l : List Int) (hl : l.length ≤ 35184372088832) : ∃ b, ∀ k, l.length < k → spec_WindowOk.f k top l = some b ∧ impl_WindowOk.f k top l = some b := by
  unfold spec_WindowOk.f impl_WindowOk.f
  by_cases h : l.length = 0
  · exact ⟨top == 0, fun k _ => by rw [if_pos (by omega), if_pos (by omega)]; exact ⟨rfl, rfl⟩⟩
  · obtain ⟨b, hb⟩ := win_l top l hl l.length 0 (by omega) (by omega) h
    exact ⟨b, fun k hk => by rw [if_neg (by omega), if_neg (by omega)]; exact hb k hk⟩
theorem szWindow_ev (top : Int) (l : List Int) (left : Int) (hl : l.length ≤ 9223372036854775807) (h0 : 0 ≤ left) (h1 : left ≤ 1048576) :
    laws_szWindow.f top l left = some (if left - l.length < 0 then -1 else left - l.length) := by
  unfold laws_szWindow.f laws_szIntS.f
  rw [w64 (by omega) (by omega)]
  by_cases h : left - (l.length : Int) < 0
  · rw [if_pos h, Option.bind_some, if_pos (by omega), if_pos h]
  · rw [if_neg h, Option.bind_some, if_neg (by omega), if_neg h]
theorem toWindow_ev {top : Int} {l : List Int} {k : Nat} (hl : l.length ≤ 35184372088832) (hk : l.length < k) : laws_toWindow.f k top l = some (top, l) := by
  unfold laws_toWindow.f
  rw [toIntS_ev hl hk, Option.bind_some]
theorem eqWindow_ev {top : Int} {l : List Int} {k : Nat} (hl : l.length ≤ 35184372088832) (hk : l.length < k) : laws_eqWindow.f k top l top l = some true := by
  unfold laws_eqWindow.f
  rw [if_pos rfl, eqIntS_ev hl hk, Option.bind_some, if_pos rfl]
theorem saok_ev (a0 a1 : Int) (a2 a3 : ByteArray) (a4 a5 a6 a7 a8 a9 : Int) (l : List Int) (hl : l.length ≤ 35184372088832) :
    ∃ b, ∀ k, l.length + 1 < k → spec_SaOk.f k a0 a1 a2 a3 a4 a5 a6 a7 a8 a9 l = some b ∧ impl_SaOk.f k a0 a1 a2 a3 a4 a5 a6 a7 a8 a9 l = some b := by
  obtain ⟨b, hb⟩ := win_ev a9 l hl
  refine ⟨decide (1 ≤ a0 ∧ a0 ≤ 999) && (decide (0 ≤ a1 ∧ a1 ≤ 3) && ((decide (a2.size = 16) && decide (1 ≤ (a3.size : Int) ∧ (a3.size : Int) ≤ 64)) && (decide (0 ≤ a4 ∧ a4 ≤ 1000000) && (decide (1 ≤ a5 ∧ a5 ≤ a6) && (decide (1 ≤ a6 ∧ a6 ≤ 1000000) && (decide (1 ≤ a7 ∧ a7 ≤ 1000000) && (decide (0 ≤ a8 ∧ a8 ≤ a6) && b))))))), fun k hk => ?_⟩
  obtain ⟨k, rfl⟩ : ∃ m, k = m + 1 := ⟨k - 1, by omega⟩
  have h1 := (hb (k + 1) (by omega)).1
  have h2 := (hb k (by omega)).2
  have e1 : spec_l8Keys.f a2 a3 = some (decide (a2.size = 16) && decide (1 ≤ (a3.size : Int) ∧ (a3.size : Int) ≤ 64)) := by
    unfold spec_l8Keys.f
    by_cases h : a2.size = 16
    · rw [if_pos (by omega), in_spec, Option.bind_some]
      simp [h]
    · rw [if_neg (by omega)]
      simp [h]
  have e2 : impl_keysOk.f a2 a3 = some (decide (a2.size = 16) && decide (1 ≤ (a3.size : Int) ∧ (a3.size : Int) ≤ 64)) := by
    unfold impl_keysOk.f
    by_cases h : a2.size = 16
    · rw [if_pos (by omega), in_impl, Option.bind_some]
      simp [h]
    · rw [if_neg (by omega)]
      simp [h]
  unfold spec_SaOk.f impl_SaOk.f
  simp only [impl_SaOk.j0, in_spec, in_impl, e1, e2, h1, h2, Option.bind_some]
  generalize decide (1 ≤ a0 ∧ a0 ≤ 999) = b0
  generalize decide (0 ≤ a1 ∧ a1 ≤ 3) = b1
  generalize (decide (a2.size = 16) && decide (1 ≤ (a3.size : Int) ∧ (a3.size : Int) ≤ 64)) = b2
  generalize decide (0 ≤ a4 ∧ a4 ≤ 1000000) = b4
  generalize decide (1 ≤ a5 ∧ a5 ≤ a6) = b5
  generalize decide (1 ≤ a6 ∧ a6 ≤ 1000000) = b6
  generalize decide (1 ≤ a7 ∧ a7 ≤ 1000000) = b7
  generalize decide (0 ≤ a8 ∧ a8 ≤ a6) = b8
  cases b0 <;> cases b1 <;> cases b2 <;> cases b4 <;> cases b5 <;> cases b6 <;> cases b7 <;> cases b8 <;> exact ⟨rfl, rfl⟩
theorem szSa_ev (a0 a1 : Int) (a2 a3 : ByteArray) (a4 a5 a6 a7 a8 a9 : Int) (l : List Int) (h2 : a2.size ≤ 9223372036854775807) (h3 : a3.size ≤ 9223372036854775807) (hl : l.length ≤ 9223372036854775807) :
    ∃ r, laws_szSa.f a0 a1 a2 a3 a4 a5 a6 a7 a8 a9 l 1048576 = some r ∧ (¬ r < 0 → l.length ≤ 1048576) := by
  unfold laws_szSa.f
  rw [w64 (x := 1048576 - (a2.size : Int)) (by omega) (by omega)]
  by_cases c1 : 1048576 - (a2.size : Int) < 0
  · rw [if_pos c1]; exact ⟨-1, rfl, by omega⟩
  · rw [if_neg c1, w64 (x := 1048576 - (a2.size : Int) - (a3.size : Int)) (by omega) (by omega)]
    by_cases c2 : 1048576 - (a2.size : Int) - (a3.size : Int) < 0
    · rw [if_pos c2]; exact ⟨-1, rfl, by omega⟩
    · rw [if_neg c2, szWindow_ev _ _ _ hl (by omega) (by omega), Option.bind_some]
      by_cases c3 : 1048576 - (a2.size : Int) - (a3.size : Int) - (l.length : Int) < 0
      · rw [if_pos c3]; exact ⟨-1, rfl, by omega⟩
      · rw [if_neg c3]; exact ⟨_, if_neg c3, fun _ => by omega⟩
theorem toSa_ev {a0 a1 : Int} {a2 a3 : ByteArray} {a4 a5 a6 a7 a8 a9 : Int} {l : List Int} {k : Nat} (hl : l.length ≤ 35184372088832) (hk : l.length < k) :
    laws_toSa.f k a0 a1 a2 a3 a4 a5 a6 a7 a8 a9 l = some (a0, a1, a2, a3, a4, a5, a6, a7, a8, a9, l) := by
  unfold laws_toSa.f
  rw [toWindow_ev hl hk, Option.bind_some]
theorem eqSa_ev {a0 a1 : Int} {a2 a3 : ByteArray} {a4 a5 a6 a7 a8 a9 : Int} {l : List Int} {k : Nat} (hl : l.length ≤ 35184372088832) (hk : l.length < k) :
    laws_eqSa.f k a0 a1 a2 a3 a4 a5 a6 a7 a8 a9 l a0 a1 a2 a3 a4 a5 a6 a7 a8 a9 l = some true := by
  unfold laws_eqSa.f
  simp only [if_true, eqWindow_ev hl hk, Option.bind_some]
end Go.Proofs.Ytlchnflpapfpnaa.Pure

/- The pure law behind FnExactWindowOk: the two sides compute the same. No condition beyond the ranges of the numbers and lengths. -/
namespace Go.Proofs.Ytlchnflpapfpnaa.Pure
open Go.RowKit Go.Proofs.Ytlchnflpapfpnaa.Q Go.Proofs.Ytlchnflpapfpnaa.Open Go.Proofs.YtlchnflpapfpnaaW.PrintWords Go.Proofs.YtlchnflpapfpnaaW.PrintLast Go.Proofs.YtlchnflpapfpnaaW.PrintMore
theorem FnExactWindowOk : laws_FnExactWindowOk.Pure := by
  intro x hx
  refine ⟨1048600, ?_⟩
  unfold laws_FnExactWindowOk.f
  rw [szWindow_ev _ _ _ hx.2.1 (by omega) (by omega), Option.bind_some]
  by_cases h : (1048576 : Int) - x.f1.length < 0
  · rw [if_pos (by rw [if_pos h]; omega)]
  · rw [if_neg (by rw [if_neg h]; exact h)]
    obtain ⟨b, hb⟩ := win_ev x.f0 x.f1 (by omega)
    obtain ⟨h1, h2⟩ := hb 1048600 (by omega)
    rw [toWindow_ev (by omega) (by omega)]
    simp only [Option.bind_some, h1, h2, bne_self_eq_false, Bool.false_eq_true, if_false]
    rw [eqWindow_ev (by omega) (by omega), Option.bind_some, if_pos rfl]
end Go.Proofs.Ytlchnflpapfpnaa.Pure

/- The law FnExactWindowOk answers true for every input, and its arguments read afterwards as before. No condition beyond the row's own. -/
namespace Go.Proofs.Ytlchnflpapfpnaa.fnExactWindowOk
open Go.ChangeShapes Go.WideShapes Go.ChangeAt Go.RowKit Go.Proofs.YtlchnflpapfpnaaW.PrintWords Go.Proofs.Ytlchnflpapfpnaa.Open Go.Proofs.Ytlchnflpapfpnaa.Q
open Go.ChangeMaps (open_string shut_string)
set_option linter.unusedVariables false
theorem own : ownKnob Try.prog.godebug = none := by kernel_rfl
theorem laidOut : laidOutB Try.prog = true := by kernel_rfl
set_option maxRecDepth 100000 in
theorem lifted (os : Os) (started : os.Started) (H : Type) (enc : TypeId × Value → H) :
    ReturnsInHanded {} Try.checked os 5 .any (Rows.fnExactWindowOkSpec.pre6 enc Try.prog Try.f5 Rows.fnExactWindowOkRow.domain false) (Rows.fnExactWindowOkSpec.post enc Try.prog Try.f5 false true false false) := by
  refine returnsInHanded_of_change_sized (C := Try.checked) own started (by kernel_rfl) Try.func5
    (ChangeSpec.witness6 (enc := enc) (C := Try.checked) false ⟨#[], #[.agg #[.int .i64 0, .slice none 0 0]], []⟩ 8 (by kernel_rfl) (by kernel_rfl) (by kernel_rfl) (by kernel_rfl)) ?_
  intro W base args ds gs before hval0 hW hcnd hsz0 _
  have hval : ∀ (j : Nat) t v, Try.f5.params[j]? = some t → args[j]? = some v → Value.okWide Try.prog W .any base t v := hval0
  have hW' := hW
  obtain ⟨p, q, hA0, hV, rfl, hfz, hnd⟩ := hW
  have hA : DataW.TrodAll enc Try.prog W 0 (fun _ => true) true Try.f5.params.toList args.toList ds p := hA0
  rw [Try.params5] at hA hval
  obtain ⟨v0, vs0, d0, ds0, p0, q0, hargs, rfl, rfl, h0, r0⟩ := trodAll_cons hA
  obtain ⟨rfl, rfl, rfl⟩ := trodAll_nil r0
  obtain rfl : args = #[v0] := by cases args; simp_all
  obtain ⟨rfl, rfl⟩ := trodVars_none hV
  have lt0 : ∀ x ∈ p0, x.block < W.heap.size := by obtain ⟨m, hm⟩ := h0; exact DataW.trod_lt m _ _ _ hm
  have k0 := h0
  obtain ⟨x0, K0, w0⟩ := open_arg (op35 W) h0
  obtain ⟨cs0, rfl, sz0⟩ := okWide_struct Try.underlying35 (hval 0 35 v0 rfl rfl)
  obtain ⟨A0_1, c0_1, e0, hc0_1, hr0_1⟩ := k35_open K0
  obtain rfl := agg_of_cells e0
  obtain ⟨k, hp⟩ := Pure.FnExactWindowOk x0 w0
  refine (laws_FnExactWindowOk.calls k x0.f0 A0_1 c0_1 x0.f1 true W hr0_1 hc0_1 hp).mono ?_
  rintro e W' ⟨rfl, bel0⟩
  have bel : Below W.heap.size W W' := bel0
  exact ⟨_, rfl, _, _, _, [], _, [], hW', trodAll_mk1 (shut_bool Try.underlying4 _), (trodAll_cons_mk (Below.trod laidOut (by kernel_rfl) (of_decide_eq_true (by kernel_rfl)) k0 bel lt0) trodAll_mk0), rfl, bel.frame _, fun h => by cases h⟩
theorem over : Rows.fnExactWindowOkRow.holds Try.pinned (OpenSpec.ofChange Rows.fnExactWindowOkSpec) :=
  OpenClaim.holds_of_wide 5 Try.f5 rfl rfl rfl rfl rfl rfl rfl ⟨rfl, rfl, rfl, rfl, rfl⟩ rfl rfl rfl rfl rfl (by kernel_rfl) Try.func5 (by kernel_rfl)
    (of_decide_eq_true (by kernel_rfl)) (by unfold Func.isWrapper; first | (rw [if_pos (by decide +kernel)]; kernel_rfl) | (rw [if_neg (by decide +kernel)]; exact ⟨rfl, rfl⟩))
    (fun os started H enc _ => lifted os started H enc)
theorem proved : Rows.FnExactWindowOkSaid := over
#print axioms proved
end Go.Proofs.Ytlchnflpapfpnaa.fnExactWindowOk
namespace Go.Proofs.Ytlchnflpapfpnaa
/-- The row, under a short name, for the claim. -/
theorem fnExactWindowOk_holds : Rows.FnExactWindowOkSaid := fnExactWindowOk.proved
end Go.Proofs.Ytlchnflpapfpnaa
