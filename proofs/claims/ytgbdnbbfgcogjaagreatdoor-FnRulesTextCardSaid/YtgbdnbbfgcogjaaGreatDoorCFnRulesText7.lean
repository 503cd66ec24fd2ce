/- The law FnRulesText (part 7 of 7): for every input the call answers true and its arguments read afterwards as before. No condition beyond the row's own. -/
import Derived.Test.YtgbdnbbfgcogjaaGreatDoorTie
import Derived.ProofKit
import Derived.Handed
import Derived.HandedShaped
import Derived.Shelf.Vars
import Derived.LaidMore
import Derived.Lay
import Derived.OpenShut
import Derived.Stop.Joined
import Derived.Stop.LaidErr
import Derived.Test.YtgbdnbbfgcogjaaGreatDoorRows
import Derived.WalkKit
import Derived.ShutString
import Derived.ChangeOld
import Derived.Below
import Derived.SizedLaws
import Derived.Test.YtgbdnbbfgcogjaaGreatDoorCards
import Derived.SevenTiedAt
import Derived.Test.YtgbdnbbfgcogjaaGreatDoorCFnRulesText6
namespace Go.Proofs.YtgbdnbbfgcogjaaGreatDoor.Td
open Go.ChangeShapes Go.WideShapes Go.ChangeAt Go.RowKit
/-- A row's wrap that hands on both what the row lists and the world's shape. -/
theorem wrap3 {H : Type} {enc : TypeId × Value → H} {a : Assume} {C : Checked} {os : Os} {f : FuncId} {fn : Func} {s : ChangeSpec} {conds : List PathCond} {apart fresh handsOn again : Bool} {X : World → Array Value → Prop}
  (hX : ∀ (w w' : World) (args : Array Value),w.heap = w'.heap → X w args → X w' args)
  (own : ownKnob C.prog.godebug = none) (started : os.Started) (noInit : C.prog.inits.idxOf? f = none) (hfn : C.prog.funcs[f]? = some fn)
  (witness : ∃ (w : World) (tape : Tape) (i : Input),w.os = os ∧ (w.forCall tape i).Shaped C.prog ∧ i.vars = [] ∧ Input.okWide C.prog (w.forCall tape i) .any w.heap.size f i ∧
   ((s.pre enc C.prog fn conds apart (w.forCall tape i).memory i.args ∧ X (w.forCall tape i).memory i.args) ∧ sizedMet enc C.prog fn (OpenSpec.ofChange s) apart (w.forCall tape i).memory i.args) ∧ a.holds C.prog (lone (Frame.enter C.prog f i.args .normal) [] (w.forCall tape i)))
  (contract : ∀ (W : World) (base : Nat) (args : Array Value) (ds gs : List (DataW H)) (before : List MemPlace),
   (∀ (j : Nat) t v,fn.params[j]? = some t → args[j]? = some v → Value.okWide C.prog W .any base t v) →
   DataW.Whole enc C.prog fn.params.toList s.vars apart W args.toList ds gs before →
   W.ShapedOpen C.prog → X W args →
   Calls C.prog f args W fun e W' => ∃ v,e = .returned v ∧ s.post enc C.prog fn apart fresh handsOn again W args v W') :
  ReturnsInHanded a C os f .any (fun w args => (s.pre enc C.prog fn conds apart w args ∧ X w args) ∧ sizedMet enc C.prog fn (OpenSpec.ofChange s) apart w args) (s.post enc C.prog fn apart fresh handsOn again):=by
 refine returnsInHanded_of_calls own started noInit witness ?_
 intro w tape i _ hsh _ hok hpre _
 obtain ⟨_,_,_,fn',hfn',_,_,_,_,hval⟩:=hok
 obtain rfl : fn' = fn:=Option.some.inj (hfn'.symm.trans hfn)
 obtain ⟨⟨⟨ds,gs,before,hw,_⟩,hx⟩,_⟩:=hpre
 refine (contract (w.forCall tape i) w.heap.size i.args ds gs before hval (DataW.Whole.of_heap (w':=w.forCall tape i) (by rfl) hw) hsh (hX _ _ _ (by rfl) hx)).mono fun e W' ⟨v,he,hp⟩ => ?_
 subst he
 exact ChangeSpec.post_blind hp
set_option maxRecDepth 100000 in
theorem door_met3 (os : Os) (args : Array Value) : laidMetH Tryz.prog Rows.fnExactRulesGetRow.laid ((World.laidAll Tryz.prog os Rows.fnExactRulesGetRow.laid).forCall (fun _ _ => 0) ⟨#[],args,[]⟩).memory:=by
 rw [MakeChecks.laidMetH_plain _ _ _ (by kernel_rfl)]
 exact laidMet_laidAll _ (by kernel_rfl) (by kernel_rfl)
theorem of_laid3 {W : World} (h : laidMetH Tryz.prog Rows.fnExactRulesGetRow.laid W) (hs : W.ShapedOpen Tryz.prog) : Tb.T3 W:=by
 rw [MakeChecks.laidMetH_plain _ _ _ (by kernel_rfl)] at h
 have h2 : laidMet Tryz.prog (("internal/strconv.uint64pow10", Rows.laid_internal_strconv_uint64pow10) :: Rows.fnExactRulesGetRow.laid.drop 3) W:=h.tail.tail
 have h4 : laidMet Tryz.prog (("strconv.ErrRange", Rows.laid_strconv_ErrRange) :: Rows.fnExactRulesGetRow.laid.drop 5) W:=h2.tail.tail
 have h5 : laidMet Tryz.prog (("strconv.ErrSyntax", Rows.laid_strconv_ErrSyntax) :: Rows.fnExactRulesGetRow.laid.drop 6) W:=h4.tail
 have hrow : ∀ u,Tryz.prog.typeName? 3 u = some "*errors.errorString" → u = 138:=fun u hu => typeName_ptr_named (nm := "errors.errorString") (by kernel_rfl) (by kernel_rfl) (by decide) u hu
 refine ⟨⟨Lib.tabIs_of_head (g:=3) (t:=127) (e:=113) (n:=20) (by kernel_rfl) (by kernel_rfl) (by kernel_rfl) (by kernel_rfl) (by kernel_rfl) (by kernel_rfl) h2,?_,?_⟩,?_⟩
 ·obtain ⟨a,s,hv,_⟩:=laid_sentinel (g:=1) (ti:=57) (tp:=138) (te:=140) (ts:=9) h5 (by kernel_rfl) (by kernel_rfl) Tryz.underlying57 hrow Tryz.underlying138 Tryz.underlying140 rfl rfl Tryz.underlying9 (by kernel_rfl) (by kernel_rfl)
  exact ⟨_,World.var?_cell (by kernel_rfl) hv 0,.inr ⟨_,_,rfl⟩⟩
 ·obtain ⟨a,s,hv,_⟩:=laid_sentinel (g:=2) (ti:=57) (tp:=138) (te:=140) (ts:=9) h4 (by kernel_rfl) (by kernel_rfl) Tryz.underlying57 hrow Tryz.underlying138 Tryz.underlying140 rfl rfl Tryz.underlying9 (by kernel_rfl) (by kernel_rfl)
  exact ⟨_,World.var?_cell (by kernel_rfl) hv 0,.inr ⟨_,_,rfl⟩⟩
 ·exact cell_of_shapedOpen_int (zero:=#[.int .i64 0]) (t:=3) hs (of_decide_eq_true (by kernel_rfl)) (by kernel_rfl) rfl (by kernel_rfl) (by kernel_rfl) Tryz.underlying3
end Go.Proofs.YtgbdnbbfgcogjaaGreatDoor.Td

namespace Go.Proofs.YtgbdnbbfgcogjaaGreatDoor.fnRulesText
open Go.ChangeShapes Go.WideShapes Go.ChangeAt Go.RowKit Go.Proofs.YtgbdnbbfgcogjaaGreatDoorW.PrintWords Go.Proofs.YtgbdnbbfgcogjaaGreatDoor.Open Go.Proofs.YtgbdnbbfgcogjaaGreatDoor.Q
open Go.ChangeMaps (open_string shut_string)
set_option linter.unusedVariables false
theorem own : ownKnob Tryz.prog.godebug = none:=by kernel_rfl
theorem laidOut : laidOutB Tryz.prog = true:=by kernel_rfl
set_option maxRecDepth 100000 in
theorem lifted (os : Os) (started : os.Started) (H : Type) (enc : TypeId × Value → H) :
  ReturnsInHanded {} Tryz.checked os 4 .any (fun w args => (Rows.fnRulesTextSpec.pre enc Tryz.prog Tryz.f4 [] false w args ∧ laidMetH Tryz.prog Rows.fnRulesTextRow.laid w) ∧ sizedMet enc Tryz.prog Tryz.f4 (OpenSpec.ofChange Rows.fnRulesTextSpec) false w args) (Rows.fnRulesTextSpec.post enc Tryz.prog Tryz.f4 false true false false):=by
 refine Td.wrap3 (C:=Tryz.checked) (X:=(fun w _ => laidMetH Tryz.prog Rows.fnRulesTextRow.laid w)) (fun _ _ _ hh h => h.of_heap hh) own started (by kernel_rfl) Tryz.func4
  (ChangeSpec.witness_shaped (enc:=enc) (C:=Tryz.checked) (os:=os) (X:=(fun w _ => laidMetH Tryz.prog Rows.fnRulesTextRow.laid w)) false (World.laidAll Tryz.prog os Rows.fnRulesTextRow.laid) #[.slice none 0 0,.slice none 0 0] 8 (World.laidAll_os _ _ _) (World.shaped_of_ZipB (by kernel_rfl) (by kernel_rfl)) (by kernel_rfl) (by kernel_rfl) (by kernel_rfl) (Td.door_met3 os _)) ?_
 intro W base args ds gs before hval0 hW hSh hL
 have hT:=Td.of_laid3 hL hSh
 have hval : ∀ (j : Nat) t v,Tryz.f4.params[j]? = some t → args[j]? = some v → Value.okWide Tryz.prog W .any base t v:=hval0
 have hW':=hW
 obtain ⟨p,q,hA0,hV,rfl,hfz,hnd⟩:=hW
 have hA : DataW.TrodAll enc Tryz.prog W 0 (fun _ => true) true Tryz.f4.params.toList args.toList ds p:=hA0
 rw [Tryz.params4] at hA hval
 obtain ⟨v0,vs0,d0,ds0,p0,q0,hargs,rfl,rfl,h0,r0⟩:=trodAll_cons hA
 obtain ⟨v1,vs1,d1,ds1,p1,q1,rfl,rfl,rfl,h1,r1⟩:=trodAll_cons r0
 obtain ⟨rfl,rfl,rfl⟩:=trodAll_nil r1
 obtain rfl : args = #[v0,v1]:=by cases args;simp_all
 obtain ⟨rfl,rfl⟩:=trodVars_none hV
 have lt0 : ∀ x ∈ p0,x.block < W.heap.size:=by obtain ⟨m,hm⟩:=h0;exact DataW.trod_lt m _ _ _ hm
 have k0:=h0
 obtain ⟨x0,K0,w0⟩:=open_arg (op28 W) h0
 obtain ⟨aa0,len0,cap0,rfl⟩:=okWide_slice Tryz.underlying28 (hval 0 28 v0 rfl rfl)
 obtain ⟨A0,c0,e0,hc0,hr0⟩:=K0
 obtain ⟨rfl,rfl,rfl⟩:=slice_of_cells e0
 have lt1 : ∀ x ∈ p1,x.block < W.heap.size:=by obtain ⟨m,hm⟩:=h1;exact DataW.trod_lt m _ _ _ hm
 have k1:=h1
 obtain ⟨x1,K1,w1⟩:=open_arg (op28 W) h1
 obtain ⟨aa1,len1,cap1,rfl⟩:=okWide_slice Tryz.underlying28 (hval 1 28 v1 rfl rfl)
 obtain ⟨A1,c1,e1,hc1,hr1⟩:=K1
 obtain ⟨rfl,rfl,rfl⟩:=slice_of_cells e1
 obtain ⟨k,hp⟩:=Pure.FnRulesText x0 x1 w0 w1
 refine (laws_FnRulesText.calls k _ _ x0 _ _ x1 true W hT hr0 hc0 hr1 hc1 hp).mono ?_
 rintro e W' ⟨rfl,bel0⟩
 have bel : Below W.heap.size W W':=bel0
 exact ⟨_,rfl,_,_,_,[],_,[],hW',trodAll_mk1 (shut_bool Tryz.underlying4 _),(trodAll_cons_mk (Below.trod laidOut (by kernel_rfl) (of_decide_eq_true (by kernel_rfl)) k0 bel lt0) (trodAll_cons_mk (Below.trod laidOut (by kernel_rfl) (of_decide_eq_true (by kernel_rfl)) k1 bel lt1) trodAll_mk0)),rfl,bel.frame _,fun h => by cases h⟩
theorem over : Rows.fnRulesTextRow.holds Tryz.pinned (OpenSpec.ofChange Rows.fnRulesTextSpec) :=
 OpenClaim.holds_of_wide 4 Tryz.f4 rfl rfl rfl rfl rfl rfl rfl ⟨rfl,rfl,rfl,rfl,rfl⟩ rfl rfl rfl rfl rfl (by kernel_rfl) Tryz.func4 (by kernel_rfl)
  (of_decide_eq_true (by kernel_rfl)) (by unfold Func.isWrapper;first|(rw [if_pos (by decide +kernel)];kernel_rfl)|(rw [if_neg (by decide +kernel)];exact ⟨rfl,rfl⟩))
  (fun os started H enc _ => lifted os started H enc)
theorem proved : Rows.FnRulesTextCardSaid :=
 Claim7.holds_tied_plain_at .later [] [.data,.data,.data,.data,.sentinel,.sentinel,.pinned] true (true, "f61e80bd2dfc30d34aa1dbb9d57781174b895e6ee703e121d0ea6ea454929872") true
  over (fun _ h => by cases h) (by kernel_rfl) (fun _ h => by cases h) fnRulesText_row_tie rfl ⟨rfl,rfl⟩ (by kernel_rfl) rfl
  (fun f fn hf hfn => by
   obtain rfl : f = 4:=Option.some.inj ((show Tryz.prog.funcNamed "loop.example/overfare/laws.FnRulesText" = some 4 by kernel_rfl).symm.trans hf) |>.symm
   obtain rfl : fn = Tryz.f4:=(Option.some.inj (Tryz.func4.symm.trans hfn)).symm
   exact ⟨by kernel_rfl,fun j t ht => by
    rw [Tryz.params4] at ht
    have hm : t ∈ [28,28]:=by simpa using Array.mem_of_getElem? ht
    have hall : ([28,28].all fun u => !Tryz.prog.wantsStandIn u) = true:=by kernel_rfl
    exact (show Tryz.prog.wantsStandIn t = false by simpa using List.all_eq_true.1 hall t hm)⟩)
  (by kernel_rfl)
#print axioms proved
end Go.Proofs.YtgbdnbbfgcogjaaGreatDoor.fnRulesText
namespace Go.Proofs.YtgbdnbbfgcogjaaGreatDoor
/-- The row, under a short name, for the claim. -/
theorem fnRulesText_holds : Rows.FnRulesTextCardSaid:=fnRulesText.proved
end Go.Proofs.YtgbdnbbfgcogjaaGreatDoor
