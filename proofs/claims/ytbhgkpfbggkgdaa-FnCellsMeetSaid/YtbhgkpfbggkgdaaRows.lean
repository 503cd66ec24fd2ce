/-
  No cell of these rows narrows 'for every input' (looked for: loops, veiled, ifaces, maps, wideKeys, modest, calm, conditions, laid).
  DERIVED. THE GIVEN ROWS OF THIS SEAT. 11 by the template 'for every input the law returns true; each argument reads behind the call as it read before'; 0 by the template 'total and deterministic' (their statements: YtbhgkpfbggkgdaaTotals.lean).
  GIVEN WITH THE SEED: the statements are not yours to turn. If you find one false, say at which input.
  Laid BY PROGRAM, IN A SANDBOX (cutbox-rows.mjs): the forced cells as the released guide's own fill.sh prints them over the translation a3b22869d165943a… (all of the seat's roots in one cut). By AI agents, Wed Nov 11 2026. No macro, syntax, notation, axiom, sorry.
-/
import Derived.Test.YtbhgkpfbggkgdaaChecked
import GoSem.Claim
import GoSem.ClaimJoined
import GoSem.ClaimMapViews
import Derived.JoinedTies
import Derived.KernelRfl
namespace Go.Proofs.Ytbhgkpfbggkgdaa
/- THE CELL 'sum', in the pinned program and in every row, IS THE sha256 OF THE DUMP (.gsa) THAT YtbhgkpfbggkgdaaProg.lean LOADS. Nothing in Lean hashes anything: it is a label: what it is worth is what the hold of that sum in a sandbox is worth. -/
noncomputable def Try.pinned : Pinned := { name := "ytbhgkpfbggkgdaa", sum := "a3b22869d165943a5f1606111f1cc1c42f8dd9710c0ea62e6cc2e43aaf6f1631", checked := Try.checked }
namespace Rows
def none {H : Type} : Left H := { results := [], args := [] }

/-- 'laws.FnExactBlockOver': WHATEVER THE INPUT: true; the input reads as it did. -/
def fnExactBlockOverSpec : ChangeSpec := { name := "fnExactBlockOver", fn := fun _ => fun
  | [d1, d2] => { results := [.lit (.bool true)], args := [d1, d2] }
  | _ => none }
def fnExactBlockOverRow : OpenClaim := { program := "ytbhgkpfbggkgdaa", sum := "a3b22869d165943a5f1606111f1cc1c42f8dd9710c0ea62e6cc2e43aaf6f1631", func := "loop.example/overfare/laws.FnExactBlockOver", spec := "fnExactBlockOver", apart := false }
def FnExactBlockOverSaid : Prop := fnExactBlockOverRow.holds Try.pinned (OpenSpec.ofChange fnExactBlockOverSpec)

/-- ITS FALSE NEIGHBOUR: 'it returns false'. Refute it at one input. -/
def fnExactBlockOverWrong : ChangeSpec := { name := "fnExactBlockOver", fn := fun _ => fun
  | [d1, d2] => { results := [.lit (.bool false)], args := [d1, d2] }
  | _ => none }
def FnExactBlockOverWrongFalsely : Prop := fnExactBlockOverRow.holds Try.pinned (OpenSpec.ofChange fnExactBlockOverWrong)

/-- 'laws.FnExactCellsFind': WHATEVER THE INPUT: true; the input reads as it did. -/
def fnExactCellsFindSpec : ChangeSpec := { name := "fnExactCellsFind", fn := fun _ => fun
  | [d1, d2] => { results := [.lit (.bool true)], args := [d1, d2] }
  | _ => none }
def fnExactCellsFindRow : OpenClaim := { program := "ytbhgkpfbggkgdaa", sum := "a3b22869d165943a5f1606111f1cc1c42f8dd9710c0ea62e6cc2e43aaf6f1631", func := "loop.example/overfare/laws.FnExactCellsFind", spec := "fnExactCellsFind", apart := false }
def FnExactCellsFindSaid : Prop := fnExactCellsFindRow.holds Try.pinned (OpenSpec.ofChange fnExactCellsFindSpec)

/-- ITS FALSE NEIGHBOUR: 'it returns false'. Refute it at one input. -/
def fnExactCellsFindWrong : ChangeSpec := { name := "fnExactCellsFind", fn := fun _ => fun
  | [d1, d2] => { results := [.lit (.bool false)], args := [d1, d2] }
  | _ => none }
def FnExactCellsFindWrongFalsely : Prop := fnExactCellsFindRow.holds Try.pinned (OpenSpec.ofChange fnExactCellsFindWrong)

/-- 'laws.FnBlockIn': WHATEVER THE INPUT: true; the input reads as it did. -/
def fnBlockInSpec : ChangeSpec := { name := "fnBlockIn", fn := fun _ => fun
  | [d] => { results := [.lit (.bool true)], args := [d] }
  | _ => none }
def fnBlockInRow : OpenClaim := { program := "ytbhgkpfbggkgdaa", sum := "a3b22869d165943a5f1606111f1cc1c42f8dd9710c0ea62e6cc2e43aaf6f1631", func := "loop.example/overfare/laws.FnBlockIn", spec := "fnBlockIn", apart := false }
def FnBlockInSaid : Prop := fnBlockInRow.holds Try.pinned (OpenSpec.ofChange fnBlockInSpec)

/-- ITS FALSE NEIGHBOUR: 'it returns false'. Refute it at one input. -/
def fnBlockInWrong : ChangeSpec := { name := "fnBlockIn", fn := fun _ => fun
  | [d] => { results := [.lit (.bool false)], args := [d] }
  | _ => none }
def FnBlockInWrongFalsely : Prop := fnBlockInRow.holds Try.pinned (OpenSpec.ofChange fnBlockInWrong)

/-- 'laws.FnExactSetSpan': WHATEVER THE INPUT: true; the input reads as it did. -/
def fnExactSetSpanSpec : ChangeSpec := { name := "fnExactSetSpan", fn := fun _ => fun
  | [d1, d2] => { results := [.lit (.bool true)], args := [d1, d2] }
  | _ => none }
def fnExactSetSpanRow : OpenClaim := { program := "ytbhgkpfbggkgdaa", sum := "a3b22869d165943a5f1606111f1cc1c42f8dd9710c0ea62e6cc2e43aaf6f1631", func := "loop.example/overfare/laws.FnExactSetSpan", spec := "fnExactSetSpan", apart := false }
def FnExactSetSpanSaid : Prop := fnExactSetSpanRow.holds Try.pinned (OpenSpec.ofChange fnExactSetSpanSpec)

/-- ITS FALSE NEIGHBOUR: 'it returns false'. Refute it at one input. -/
def fnExactSetSpanWrong : ChangeSpec := { name := "fnExactSetSpan", fn := fun _ => fun
  | [d1, d2] => { results := [.lit (.bool false)], args := [d1, d2] }
  | _ => none }
def FnExactSetSpanWrongFalsely : Prop := fnExactSetSpanRow.holds Try.pinned (OpenSpec.ofChange fnExactSetSpanWrong)

/-- 'laws.FnExactRulesOk': WHATEVER THE INPUT: true; the input reads as it did. -/
def fnExactRulesOkSpec : ChangeSpec := { name := "fnExactRulesOk", fn := fun _ => fun
  | [d] => { results := [.lit (.bool true)], args := [d] }
  | _ => none }
def fnExactRulesOkRow : OpenClaim := { program := "ytbhgkpfbggkgdaa", sum := "a3b22869d165943a5f1606111f1cc1c42f8dd9710c0ea62e6cc2e43aaf6f1631", func := "loop.example/overfare/laws.FnExactRulesOk", spec := "fnExactRulesOk", unfollowed := true, recurses := true, apart := false }
def FnExactRulesOkSaid : Prop := fnExactRulesOkRow.holds Try.pinned (OpenSpec.ofChange fnExactRulesOkSpec)

/-- ITS FALSE NEIGHBOUR: 'it returns false'. Refute it at one input. -/
def fnExactRulesOkWrong : ChangeSpec := { name := "fnExactRulesOk", fn := fun _ => fun
  | [d] => { results := [.lit (.bool false)], args := [d] }
  | _ => none }
def FnExactRulesOkWrongFalsely : Prop := fnExactRulesOkRow.holds Try.pinned (OpenSpec.ofChange fnExactRulesOkWrong)

/-- 'laws.FnExactWaysOk': WHATEVER THE INPUT: true; the input reads as it did. -/
def fnExactWaysOkSpec : ChangeSpec := { name := "fnExactWaysOk", fn := fun _ => fun
  | [d] => { results := [.lit (.bool true)], args := [d] }
  | _ => none }
def fnExactWaysOkRow : OpenClaim := { program := "ytbhgkpfbggkgdaa", sum := "a3b22869d165943a5f1606111f1cc1c42f8dd9710c0ea62e6cc2e43aaf6f1631", func := "loop.example/overfare/laws.FnExactWaysOk", spec := "fnExactWaysOk", apart := false }
def FnExactWaysOkSaid : Prop := fnExactWaysOkRow.holds Try.pinned (OpenSpec.ofChange fnExactWaysOkSpec)

/-- ITS FALSE NEIGHBOUR: 'it returns false'. Refute it at one input. -/
def fnExactWaysOkWrong : ChangeSpec := { name := "fnExactWaysOk", fn := fun _ => fun
  | [d] => { results := [.lit (.bool false)], args := [d] }
  | _ => none }
def FnExactWaysOkWrongFalsely : Prop := fnExactWaysOkRow.holds Try.pinned (OpenSpec.ofChange fnExactWaysOkWrong)

/-- 'laws.FnCellsMeet': WHATEVER THE INPUT: true; the input reads as it did. -/
def fnCellsMeetSpec : ChangeSpec := { name := "fnCellsMeet", fn := fun _ => fun
  | [d] => { results := [.lit (.bool true)], args := [d] }
  | _ => none }
def fnCellsMeetRow : OpenClaim := { program := "ytbhgkpfbggkgdaa", sum := "a3b22869d165943a5f1606111f1cc1c42f8dd9710c0ea62e6cc2e43aaf6f1631", func := "loop.example/overfare/laws.FnCellsMeet", spec := "fnCellsMeet", apart := false }
def FnCellsMeetSaid : Prop := fnCellsMeetRow.holds Try.pinned (OpenSpec.ofChange fnCellsMeetSpec)

/-- ITS FALSE NEIGHBOUR: 'it returns false'. Refute it at one input. -/
def fnCellsMeetWrong : ChangeSpec := { name := "fnCellsMeet", fn := fun _ => fun
  | [d] => { results := [.lit (.bool false)], args := [d] }
  | _ => none }
def FnCellsMeetWrongFalsely : Prop := fnCellsMeetRow.holds Try.pinned (OpenSpec.ofChange fnCellsMeetWrong)

/-- 'laws.FnCellsFind': WHATEVER THE INPUT: true; the input reads as it did. -/
def fnCellsFindSpec : ChangeSpec := { name := "fnCellsFind", fn := fun _ => fun
  | [d] => { results := [.lit (.bool true)], args := [d] }
  | _ => none }
def fnCellsFindRow : OpenClaim := { program := "ytbhgkpfbggkgdaa", sum := "a3b22869d165943a5f1606111f1cc1c42f8dd9710c0ea62e6cc2e43aaf6f1631", func := "loop.example/overfare/laws.FnCellsFind", spec := "fnCellsFind", apart := false }
def FnCellsFindSaid : Prop := fnCellsFindRow.holds Try.pinned (OpenSpec.ofChange fnCellsFindSpec)

/-- ITS FALSE NEIGHBOUR: 'it returns false'. Refute it at one input. -/
def fnCellsFindWrong : ChangeSpec := { name := "fnCellsFind", fn := fun _ => fun
  | [d] => { results := [.lit (.bool false)], args := [d] }
  | _ => none }
def FnCellsFindWrongFalsely : Prop := fnCellsFindRow.holds Try.pinned (OpenSpec.ofChange fnCellsFindWrong)

/-- 'laws.FnExactWaysGone': WHATEVER THE INPUT: true; the input reads as it did. -/
def fnExactWaysGoneSpec : ChangeSpec := { name := "fnExactWaysGone", fn := fun _ => fun
  | [d1, d2] => { results := [.lit (.bool true)], args := [d1, d2] }
  | _ => none }
def fnExactWaysGoneRow : OpenClaim := { program := "ytbhgkpfbggkgdaa", sum := "a3b22869d165943a5f1606111f1cc1c42f8dd9710c0ea62e6cc2e43aaf6f1631", func := "loop.example/overfare/laws.FnExactWaysGone", spec := "fnExactWaysGone", unfollowed := true, recurses := true, apart := false }
def FnExactWaysGoneSaid : Prop := fnExactWaysGoneRow.holds Try.pinned (OpenSpec.ofChange fnExactWaysGoneSpec)

/-- ITS FALSE NEIGHBOUR: 'it returns false'. Refute it at one input. -/
def fnExactWaysGoneWrong : ChangeSpec := { name := "fnExactWaysGone", fn := fun _ => fun
  | [d1, d2] => { results := [.lit (.bool false)], args := [d1, d2] }
  | _ => none }
def FnExactWaysGoneWrongFalsely : Prop := fnExactWaysGoneRow.holds Try.pinned (OpenSpec.ofChange fnExactWaysGoneWrong)

/-- 'laws.FnExactWaysPut': WHATEVER THE INPUT: true; the input reads as it did. -/
def fnExactWaysPutSpec : ChangeSpec := { name := "fnExactWaysPut", fn := fun _ => fun
  | [d1, d2] => { results := [.lit (.bool true)], args := [d1, d2] }
  | _ => none }
def fnExactWaysPutRow : OpenClaim := { program := "ytbhgkpfbggkgdaa", sum := "a3b22869d165943a5f1606111f1cc1c42f8dd9710c0ea62e6cc2e43aaf6f1631", func := "loop.example/overfare/laws.FnExactWaysPut", spec := "fnExactWaysPut", inPlace := ["slices.overlaps[loop.example/overfare/impl.Way]"], unfollowed := true, recurses := true, apart := false }
def FnExactWaysPutSaid : Prop := fnExactWaysPutRow.holds Try.pinned (OpenSpec.ofChange fnExactWaysPutSpec)

/-- ITS FALSE NEIGHBOUR: 'it returns false'. Refute it at one input. -/
def fnExactWaysPutWrong : ChangeSpec := { name := "fnExactWaysPut", fn := fun _ => fun
  | [d1, d2] => { results := [.lit (.bool false)], args := [d1, d2] }
  | _ => none }
def FnExactWaysPutWrongFalsely : Prop := fnExactWaysPutRow.holds Try.pinned (OpenSpec.ofChange fnExactWaysPutWrong)

/-- 'laws.FnWaysBack': WHATEVER THE INPUT: true; the input reads as it did. -/
def fnWaysBackSpec : ChangeSpec := { name := "fnWaysBack", fn := fun _ => fun
  | [d] => { results := [.lit (.bool true)], args := [d] }
  | _ => none }
def fnWaysBackRow : OpenClaim := { program := "ytbhgkpfbggkgdaa", sum := "a3b22869d165943a5f1606111f1cc1c42f8dd9710c0ea62e6cc2e43aaf6f1631", func := "loop.example/overfare/laws.FnWaysBack", spec := "fnWaysBack", inPlace := ["slices.overlaps[loop.example/overfare/impl.Way]"], unfollowed := true, recurses := true, apart := false }
def FnWaysBackSaid : Prop := fnWaysBackRow.holds Try.pinned (OpenSpec.ofChange fnWaysBackSpec)

/-- ITS FALSE NEIGHBOUR: 'it returns false'. Refute it at one input. -/
def fnWaysBackWrong : ChangeSpec := { name := "fnWaysBack", fn := fun _ => fun
  | [d] => { results := [.lit (.bool false)], args := [d] }
  | _ => none }
def FnWaysBackWrongFalsely : Prop := fnWaysBackRow.holds Try.pinned (OpenSpec.ofChange fnWaysBackWrong)

/- THE SECOND FORM. 'bulk': how many values and letters a reading holds, each counted each time it is reached (what is shared counts as often as it is met; a slice's spare places count too). A statement '..UptoSaid' is the law's where the arguments, and the package variables that the reading takes, are together of bulk at most 1048576: NARROWER than '..Said'. Prove '..Said' where nothing that the law and all that it calls make is longer than what came in: it says more and counts as full. Else prove '..UptoSaid'. A law counts once. -/
mutual
def uptoBulk {H : Type} : DataW H → Nat
  | .lit (.string bytes) => bytes.length + 1
  | .lit _ => 1
  | .nil => 1
  | .ptr d => uptoBulk d + 1
  | .slice elems spare => uptoBulkAll elems + uptoBulkAll spare + 1
  | .agg parts => uptoBulkAll parts + 1
  | .iface _ d => uptoBulk d + 1
  | .map entries => uptoBulkEntries entries + 1
  | .held _ => 1
def uptoBulkAll {H : Type} : List (DataW H) → Nat
  | [] => 0
  | d :: r => uptoBulk d + uptoBulkAll r
def uptoBulkEntries {H : Type} : List (Lit × DataW H) → Nat
  | [] => 0
  | x :: r => uptoBulkEntry x + uptoBulkEntries r
def uptoBulkEntry {H : Type} : Lit × DataW H → Nat
  | (.string bytes, d) => bytes.length + uptoBulk d + 1
  | (_, d) => uptoBulk d + 1
 end
def uptoSmall : (H : Type) → List (DataW H) → Bool := fun _ ds => decide (uptoBulkAll ds ≤ 1048576)
def OpenSpec.upto (s : _root_.Go.ChangeSpec) : _root_.Go.OpenSpec := { _root_.Go.OpenSpec.ofChange s with cond := some uptoSmall }

/-- 'laws.FnExactBlockOver', WHERE WHAT IT READS IS OF BULK AT MOST 1048576: true; the input reads as it did. -/
def fnExactBlockOverUptoRow : OpenClaim := { program := "ytbhgkpfbggkgdaa", sum := "a3b22869d165943a5f1606111f1cc1c42f8dd9710c0ea62e6cc2e43aaf6f1631", func := "loop.example/overfare/laws.FnExactBlockOver", spec := "fnExactBlockOver", apart := false, narrowed := true }
def FnExactBlockOverUptoSaid : Prop := fnExactBlockOverUptoRow.holds Try.pinned (OpenSpec.upto fnExactBlockOverSpec)

/-- 'laws.FnExactCellsFind', WHERE WHAT IT READS IS OF BULK AT MOST 1048576: true; the input reads as it did. -/
def fnExactCellsFindUptoRow : OpenClaim := { program := "ytbhgkpfbggkgdaa", sum := "a3b22869d165943a5f1606111f1cc1c42f8dd9710c0ea62e6cc2e43aaf6f1631", func := "loop.example/overfare/laws.FnExactCellsFind", spec := "fnExactCellsFind", apart := false, narrowed := true }
def FnExactCellsFindUptoSaid : Prop := fnExactCellsFindUptoRow.holds Try.pinned (OpenSpec.upto fnExactCellsFindSpec)

/-- 'laws.FnBlockIn', WHERE WHAT IT READS IS OF BULK AT MOST 1048576: true; the input reads as it did. -/
def fnBlockInUptoRow : OpenClaim := { program := "ytbhgkpfbggkgdaa", sum := "a3b22869d165943a5f1606111f1cc1c42f8dd9710c0ea62e6cc2e43aaf6f1631", func := "loop.example/overfare/laws.FnBlockIn", spec := "fnBlockIn", apart := false, narrowed := true }
def FnBlockInUptoSaid : Prop := fnBlockInUptoRow.holds Try.pinned (OpenSpec.upto fnBlockInSpec)

/-- 'laws.FnExactSetSpan', WHERE WHAT IT READS IS OF BULK AT MOST 1048576: true; the input reads as it did. -/
def fnExactSetSpanUptoRow : OpenClaim := { program := "ytbhgkpfbggkgdaa", sum := "a3b22869d165943a5f1606111f1cc1c42f8dd9710c0ea62e6cc2e43aaf6f1631", func := "loop.example/overfare/laws.FnExactSetSpan", spec := "fnExactSetSpan", apart := false, narrowed := true }
def FnExactSetSpanUptoSaid : Prop := fnExactSetSpanUptoRow.holds Try.pinned (OpenSpec.upto fnExactSetSpanSpec)

/-- 'laws.FnExactRulesOk', WHERE WHAT IT READS IS OF BULK AT MOST 1048576: true; the input reads as it did. -/
def fnExactRulesOkUptoRow : OpenClaim := { program := "ytbhgkpfbggkgdaa", sum := "a3b22869d165943a5f1606111f1cc1c42f8dd9710c0ea62e6cc2e43aaf6f1631", func := "loop.example/overfare/laws.FnExactRulesOk", spec := "fnExactRulesOk", unfollowed := true, recurses := true, apart := false, narrowed := true }
def FnExactRulesOkUptoSaid : Prop := fnExactRulesOkUptoRow.holds Try.pinned (OpenSpec.upto fnExactRulesOkSpec)

/-- 'laws.FnExactWaysOk', WHERE WHAT IT READS IS OF BULK AT MOST 1048576: true; the input reads as it did. -/
def fnExactWaysOkUptoRow : OpenClaim := { program := "ytbhgkpfbggkgdaa", sum := "a3b22869d165943a5f1606111f1cc1c42f8dd9710c0ea62e6cc2e43aaf6f1631", func := "loop.example/overfare/laws.FnExactWaysOk", spec := "fnExactWaysOk", apart := false, narrowed := true }
def FnExactWaysOkUptoSaid : Prop := fnExactWaysOkUptoRow.holds Try.pinned (OpenSpec.upto fnExactWaysOkSpec)

/-- 'laws.FnCellsMeet', WHERE WHAT IT READS IS OF BULK AT MOST 1048576: true; the input reads as it did. -/
def fnCellsMeetUptoRow : OpenClaim := { program := "ytbhgkpfbggkgdaa", sum := "a3b22869d165943a5f1606111f1cc1c42f8dd9710c0ea62e6cc2e43aaf6f1631", func := "loop.example/overfare/laws.FnCellsMeet", spec := "fnCellsMeet", apart := false, narrowed := true }
def FnCellsMeetUptoSaid : Prop := fnCellsMeetUptoRow.holds Try.pinned (OpenSpec.upto fnCellsMeetSpec)

/-- 'laws.FnCellsFind', WHERE WHAT IT READS IS OF BULK AT MOST 1048576: true; the input reads as it did. -/
def fnCellsFindUptoRow : OpenClaim := { program := "ytbhgkpfbggkgdaa", sum := "a3b22869d165943a5f1606111f1cc1c42f8dd9710c0ea62e6cc2e43aaf6f1631", func := "loop.example/overfare/laws.FnCellsFind", spec := "fnCellsFind", apart := false, narrowed := true }
def FnCellsFindUptoSaid : Prop := fnCellsFindUptoRow.holds Try.pinned (OpenSpec.upto fnCellsFindSpec)

/-- 'laws.FnExactWaysGone', WHERE WHAT IT READS IS OF BULK AT MOST 1048576: true; the input reads as it did. -/
def fnExactWaysGoneUptoRow : OpenClaim := { program := "ytbhgkpfbggkgdaa", sum := "a3b22869d165943a5f1606111f1cc1c42f8dd9710c0ea62e6cc2e43aaf6f1631", func := "loop.example/overfare/laws.FnExactWaysGone", spec := "fnExactWaysGone", unfollowed := true, recurses := true, apart := false, narrowed := true }
def FnExactWaysGoneUptoSaid : Prop := fnExactWaysGoneUptoRow.holds Try.pinned (OpenSpec.upto fnExactWaysGoneSpec)

/-- 'laws.FnExactWaysPut', WHERE WHAT IT READS IS OF BULK AT MOST 1048576: true; the input reads as it did. -/
def fnExactWaysPutUptoRow : OpenClaim := { program := "ytbhgkpfbggkgdaa", sum := "a3b22869d165943a5f1606111f1cc1c42f8dd9710c0ea62e6cc2e43aaf6f1631", func := "loop.example/overfare/laws.FnExactWaysPut", spec := "fnExactWaysPut", inPlace := ["slices.overlaps[loop.example/overfare/impl.Way]"], unfollowed := true, recurses := true, apart := false, narrowed := true }
def FnExactWaysPutUptoSaid : Prop := fnExactWaysPutUptoRow.holds Try.pinned (OpenSpec.upto fnExactWaysPutSpec)

/-- 'laws.FnWaysBack', WHERE WHAT IT READS IS OF BULK AT MOST 1048576: true; the input reads as it did. -/
def fnWaysBackUptoRow : OpenClaim := { program := "ytbhgkpfbggkgdaa", sum := "a3b22869d165943a5f1606111f1cc1c42f8dd9710c0ea62e6cc2e43aaf6f1631", func := "loop.example/overfare/laws.FnWaysBack", spec := "fnWaysBack", inPlace := ["slices.overlaps[loop.example/overfare/impl.Way]"], unfollowed := true, recurses := true, apart := false, narrowed := true }
def FnWaysBackUptoSaid : Prop := fnWaysBackUptoRow.holds Try.pinned (OpenSpec.upto fnWaysBackSpec)

end Rows
end Go.Proofs.Ytbhgkpfbggkgdaa
