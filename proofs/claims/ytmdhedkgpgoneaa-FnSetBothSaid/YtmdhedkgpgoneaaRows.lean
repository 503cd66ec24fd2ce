/-
  No cell of these rows narrows 'for every input' (looked for: loops, veiled, ifaces, maps, wideKeys, modest, calm, conditions, laid).
  DERIVED. THE GIVEN ROWS OF THIS SEAT. 10 by the template 'for every input the law returns true; each argument reads behind the call as it read before'; 0 by the template 'total and deterministic' (their statements: YtmdhedkgpgoneaaTotals.lean).
  GIVEN WITH THE SEED: the statements are not yours to turn. If you find one false, say at which input.
  Laid BY PROGRAM, IN A SANDBOX (cutbox-rows.mjs): the forced cells as the released guide's own fill.sh prints them over the translation 71b4d58aac9a28b6… (all of the seat's roots in one cut). By AI agents, Wed Nov 11 2026. No macro, syntax, notation, axiom, sorry.
-/
import Derived.Test.YtmdhedkgpgoneaaChecked
import GoSem.Claim
import GoSem.ClaimJoined
import GoSem.ClaimMapViews
import Derived.JoinedTies
import Derived.KernelRfl
namespace Go.Proofs.Ytmdhedkgpgoneaa
/- THE CELL 'sum', in the pinned program and in every row, IS THE sha256 OF THE DUMP (.gsa) THAT YtmdhedkgpgoneaaProg.lean LOADS. Nothing in Lean hashes anything: it is a label: what it is worth is what the hold of that sum in a sandbox is worth. -/
noncomputable def Try.pinned : Pinned := { name := "ytmdhedkgpgoneaa", sum := "71b4d58aac9a28b6d38c875993a082a4ff1c41c0b6026dee54b10d0808b972f2", checked := Try.checked }
namespace Rows
def none {H : Type} : Left H := { results := [], args := [] }

/-- 'laws.FnExactSetOk': WHATEVER THE INPUT: true; the input reads as it did. -/
def fnExactSetOkSpec : ChangeSpec := { name := "fnExactSetOk", fn := fun _ => fun
  | [d] => { results := [.lit (.bool true)], args := [d] }
  | _ => none }
def fnExactSetOkRow : OpenClaim := { program := "ytmdhedkgpgoneaa", sum := "71b4d58aac9a28b6d38c875993a082a4ff1c41c0b6026dee54b10d0808b972f2", func := "loop.example/overfare/laws.FnExactSetOk", spec := "fnExactSetOk", unfollowed := true, recurses := true, apart := false }
def FnExactSetOkSaid : Prop := fnExactSetOkRow.holds Try.pinned (OpenSpec.ofChange fnExactSetOkSpec)

/-- ITS FALSE NEIGHBOUR: 'it returns false'. Refute it at one input. -/
def fnExactSetOkWrong : ChangeSpec := { name := "fnExactSetOk", fn := fun _ => fun
  | [d] => { results := [.lit (.bool false)], args := [d] }
  | _ => none }
def FnExactSetOkWrongFalsely : Prop := fnExactSetOkRow.holds Try.pinned (OpenSpec.ofChange fnExactSetOkWrong)

/-- 'laws.FnExactSetOf': WHATEVER THE INPUT: true; the input reads as it did. -/
def fnExactSetOfSpec : ChangeSpec := { name := "fnExactSetOf", fn := fun _ => fun
  | [d] => { results := [.lit (.bool true)], args := [d] }
  | _ => none }
def fnExactSetOfRow : OpenClaim := { program := "ytmdhedkgpgoneaa", sum := "71b4d58aac9a28b6d38c875993a082a4ff1c41c0b6026dee54b10d0808b972f2", func := "loop.example/overfare/laws.FnExactSetOf", spec := "fnExactSetOf", unfollowed := true, recurses := true, apart := false }
def FnExactSetOfSaid : Prop := fnExactSetOfRow.holds Try.pinned (OpenSpec.ofChange fnExactSetOfSpec)

/-- ITS FALSE NEIGHBOUR: 'it returns false'. Refute it at one input. -/
def fnExactSetOfWrong : ChangeSpec := { name := "fnExactSetOf", fn := fun _ => fun
  | [d] => { results := [.lit (.bool false)], args := [d] }
  | _ => none }
def FnExactSetOfWrongFalsely : Prop := fnExactSetOfRow.holds Try.pinned (OpenSpec.ofChange fnExactSetOfWrong)

/-- 'laws.FnExactSetSize': WHATEVER THE INPUT: true; the input reads as it did. -/
def fnExactSetSizeSpec : ChangeSpec := { name := "fnExactSetSize", fn := fun _ => fun
  | [d] => { results := [.lit (.bool true)], args := [d] }
  | _ => none }
def fnExactSetSizeRow : OpenClaim := { program := "ytmdhedkgpgoneaa", sum := "71b4d58aac9a28b6d38c875993a082a4ff1c41c0b6026dee54b10d0808b972f2", func := "loop.example/overfare/laws.FnExactSetSize", spec := "fnExactSetSize", unfollowed := true, recurses := true, apart := false }
def FnExactSetSizeSaid : Prop := fnExactSetSizeRow.holds Try.pinned (OpenSpec.ofChange fnExactSetSizeSpec)

/-- ITS FALSE NEIGHBOUR: 'it returns false'. Refute it at one input. -/
def fnExactSetSizeWrong : ChangeSpec := { name := "fnExactSetSize", fn := fun _ => fun
  | [d] => { results := [.lit (.bool false)], args := [d] }
  | _ => none }
def FnExactSetSizeWrongFalsely : Prop := fnExactSetSizeRow.holds Try.pinned (OpenSpec.ofChange fnExactSetSizeWrong)

/-- 'laws.FnExactSetBoth': WHATEVER THE INPUT: true; the input reads as it did. -/
def fnExactSetBothSpec : ChangeSpec := { name := "fnExactSetBoth", fn := fun _ => fun
  | [d1, d2] => { results := [.lit (.bool true)], args := [d1, d2] }
  | _ => none }
def fnExactSetBothRow : OpenClaim := { program := "ytmdhedkgpgoneaa", sum := "71b4d58aac9a28b6d38c875993a082a4ff1c41c0b6026dee54b10d0808b972f2", func := "loop.example/overfare/laws.FnExactSetBoth", spec := "fnExactSetBoth", unfollowed := true, recurses := true, apart := false }
def FnExactSetBothSaid : Prop := fnExactSetBothRow.holds Try.pinned (OpenSpec.ofChange fnExactSetBothSpec)

/-- ITS FALSE NEIGHBOUR: 'it returns false'. Refute it at one input. -/
def fnExactSetBothWrong : ChangeSpec := { name := "fnExactSetBoth", fn := fun _ => fun
  | [d1, d2] => { results := [.lit (.bool false)], args := [d1, d2] }
  | _ => none }
def FnExactSetBothWrongFalsely : Prop := fnExactSetBothRow.holds Try.pinned (OpenSpec.ofChange fnExactSetBothWrong)

/-- 'laws.FnExactSetLess': WHATEVER THE INPUT: true; the input reads as it did. -/
def fnExactSetLessSpec : ChangeSpec := { name := "fnExactSetLess", fn := fun _ => fun
  | [d1, d2] => { results := [.lit (.bool true)], args := [d1, d2] }
  | _ => none }
def fnExactSetLessRow : OpenClaim := { program := "ytmdhedkgpgoneaa", sum := "71b4d58aac9a28b6d38c875993a082a4ff1c41c0b6026dee54b10d0808b972f2", func := "loop.example/overfare/laws.FnExactSetLess", spec := "fnExactSetLess", unfollowed := true, recurses := true, apart := false }
def FnExactSetLessSaid : Prop := fnExactSetLessRow.holds Try.pinned (OpenSpec.ofChange fnExactSetLessSpec)

/-- ITS FALSE NEIGHBOUR: 'it returns false'. Refute it at one input. -/
def fnExactSetLessWrong : ChangeSpec := { name := "fnExactSetLess", fn := fun _ => fun
  | [d1, d2] => { results := [.lit (.bool false)], args := [d1, d2] }
  | _ => none }
def FnExactSetLessWrongFalsely : Prop := fnExactSetLessRow.holds Try.pinned (OpenSpec.ofChange fnExactSetLessWrong)

/-- 'laws.FnSetOk': WHATEVER THE INPUT: true; the input reads as it did. -/
def fnSetOkSpec : ChangeSpec := { name := "fnSetOk", fn := fun _ => fun
  | [d] => { results := [.lit (.bool true)], args := [d] }
  | _ => none }
def fnSetOkRow : OpenClaim := { program := "ytmdhedkgpgoneaa", sum := "71b4d58aac9a28b6d38c875993a082a4ff1c41c0b6026dee54b10d0808b972f2", func := "loop.example/overfare/laws.FnSetOk", spec := "fnSetOk", unfollowed := true, recurses := true, apart := false }
def FnSetOkSaid : Prop := fnSetOkRow.holds Try.pinned (OpenSpec.ofChange fnSetOkSpec)

/-- ITS FALSE NEIGHBOUR: 'it returns false'. Refute it at one input. -/
def fnSetOkWrong : ChangeSpec := { name := "fnSetOk", fn := fun _ => fun
  | [d] => { results := [.lit (.bool false)], args := [d] }
  | _ => none }
def FnSetOkWrongFalsely : Prop := fnSetOkRow.holds Try.pinned (OpenSpec.ofChange fnSetOkWrong)

/-- 'laws.FnSetUnion': WHATEVER THE INPUT: true; the input reads as it did. -/
def fnSetUnionSpec : ChangeSpec := { name := "fnSetUnion", fn := fun _ => fun
  | [d] => { results := [.lit (.bool true)], args := [d] }
  | _ => none }
def fnSetUnionRow : OpenClaim := { program := "ytmdhedkgpgoneaa", sum := "71b4d58aac9a28b6d38c875993a082a4ff1c41c0b6026dee54b10d0808b972f2", func := "loop.example/overfare/laws.FnSetUnion", spec := "fnSetUnion", unfollowed := true, recurses := true, apart := false }
def FnSetUnionSaid : Prop := fnSetUnionRow.holds Try.pinned (OpenSpec.ofChange fnSetUnionSpec)

/-- ITS FALSE NEIGHBOUR: 'it returns false'. Refute it at one input. -/
def fnSetUnionWrong : ChangeSpec := { name := "fnSetUnion", fn := fun _ => fun
  | [d] => { results := [.lit (.bool false)], args := [d] }
  | _ => none }
def FnSetUnionWrongFalsely : Prop := fnSetUnionRow.holds Try.pinned (OpenSpec.ofChange fnSetUnionWrong)

/-- 'laws.FnSetTurn': WHATEVER THE INPUT: true; the input reads as it did. -/
def fnSetTurnSpec : ChangeSpec := { name := "fnSetTurn", fn := fun _ => fun
  | [d] => { results := [.lit (.bool true)], args := [d] }
  | _ => none }
def fnSetTurnRow : OpenClaim := { program := "ytmdhedkgpgoneaa", sum := "71b4d58aac9a28b6d38c875993a082a4ff1c41c0b6026dee54b10d0808b972f2", func := "loop.example/overfare/laws.FnSetTurn", spec := "fnSetTurn", unfollowed := true, recurses := true, apart := false }
def FnSetTurnSaid : Prop := fnSetTurnRow.holds Try.pinned (OpenSpec.ofChange fnSetTurnSpec)

/-- ITS FALSE NEIGHBOUR: 'it returns false'. Refute it at one input. -/
def fnSetTurnWrong : ChangeSpec := { name := "fnSetTurn", fn := fun _ => fun
  | [d] => { results := [.lit (.bool false)], args := [d] }
  | _ => none }
def FnSetTurnWrongFalsely : Prop := fnSetTurnRow.holds Try.pinned (OpenSpec.ofChange fnSetTurnWrong)

/-- 'laws.FnSetBoth': WHATEVER THE INPUT: true; the input reads as it did. -/
def fnSetBothSpec : ChangeSpec := { name := "fnSetBoth", fn := fun _ => fun
  | [d] => { results := [.lit (.bool true)], args := [d] }
  | _ => none }
def fnSetBothRow : OpenClaim := { program := "ytmdhedkgpgoneaa", sum := "71b4d58aac9a28b6d38c875993a082a4ff1c41c0b6026dee54b10d0808b972f2", func := "loop.example/overfare/laws.FnSetBoth", spec := "fnSetBoth", unfollowed := true, recurses := true, apart := false }
def FnSetBothSaid : Prop := fnSetBothRow.holds Try.pinned (OpenSpec.ofChange fnSetBothSpec)

/-- ITS FALSE NEIGHBOUR: 'it returns false'. Refute it at one input. -/
def fnSetBothWrong : ChangeSpec := { name := "fnSetBoth", fn := fun _ => fun
  | [d] => { results := [.lit (.bool false)], args := [d] }
  | _ => none }
def FnSetBothWrongFalsely : Prop := fnSetBothRow.holds Try.pinned (OpenSpec.ofChange fnSetBothWrong)

/-- 'laws.FnSetParts': WHATEVER THE INPUT: true; the input reads as it did. -/
def fnSetPartsSpec : ChangeSpec := { name := "fnSetParts", fn := fun _ => fun
  | [d] => { results := [.lit (.bool true)], args := [d] }
  | _ => none }
def fnSetPartsRow : OpenClaim := { program := "ytmdhedkgpgoneaa", sum := "71b4d58aac9a28b6d38c875993a082a4ff1c41c0b6026dee54b10d0808b972f2", func := "loop.example/overfare/laws.FnSetParts", spec := "fnSetParts", unfollowed := true, recurses := true, apart := false }
def FnSetPartsSaid : Prop := fnSetPartsRow.holds Try.pinned (OpenSpec.ofChange fnSetPartsSpec)

/-- ITS FALSE NEIGHBOUR: 'it returns false'. Refute it at one input. -/
def fnSetPartsWrong : ChangeSpec := { name := "fnSetParts", fn := fun _ => fun
  | [d] => { results := [.lit (.bool false)], args := [d] }
  | _ => none }
def FnSetPartsWrongFalsely : Prop := fnSetPartsRow.holds Try.pinned (OpenSpec.ofChange fnSetPartsWrong)

/- THE SECOND FORM. 'bulk': how many values and letters a reading holds, each counted each time it is reached (what is shared counts as often as it is met; a slice's spare places count too). A statement '..UptoSaid' is the law's where the arguments, and the package variables that the reading takes, are together of bulk at most 1048576: NARROWER than '..Said'. Prove '..Said' where nothing that the law and all that it calls make is longer than what came in: it says more and counts as full. Else prove '..UptoSaid'. A law counts once. -/
mutual
def uptoBulk {H : Type} : DataW H → Nat
  | .lit (.string bytes) => bytes.length + 1
  | .lit _ => 1
  | .nil => 1
  | .ptr d => uptoBulk d + 1
  | .slice elems spare => uptoBulkAll elems + uptoBulkAll spare + 1
  | .agg parts => uptoBulkAll parts + 1
  | .iface _ d => uptoBulk d + 1
  | .map entries => uptoBulkEntries entries + 1
  | .held _ => 1
def uptoBulkAll {H : Type} : List (DataW H) → Nat
  | [] => 0
  | d :: r => uptoBulk d + uptoBulkAll r
def uptoBulkEntries {H : Type} : List (Lit × DataW H) → Nat
  | [] => 0
  | x :: r => uptoBulkEntry x + uptoBulkEntries r
def uptoBulkEntry {H : Type} : Lit × DataW H → Nat
  | (.string bytes, d) => bytes.length + uptoBulk d + 1
  | (_, d) => uptoBulk d + 1
 end
def uptoSmall : (H : Type) → List (DataW H) → Bool := fun _ ds => decide (uptoBulkAll ds ≤ 1048576)
def OpenSpec.upto (s : _root_.Go.ChangeSpec) : _root_.Go.OpenSpec := { _root_.Go.OpenSpec.ofChange s with cond := some uptoSmall }

/-- 'laws.FnExactSetOk', WHERE WHAT IT READS IS OF BULK AT MOST 1048576: true; the input reads as it did. -/
def fnExactSetOkUptoRow : OpenClaim := { program := "ytmdhedkgpgoneaa", sum := "71b4d58aac9a28b6d38c875993a082a4ff1c41c0b6026dee54b10d0808b972f2", func := "loop.example/overfare/laws.FnExactSetOk", spec := "fnExactSetOk", unfollowed := true, recurses := true, apart := false, narrowed := true }
def FnExactSetOkUptoSaid : Prop := fnExactSetOkUptoRow.holds Try.pinned (OpenSpec.upto fnExactSetOkSpec)

/-- 'laws.FnExactSetOf', WHERE WHAT IT READS IS OF BULK AT MOST 1048576: true; the input reads as it did. -/
def fnExactSetOfUptoRow : OpenClaim := { program := "ytmdhedkgpgoneaa", sum := "71b4d58aac9a28b6d38c875993a082a4ff1c41c0b6026dee54b10d0808b972f2", func := "loop.example/overfare/laws.FnExactSetOf", spec := "fnExactSetOf", unfollowed := true, recurses := true, apart := false, narrowed := true }
def FnExactSetOfUptoSaid : Prop := fnExactSetOfUptoRow.holds Try.pinned (OpenSpec.upto fnExactSetOfSpec)

/-- 'laws.FnExactSetSize', WHERE WHAT IT READS IS OF BULK AT MOST 1048576: true; the input reads as it did. -/
def fnExactSetSizeUptoRow : OpenClaim := { program := "ytmdhedkgpgoneaa", sum := "71b4d58aac9a28b6d38c875993a082a4ff1c41c0b6026dee54b10d0808b972f2", func := "loop.example/overfare/laws.FnExactSetSize", spec := "fnExactSetSize", unfollowed := true, recurses := true, apart := false, narrowed := true }
def FnExactSetSizeUptoSaid : Prop := fnExactSetSizeUptoRow.holds Try.pinned (OpenSpec.upto fnExactSetSizeSpec)

/-- 'laws.FnExactSetBoth', WHERE WHAT IT READS IS OF BULK AT MOST 1048576: true; the input reads as it did. -/
def fnExactSetBothUptoRow : OpenClaim := { program := "ytmdhedkgpgoneaa", sum := "71b4d58aac9a28b6d38c875993a082a4ff1c41c0b6026dee54b10d0808b972f2", func := "loop.example/overfare/laws.FnExactSetBoth", spec := "fnExactSetBoth", unfollowed := true, recurses := true, apart := false, narrowed := true }
def FnExactSetBothUptoSaid : Prop := fnExactSetBothUptoRow.holds Try.pinned (OpenSpec.upto fnExactSetBothSpec)

/-- 'laws.FnExactSetLess', WHERE WHAT IT READS IS OF BULK AT MOST 1048576: true; the input reads as it did. -/
def fnExactSetLessUptoRow : OpenClaim := { program := "ytmdhedkgpgoneaa", sum := "71b4d58aac9a28b6d38c875993a082a4ff1c41c0b6026dee54b10d0808b972f2", func := "loop.example/overfare/laws.FnExactSetLess", spec := "fnExactSetLess", unfollowed := true, recurses := true, apart := false, narrowed := true }
def FnExactSetLessUptoSaid : Prop := fnExactSetLessUptoRow.holds Try.pinned (OpenSpec.upto fnExactSetLessSpec)

/-- 'laws.FnSetOk', WHERE WHAT IT READS IS OF BULK AT MOST 1048576: true; the input reads as it did. -/
def fnSetOkUptoRow : OpenClaim := { program := "ytmdhedkgpgoneaa", sum := "71b4d58aac9a28b6d38c875993a082a4ff1c41c0b6026dee54b10d0808b972f2", func := "loop.example/overfare/laws.FnSetOk", spec := "fnSetOk", unfollowed := true, recurses := true, apart := false, narrowed := true }
def FnSetOkUptoSaid : Prop := fnSetOkUptoRow.holds Try.pinned (OpenSpec.upto fnSetOkSpec)

/-- 'laws.FnSetUnion', WHERE WHAT IT READS IS OF BULK AT MOST 1048576: true; the input reads as it did. -/
def fnSetUnionUptoRow : OpenClaim := { program := "ytmdhedkgpgoneaa", sum := "71b4d58aac9a28b6d38c875993a082a4ff1c41c0b6026dee54b10d0808b972f2", func := "loop.example/overfare/laws.FnSetUnion", spec := "fnSetUnion", unfollowed := true, recurses := true, apart := false, narrowed := true }
def FnSetUnionUptoSaid : Prop := fnSetUnionUptoRow.holds Try.pinned (OpenSpec.upto fnSetUnionSpec)

/-- 'laws.FnSetTurn', WHERE WHAT IT READS IS OF BULK AT MOST 1048576: true; the input reads as it did. -/
def fnSetTurnUptoRow : OpenClaim := { program := "ytmdhedkgpgoneaa", sum := "71b4d58aac9a28b6d38c875993a082a4ff1c41c0b6026dee54b10d0808b972f2", func := "loop.example/overfare/laws.FnSetTurn", spec := "fnSetTurn", unfollowed := true, recurses := true, apart := false, narrowed := true }
def FnSetTurnUptoSaid : Prop := fnSetTurnUptoRow.holds Try.pinned (OpenSpec.upto fnSetTurnSpec)

/-- 'laws.FnSetBoth', WHERE WHAT IT READS IS OF BULK AT MOST 1048576: true; the input reads as it did. -/
def fnSetBothUptoRow : OpenClaim := { program := "ytmdhedkgpgoneaa", sum := "71b4d58aac9a28b6d38c875993a082a4ff1c41c0b6026dee54b10d0808b972f2", func := "loop.example/overfare/laws.FnSetBoth", spec := "fnSetBoth", unfollowed := true, recurses := true, apart := false, narrowed := true }
def FnSetBothUptoSaid : Prop := fnSetBothUptoRow.holds Try.pinned (OpenSpec.upto fnSetBothSpec)

/-- 'laws.FnSetParts', WHERE WHAT IT READS IS OF BULK AT MOST 1048576: true; the input reads as it did. -/
def fnSetPartsUptoRow : OpenClaim := { program := "ytmdhedkgpgoneaa", sum := "71b4d58aac9a28b6d38c875993a082a4ff1c41c0b6026dee54b10d0808b972f2", func := "loop.example/overfare/laws.FnSetParts", spec := "fnSetParts", unfollowed := true, recurses := true, apart := false, narrowed := true }
def FnSetPartsUptoSaid : Prop := fnSetPartsUptoRow.holds Try.pinned (OpenSpec.upto fnSetPartsSpec)

end Rows
end Go.Proofs.Ytmdhedkgpgoneaa
