/-
  No cell of these rows narrows 'for every input' (looked for: loops, veiled, ifaces, maps, wideKeys, modest, calm, conditions, laid).
  DERIVED. THE GIVEN ROWS OF THIS SEAT. 12 by the template 'for every input the law returns true; each argument reads behind the call as it read before'; 0 by the template 'total and deterministic' (their statements: YtnkaccacippbfaaTotals.lean).
  GIVEN WITH THE SEED: the statements are not yours to turn. If you find one false, say at which input.
  Laid BY PROGRAM, IN A SANDBOX (cutbox-rows.mjs): the forced cells as the released guide's own fill.sh prints them over the translation acb8df1ec0f6b1f5… (all of the seat's roots in one cut). By AI agents, Wed Nov 11 2026. No macro, syntax, notation, axiom, sorry.
-/
import Derived.Test.YtnkaccacippbfaaChecked
import GoSem.Claim
import GoSem.ClaimJoined
import GoSem.ClaimMapViews
import Derived.JoinedTies
import Derived.KernelRfl
namespace Go.Proofs.Ytnkaccacippbfaa
/- THE CELL 'sum', in the pinned program and in every row, IS THE sha256 OF THE DUMP (.gsa) THAT YtnkaccacippbfaaProg.lean LOADS. Nothing in Lean hashes anything: it is a label: what it is worth is what the hold of that sum in a sandbox is worth. -/
noncomputable def Try.pinned : Pinned := { name := "ytnkaccacippbfaa", sum := "acb8df1ec0f6b1f5124606215eedc7eec9bfab286d9cfed4e77fc7d0b7891854", checked := Try.checked }
namespace Rows
def none {H : Type} : Left H := { results := [], args := [] }

/-- 'laws.FnExactConstants': WHATEVER THE INPUT: true; the input reads as it did. -/
def fnExactConstantsSpec : ChangeSpec := { name := "fnExactConstants", fn := fun _ => fun
  | [] => { results := [.lit (.bool true)], args := [] }
  | _ => none }
def fnExactConstantsRow : OpenClaim := { program := "ytnkaccacippbfaa", sum := "acb8df1ec0f6b1f5124606215eedc7eec9bfab286d9cfed4e77fc7d0b7891854", func := "loop.example/overfare/laws.FnExactConstants", spec := "fnExactConstants", apart := false }
def FnExactConstantsSaid : Prop := fnExactConstantsRow.holds Try.pinned (OpenSpec.ofChange fnExactConstantsSpec)

/-- ITS FALSE NEIGHBOUR: 'it returns false'. Refute it at one input. -/
def fnExactConstantsWrong : ChangeSpec := { name := "fnExactConstants", fn := fun _ => fun
  | [] => { results := [.lit (.bool false)], args := [] }
  | _ => none }
def FnExactConstantsWrongFalsely : Prop := fnExactConstantsRow.holds Try.pinned (OpenSpec.ofChange fnExactConstantsWrong)

/-- 'laws.FnExactCellsMeet': WHATEVER THE INPUT: true; the input reads as it did. -/
def fnExactCellsMeetSpec : ChangeSpec := { name := "fnExactCellsMeet", fn := fun _ => fun
  | [d1, d2] => { results := [.lit (.bool true)], args := [d1, d2] }
  | _ => none }
def fnExactCellsMeetRow : OpenClaim := { program := "ytnkaccacippbfaa", sum := "acb8df1ec0f6b1f5124606215eedc7eec9bfab286d9cfed4e77fc7d0b7891854", func := "loop.example/overfare/laws.FnExactCellsMeet", spec := "fnExactCellsMeet", apart := false }
def FnExactCellsMeetSaid : Prop := fnExactCellsMeetRow.holds Try.pinned (OpenSpec.ofChange fnExactCellsMeetSpec)

/-- ITS FALSE NEIGHBOUR: 'it returns false'. Refute it at one input. -/
def fnExactCellsMeetWrong : ChangeSpec := { name := "fnExactCellsMeet", fn := fun _ => fun
  | [d1, d2] => { results := [.lit (.bool false)], args := [d1, d2] }
  | _ => none }
def FnExactCellsMeetWrongFalsely : Prop := fnExactCellsMeetRow.holds Try.pinned (OpenSpec.ofChange fnExactCellsMeetWrong)

/-- 'laws.FnExactHex': WHATEVER THE INPUT: true; the input reads as it did. -/
def fnExactHexSpec : ChangeSpec := { name := "fnExactHex", fn := fun _ => fun
  | [d] => { results := [.lit (.bool true)], args := [d] }
  | _ => none }
def fnExactHexRow : OpenClaim := { program := "ytnkaccacippbfaa", sum := "acb8df1ec0f6b1f5124606215eedc7eec9bfab286d9cfed4e77fc7d0b7891854", func := "loop.example/overfare/laws.FnExactHex", spec := "fnExactHex", apart := false }
def FnExactHexSaid : Prop := fnExactHexRow.holds Try.pinned (OpenSpec.ofChange fnExactHexSpec)

/-- ITS FALSE NEIGHBOUR: 'it returns false'. Refute it at one input. -/
def fnExactHexWrong : ChangeSpec := { name := "fnExactHex", fn := fun _ => fun
  | [d] => { results := [.lit (.bool false)], args := [d] }
  | _ => none }
def FnExactHexWrongFalsely : Prop := fnExactHexRow.holds Try.pinned (OpenSpec.ofChange fnExactHexWrong)

/-- 'laws.FnExactBlockOk': WHATEVER THE INPUT: true; the input reads as it did. -/
def fnExactBlockOkSpec : ChangeSpec := { name := "fnExactBlockOk", fn := fun _ => fun
  | [d] => { results := [.lit (.bool true)], args := [d] }
  | _ => none }
def fnExactBlockOkRow : OpenClaim := { program := "ytnkaccacippbfaa", sum := "acb8df1ec0f6b1f5124606215eedc7eec9bfab286d9cfed4e77fc7d0b7891854", func := "loop.example/overfare/laws.FnExactBlockOk", spec := "fnExactBlockOk", apart := false }
def FnExactBlockOkSaid : Prop := fnExactBlockOkRow.holds Try.pinned (OpenSpec.ofChange fnExactBlockOkSpec)

/-- ITS FALSE NEIGHBOUR: 'it returns false'. Refute it at one input. -/
def fnExactBlockOkWrong : ChangeSpec := { name := "fnExactBlockOk", fn := fun _ => fun
  | [d] => { results := [.lit (.bool false)], args := [d] }
  | _ => none }
def FnExactBlockOkWrongFalsely : Prop := fnExactBlockOkRow.holds Try.pinned (OpenSpec.ofChange fnExactBlockOkWrong)

/-- 'laws.FnExactPacketOk': WHATEVER THE INPUT: true; the input reads as it did. -/
def fnExactPacketOkSpec : ChangeSpec := { name := "fnExactPacketOk", fn := fun _ => fun
  | [d] => { results := [.lit (.bool true)], args := [d] }
  | _ => none }
def fnExactPacketOkRow : OpenClaim := { program := "ytnkaccacippbfaa", sum := "acb8df1ec0f6b1f5124606215eedc7eec9bfab286d9cfed4e77fc7d0b7891854", func := "loop.example/overfare/laws.FnExactPacketOk", spec := "fnExactPacketOk", apart := false }
def FnExactPacketOkSaid : Prop := fnExactPacketOkRow.holds Try.pinned (OpenSpec.ofChange fnExactPacketOkSpec)

/-- ITS FALSE NEIGHBOUR: 'it returns false'. Refute it at one input. -/
def fnExactPacketOkWrong : ChangeSpec := { name := "fnExactPacketOk", fn := fun _ => fun
  | [d] => { results := [.lit (.bool false)], args := [d] }
  | _ => none }
def FnExactPacketOkWrongFalsely : Prop := fnExactPacketOkRow.holds Try.pinned (OpenSpec.ofChange fnExactPacketOkWrong)

/-- 'laws.FnExactFrameHead': WHATEVER THE INPUT: true; the input reads as it did. -/
def fnExactFrameHeadSpec : ChangeSpec := { name := "fnExactFrameHead", fn := fun _ => fun
  | [d] => { results := [.lit (.bool true)], args := [d] }
  | _ => none }
def fnExactFrameHeadRow : OpenClaim := { program := "ytnkaccacippbfaa", sum := "acb8df1ec0f6b1f5124606215eedc7eec9bfab286d9cfed4e77fc7d0b7891854", func := "loop.example/overfare/laws.FnExactFrameHead", spec := "fnExactFrameHead", apart := false }
def FnExactFrameHeadSaid : Prop := fnExactFrameHeadRow.holds Try.pinned (OpenSpec.ofChange fnExactFrameHeadSpec)

/-- ITS FALSE NEIGHBOUR: 'it returns false'. Refute it at one input. -/
def fnExactFrameHeadWrong : ChangeSpec := { name := "fnExactFrameHead", fn := fun _ => fun
  | [d] => { results := [.lit (.bool false)], args := [d] }
  | _ => none }
def FnExactFrameHeadWrongFalsely : Prop := fnExactFrameHeadRow.holds Try.pinned (OpenSpec.ofChange fnExactFrameHeadWrong)

/-- 'laws.FnExactBlockHas': WHATEVER THE INPUT: true; the input reads as it did. -/
def fnExactBlockHasSpec : ChangeSpec := { name := "fnExactBlockHas", fn := fun _ => fun
  | [d1, d2] => { results := [.lit (.bool true)], args := [d1, d2] }
  | _ => none }
def fnExactBlockHasRow : OpenClaim := { program := "ytnkaccacippbfaa", sum := "acb8df1ec0f6b1f5124606215eedc7eec9bfab286d9cfed4e77fc7d0b7891854", func := "loop.example/overfare/laws.FnExactBlockHas", spec := "fnExactBlockHas", apart := false }
def FnExactBlockHasSaid : Prop := fnExactBlockHasRow.holds Try.pinned (OpenSpec.ofChange fnExactBlockHasSpec)

/-- ITS FALSE NEIGHBOUR: 'it returns false'. Refute it at one input. -/
def fnExactBlockHasWrong : ChangeSpec := { name := "fnExactBlockHas", fn := fun _ => fun
  | [d1, d2] => { results := [.lit (.bool false)], args := [d1, d2] }
  | _ => none }
def FnExactBlockHasWrongFalsely : Prop := fnExactBlockHasRow.holds Try.pinned (OpenSpec.ofChange fnExactBlockHasWrong)

/-- 'laws.FnExactBlockSize': WHATEVER THE INPUT: true; the input reads as it did. -/
def fnExactBlockSizeSpec : ChangeSpec := { name := "fnExactBlockSize", fn := fun _ => fun
  | [d] => { results := [.lit (.bool true)], args := [d] }
  | _ => none }
def fnExactBlockSizeRow : OpenClaim := { program := "ytnkaccacippbfaa", sum := "acb8df1ec0f6b1f5124606215eedc7eec9bfab286d9cfed4e77fc7d0b7891854", func := "loop.example/overfare/laws.FnExactBlockSize", spec := "fnExactBlockSize", apart := false }
def FnExactBlockSizeSaid : Prop := fnExactBlockSizeRow.holds Try.pinned (OpenSpec.ofChange fnExactBlockSizeSpec)

/-- ITS FALSE NEIGHBOUR: 'it returns false'. Refute it at one input. -/
def fnExactBlockSizeWrong : ChangeSpec := { name := "fnExactBlockSize", fn := fun _ => fun
  | [d] => { results := [.lit (.bool false)], args := [d] }
  | _ => none }
def FnExactBlockSizeWrongFalsely : Prop := fnExactBlockSizeRow.holds Try.pinned (OpenSpec.ofChange fnExactBlockSizeWrong)

/-- 'laws.FnExactBlockIn': WHATEVER THE INPUT: true; the input reads as it did. -/
def fnExactBlockInSpec : ChangeSpec := { name := "fnExactBlockIn", fn := fun _ => fun
  | [d1, d2] => { results := [.lit (.bool true)], args := [d1, d2] }
  | _ => none }
def fnExactBlockInRow : OpenClaim := { program := "ytnkaccacippbfaa", sum := "acb8df1ec0f6b1f5124606215eedc7eec9bfab286d9cfed4e77fc7d0b7891854", func := "loop.example/overfare/laws.FnExactBlockIn", spec := "fnExactBlockIn", apart := false }
def FnExactBlockInSaid : Prop := fnExactBlockInRow.holds Try.pinned (OpenSpec.ofChange fnExactBlockInSpec)

/-- ITS FALSE NEIGHBOUR: 'it returns false'. Refute it at one input. -/
def fnExactBlockInWrong : ChangeSpec := { name := "fnExactBlockIn", fn := fun _ => fun
  | [d1, d2] => { results := [.lit (.bool false)], args := [d1, d2] }
  | _ => none }
def FnExactBlockInWrongFalsely : Prop := fnExactBlockInRow.holds Try.pinned (OpenSpec.ofChange fnExactBlockInWrong)

/-- 'laws.FnExactBlockMeets': WHATEVER THE INPUT: true; the input reads as it did. -/
def fnExactBlockMeetsSpec : ChangeSpec := { name := "fnExactBlockMeets", fn := fun _ => fun
  | [d1, d2] => { results := [.lit (.bool true)], args := [d1, d2] }
  | _ => none }
def fnExactBlockMeetsRow : OpenClaim := { program := "ytnkaccacippbfaa", sum := "acb8df1ec0f6b1f5124606215eedc7eec9bfab286d9cfed4e77fc7d0b7891854", func := "loop.example/overfare/laws.FnExactBlockMeets", spec := "fnExactBlockMeets", apart := false }
def FnExactBlockMeetsSaid : Prop := fnExactBlockMeetsRow.holds Try.pinned (OpenSpec.ofChange fnExactBlockMeetsSpec)

/-- ITS FALSE NEIGHBOUR: 'it returns false'. Refute it at one input. -/
def fnExactBlockMeetsWrong : ChangeSpec := { name := "fnExactBlockMeets", fn := fun _ => fun
  | [d1, d2] => { results := [.lit (.bool false)], args := [d1, d2] }
  | _ => none }
def FnExactBlockMeetsWrongFalsely : Prop := fnExactBlockMeetsRow.holds Try.pinned (OpenSpec.ofChange fnExactBlockMeetsWrong)

/-- 'laws.FnExactBlockHalves': WHATEVER THE INPUT: true; the input reads as it did. -/
def fnExactBlockHalvesSpec : ChangeSpec := { name := "fnExactBlockHalves", fn := fun _ => fun
  | [d] => { results := [.lit (.bool true)], args := [d] }
  | _ => none }
def fnExactBlockHalvesRow : OpenClaim := { program := "ytnkaccacippbfaa", sum := "acb8df1ec0f6b1f5124606215eedc7eec9bfab286d9cfed4e77fc7d0b7891854", func := "loop.example/overfare/laws.FnExactBlockHalves", spec := "fnExactBlockHalves", apart := false }
def FnExactBlockHalvesSaid : Prop := fnExactBlockHalvesRow.holds Try.pinned (OpenSpec.ofChange fnExactBlockHalvesSpec)

/-- ITS FALSE NEIGHBOUR: 'it returns false'. Refute it at one input. -/
def fnExactBlockHalvesWrong : ChangeSpec := { name := "fnExactBlockHalves", fn := fun _ => fun
  | [d] => { results := [.lit (.bool false)], args := [d] }
  | _ => none }
def FnExactBlockHalvesWrongFalsely : Prop := fnExactBlockHalvesRow.holds Try.pinned (OpenSpec.ofChange fnExactBlockHalvesWrong)

/-- 'laws.FnHex': WHATEVER THE INPUT: true; the input reads as it did. -/
def fnHexSpec : ChangeSpec := { name := "fnHex", fn := fun _ => fun
  | [d] => { results := [.lit (.bool true)], args := [d] }
  | _ => none }
def fnHexRow : OpenClaim := { program := "ytnkaccacippbfaa", sum := "acb8df1ec0f6b1f5124606215eedc7eec9bfab286d9cfed4e77fc7d0b7891854", func := "loop.example/overfare/laws.FnHex", spec := "fnHex", apart := false }
def FnHexSaid : Prop := fnHexRow.holds Try.pinned (OpenSpec.ofChange fnHexSpec)

/-- ITS FALSE NEIGHBOUR: 'it returns false'. Refute it at one input. -/
def fnHexWrong : ChangeSpec := { name := "fnHex", fn := fun _ => fun
  | [d] => { results := [.lit (.bool false)], args := [d] }
  | _ => none }
def FnHexWrongFalsely : Prop := fnHexRow.holds Try.pinned (OpenSpec.ofChange fnHexWrong)

/- THE SECOND FORM. 'bulk': how many values and letters a reading holds, each counted each time it is reached (what is shared counts as often as it is met; a slice's spare places count too). A statement '..UptoSaid' is the law's where the arguments, and the package variables that the reading takes, are together of bulk at most 1048576: NARROWER than '..Said'. Prove '..Said' where nothing that the law and all that it calls make is longer than what came in: it says more and counts as full. Else prove '..UptoSaid'. A law counts once. -/
mutual
def uptoBulk {H : Type} : DataW H → Nat
  | .lit (.string bytes) => bytes.length + 1
  | .lit _ => 1
  | .nil => 1
  | .ptr d => uptoBulk d + 1
  | .slice elems spare => uptoBulkAll elems + uptoBulkAll spare + 1
  | .agg parts => uptoBulkAll parts + 1
  | .iface _ d => uptoBulk d + 1
  | .map entries => uptoBulkEntries entries + 1
  | .held _ => 1
def uptoBulkAll {H : Type} : List (DataW H) → Nat
  | [] => 0
  | d :: r => uptoBulk d + uptoBulkAll r
def uptoBulkEntries {H : Type} : List (Lit × DataW H) → Nat
  | [] => 0
  | x :: r => uptoBulkEntry x + uptoBulkEntries r
def uptoBulkEntry {H : Type} : Lit × DataW H → Nat
  | (.string bytes, d) => bytes.length + uptoBulk d + 1
  | (_, d) => uptoBulk d + 1
 end
def uptoSmall : (H : Type) → List (DataW H) → Bool := fun _ ds => decide (uptoBulkAll ds ≤ 1048576)
def OpenSpec.upto (s : _root_.Go.ChangeSpec) : _root_.Go.OpenSpec := { _root_.Go.OpenSpec.ofChange s with cond := some uptoSmall }

/-- 'laws.FnExactConstants', WHERE WHAT IT READS IS OF BULK AT MOST 1048576: true; the input reads as it did. -/
def fnExactConstantsUptoRow : OpenClaim := { program := "ytnkaccacippbfaa", sum := "acb8df1ec0f6b1f5124606215eedc7eec9bfab286d9cfed4e77fc7d0b7891854", func := "loop.example/overfare/laws.FnExactConstants", spec := "fnExactConstants", apart := false, narrowed := true }
def FnExactConstantsUptoSaid : Prop := fnExactConstantsUptoRow.holds Try.pinned (OpenSpec.upto fnExactConstantsSpec)

/-- 'laws.FnExactCellsMeet', WHERE WHAT IT READS IS OF BULK AT MOST 1048576: true; the input reads as it did. -/
def fnExactCellsMeetUptoRow : OpenClaim := { program := "ytnkaccacippbfaa", sum := "acb8df1ec0f6b1f5124606215eedc7eec9bfab286d9cfed4e77fc7d0b7891854", func := "loop.example/overfare/laws.FnExactCellsMeet", spec := "fnExactCellsMeet", apart := false, narrowed := true }
def FnExactCellsMeetUptoSaid : Prop := fnExactCellsMeetUptoRow.holds Try.pinned (OpenSpec.upto fnExactCellsMeetSpec)

/-- 'laws.FnExactHex', WHERE WHAT IT READS IS OF BULK AT MOST 1048576: true; the input reads as it did. -/
def fnExactHexUptoRow : OpenClaim := { program := "ytnkaccacippbfaa", sum := "acb8df1ec0f6b1f5124606215eedc7eec9bfab286d9cfed4e77fc7d0b7891854", func := "loop.example/overfare/laws.FnExactHex", spec := "fnExactHex", apart := false, narrowed := true }
def FnExactHexUptoSaid : Prop := fnExactHexUptoRow.holds Try.pinned (OpenSpec.upto fnExactHexSpec)

/-- 'laws.FnExactBlockOk', WHERE WHAT IT READS IS OF BULK AT MOST 1048576: true; the input reads as it did. -/
def fnExactBlockOkUptoRow : OpenClaim := { program := "ytnkaccacippbfaa", sum := "acb8df1ec0f6b1f5124606215eedc7eec9bfab286d9cfed4e77fc7d0b7891854", func := "loop.example/overfare/laws.FnExactBlockOk", spec := "fnExactBlockOk", apart := false, narrowed := true }
def FnExactBlockOkUptoSaid : Prop := fnExactBlockOkUptoRow.holds Try.pinned (OpenSpec.upto fnExactBlockOkSpec)

/-- 'laws.FnExactPacketOk', WHERE WHAT IT READS IS OF BULK AT MOST 1048576: true; the input reads as it did. -/
def fnExactPacketOkUptoRow : OpenClaim := { program := "ytnkaccacippbfaa", sum := "acb8df1ec0f6b1f5124606215eedc7eec9bfab286d9cfed4e77fc7d0b7891854", func := "loop.example/overfare/laws.FnExactPacketOk", spec := "fnExactPacketOk", apart := false, narrowed := true }
def FnExactPacketOkUptoSaid : Prop := fnExactPacketOkUptoRow.holds Try.pinned (OpenSpec.upto fnExactPacketOkSpec)

/-- 'laws.FnExactFrameHead', WHERE WHAT IT READS IS OF BULK AT MOST 1048576: true; the input reads as it did. -/
def fnExactFrameHeadUptoRow : OpenClaim := { program := "ytnkaccacippbfaa", sum := "acb8df1ec0f6b1f5124606215eedc7eec9bfab286d9cfed4e77fc7d0b7891854", func := "loop.example/overfare/laws.FnExactFrameHead", spec := "fnExactFrameHead", apart := false, narrowed := true }
def FnExactFrameHeadUptoSaid : Prop := fnExactFrameHeadUptoRow.holds Try.pinned (OpenSpec.upto fnExactFrameHeadSpec)

/-- 'laws.FnExactBlockHas', WHERE WHAT IT READS IS OF BULK AT MOST 1048576: true; the input reads as it did. -/
def fnExactBlockHasUptoRow : OpenClaim := { program := "ytnkaccacippbfaa", sum := "acb8df1ec0f6b1f5124606215eedc7eec9bfab286d9cfed4e77fc7d0b7891854", func := "loop.example/overfare/laws.FnExactBlockHas", spec := "fnExactBlockHas", apart := false, narrowed := true }
def FnExactBlockHasUptoSaid : Prop := fnExactBlockHasUptoRow.holds Try.pinned (OpenSpec.upto fnExactBlockHasSpec)

/-- 'laws.FnExactBlockSize', WHERE WHAT IT READS IS OF BULK AT MOST 1048576: true; the input reads as it did. -/
def fnExactBlockSizeUptoRow : OpenClaim := { program := "ytnkaccacippbfaa", sum := "acb8df1ec0f6b1f5124606215eedc7eec9bfab286d9cfed4e77fc7d0b7891854", func := "loop.example/overfare/laws.FnExactBlockSize", spec := "fnExactBlockSize", apart := false, narrowed := true }
def FnExactBlockSizeUptoSaid : Prop := fnExactBlockSizeUptoRow.holds Try.pinned (OpenSpec.upto fnExactBlockSizeSpec)

/-- 'laws.FnExactBlockIn', WHERE WHAT IT READS IS OF BULK AT MOST 1048576: true; the input reads as it did. -/
def fnExactBlockInUptoRow : OpenClaim := { program := "ytnkaccacippbfaa", sum := "acb8df1ec0f6b1f5124606215eedc7eec9bfab286d9cfed4e77fc7d0b7891854", func := "loop.example/overfare/laws.FnExactBlockIn", spec := "fnExactBlockIn", apart := false, narrowed := true }
def FnExactBlockInUptoSaid : Prop := fnExactBlockInUptoRow.holds Try.pinned (OpenSpec.upto fnExactBlockInSpec)

/-- 'laws.FnExactBlockMeets', WHERE WHAT IT READS IS OF BULK AT MOST 1048576: true; the input reads as it did. -/
def fnExactBlockMeetsUptoRow : OpenClaim := { program := "ytnkaccacippbfaa", sum := "acb8df1ec0f6b1f5124606215eedc7eec9bfab286d9cfed4e77fc7d0b7891854", func := "loop.example/overfare/laws.FnExactBlockMeets", spec := "fnExactBlockMeets", apart := false, narrowed := true }
def FnExactBlockMeetsUptoSaid : Prop := fnExactBlockMeetsUptoRow.holds Try.pinned (OpenSpec.upto fnExactBlockMeetsSpec)

/-- 'laws.FnExactBlockHalves', WHERE WHAT IT READS IS OF BULK AT MOST 1048576: true; the input reads as it did. -/
def fnExactBlockHalvesUptoRow : OpenClaim := { program := "ytnkaccacippbfaa", sum := "acb8df1ec0f6b1f5124606215eedc7eec9bfab286d9cfed4e77fc7d0b7891854", func := "loop.example/overfare/laws.FnExactBlockHalves", spec := "fnExactBlockHalves", apart := false, narrowed := true }
def FnExactBlockHalvesUptoSaid : Prop := fnExactBlockHalvesUptoRow.holds Try.pinned (OpenSpec.upto fnExactBlockHalvesSpec)

/-- 'laws.FnHex', WHERE WHAT IT READS IS OF BULK AT MOST 1048576: true; the input reads as it did. -/
def fnHexUptoRow : OpenClaim := { program := "ytnkaccacippbfaa", sum := "acb8df1ec0f6b1f5124606215eedc7eec9bfab286d9cfed4e77fc7d0b7891854", func := "loop.example/overfare/laws.FnHex", spec := "fnHex", apart := false, narrowed := true }
def FnHexUptoSaid : Prop := fnHexUptoRow.holds Try.pinned (OpenSpec.upto fnHexSpec)

end Rows
end Go.Proofs.Ytnkaccacippbfaa
