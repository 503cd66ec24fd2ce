/-
  No cell of these rows narrows 'for every input' (looked for: loops, veiled, ifaces, maps, wideKeys, modest, calm, conditions, laid).
  DERIVED. THE GIVEN ROWS OF THIS SEAT. 11 by the template 'for every input the law returns true; each argument reads behind the call as it read before'; 0 by the template 'total and deterministic' (their statements: YtlchnflpapfpnaaTotals.lean).
  GIVEN WITH THE SEED: the statements are not yours to turn. If you find one false, say at which input.
  Laid BY PROGRAM, IN A SANDBOX (cutbox-rows.mjs): the forced cells as the released guide's own fill.sh prints them over the translation fd64a80bc37c7b98… (all of the seat's roots in one cut). By AI agents, Wed Nov 11 2026. No macro, syntax, notation, axiom, sorry.
-/
import Derived.Test.YtlchnflpapfpnaaChecked
import GoSem.Claim
import GoSem.ClaimJoined
import GoSem.ClaimMapViews
import Derived.JoinedTies
import Derived.KernelRfl
namespace Go.Proofs.Ytlchnflpapfpnaa
/- THE CELL 'sum', in the pinned program and in every row, IS THE sha256 OF THE DUMP (.gsa) THAT YtlchnflpapfpnaaProg.lean LOADS. Nothing in Lean hashes anything: it is a label: what it is worth is what the hold of that sum in a sandbox is worth. -/
noncomputable def Try.pinned : Pinned := { name := "ytlchnflpapfpnaa", sum := "fd64a80bc37c7b98f3083b0b517e4f8343128289c614245e3923d997c950c23f", checked := Try.checked }
namespace Rows
def none {H : Type} : Left H := { results := [], args := [] }

/-- 'laws.FnExactPacketPut': WHATEVER THE INPUT: true; the input reads as it did. -/
def fnExactPacketPutSpec : ChangeSpec := { name := "fnExactPacketPut", fn := fun _ => fun
  | [d] => { results := [.lit (.bool true)], args := [d] }
  | _ => none }
def fnExactPacketPutRow : OpenClaim := { program := "ytlchnflpapfpnaa", sum := "fd64a80bc37c7b98f3083b0b517e4f8343128289c614245e3923d997c950c23f", func := "loop.example/overfare/laws.FnExactPacketPut", spec := "fnExactPacketPut", apart := false }
def FnExactPacketPutSaid : Prop := fnExactPacketPutRow.holds Try.pinned (OpenSpec.ofChange fnExactPacketPutSpec)

/-- ITS FALSE NEIGHBOUR: 'it returns false'. Refute it at one input. -/
def fnExactPacketPutWrong : ChangeSpec := { name := "fnExactPacketPut", fn := fun _ => fun
  | [d] => { results := [.lit (.bool false)], args := [d] }
  | _ => none }
def FnExactPacketPutWrongFalsely : Prop := fnExactPacketPutRow.holds Try.pinned (OpenSpec.ofChange fnExactPacketPutWrong)

/-- 'laws.FnExactPacketGet': WHATEVER THE INPUT: true; the input reads as it did. -/
def fnExactPacketGetSpec : ChangeSpec := { name := "fnExactPacketGet", fn := fun _ => fun
  | [d] => { results := [.lit (.bool true)], args := [d] }
  | _ => none }
def fnExactPacketGetRow : OpenClaim := { program := "ytlchnflpapfpnaa", sum := "fd64a80bc37c7b98f3083b0b517e4f8343128289c614245e3923d997c950c23f", func := "loop.example/overfare/laws.FnExactPacketGet", spec := "fnExactPacketGet", apart := false }
def FnExactPacketGetSaid : Prop := fnExactPacketGetRow.holds Try.pinned (OpenSpec.ofChange fnExactPacketGetSpec)

/-- ITS FALSE NEIGHBOUR: 'it returns false'. Refute it at one input. -/
def fnExactPacketGetWrong : ChangeSpec := { name := "fnExactPacketGet", fn := fun _ => fun
  | [d] => { results := [.lit (.bool false)], args := [d] }
  | _ => none }
def FnExactPacketGetWrongFalsely : Prop := fnExactPacketGetRow.holds Try.pinned (OpenSpec.ofChange fnExactPacketGetWrong)

/-- 'laws.FnExactWindowOk': WHATEVER THE INPUT: true; the input reads as it did. -/
def fnExactWindowOkSpec : ChangeSpec := { name := "fnExactWindowOk", fn := fun _ => fun
  | [d] => { results := [.lit (.bool true)], args := [d] }
  | _ => none }
def fnExactWindowOkRow : OpenClaim := { program := "ytlchnflpapfpnaa", sum := "fd64a80bc37c7b98f3083b0b517e4f8343128289c614245e3923d997c950c23f", func := "loop.example/overfare/laws.FnExactWindowOk", spec := "fnExactWindowOk", apart := false }
def FnExactWindowOkSaid : Prop := fnExactWindowOkRow.holds Try.pinned (OpenSpec.ofChange fnExactWindowOkSpec)

/-- ITS FALSE NEIGHBOUR: 'it returns false'. Refute it at one input. -/
def fnExactWindowOkWrong : ChangeSpec := { name := "fnExactWindowOk", fn := fun _ => fun
  | [d] => { results := [.lit (.bool false)], args := [d] }
  | _ => none }
def FnExactWindowOkWrongFalsely : Prop := fnExactWindowOkRow.holds Try.pinned (OpenSpec.ofChange fnExactWindowOkWrong)

/-- 'laws.FnExactSaOk': WHATEVER THE INPUT: true; the input reads as it did. -/
def fnExactSaOkSpec : ChangeSpec := { name := "fnExactSaOk", fn := fun _ => fun
  | [d] => { results := [.lit (.bool true)], args := [d] }
  | _ => none }
def fnExactSaOkRow : OpenClaim := { program := "ytlchnflpapfpnaa", sum := "fd64a80bc37c7b98f3083b0b517e4f8343128289c614245e3923d997c950c23f", func := "loop.example/overfare/laws.FnExactSaOk", spec := "fnExactSaOk", apart := false }
def FnExactSaOkSaid : Prop := fnExactSaOkRow.holds Try.pinned (OpenSpec.ofChange fnExactSaOkSpec)

/-- ITS FALSE NEIGHBOUR: 'it returns false'. Refute it at one input. -/
def fnExactSaOkWrong : ChangeSpec := { name := "fnExactSaOk", fn := fun _ => fun
  | [d] => { results := [.lit (.bool false)], args := [d] }
  | _ => none }
def FnExactSaOkWrongFalsely : Prop := fnExactSaOkRow.holds Try.pinned (OpenSpec.ofChange fnExactSaOkWrong)

/-- 'laws.FnPacketText': WHATEVER THE INPUT: true; the input reads as it did. -/
def fnPacketTextSpec : ChangeSpec := { name := "fnPacketText", fn := fun _ => fun
  | [d1, d2] => { results := [.lit (.bool true)], args := [d1, d2] }
  | _ => none }
def fnPacketTextRow : OpenClaim := { program := "ytlchnflpapfpnaa", sum := "fd64a80bc37c7b98f3083b0b517e4f8343128289c614245e3923d997c950c23f", func := "loop.example/overfare/laws.FnPacketText", spec := "fnPacketText", apart := false }
def FnPacketTextSaid : Prop := fnPacketTextRow.holds Try.pinned (OpenSpec.ofChange fnPacketTextSpec)

/-- ITS FALSE NEIGHBOUR: 'it returns false'. Refute it at one input. -/
def fnPacketTextWrong : ChangeSpec := { name := "fnPacketText", fn := fun _ => fun
  | [d1, d2] => { results := [.lit (.bool false)], args := [d1, d2] }
  | _ => none }
def FnPacketTextWrongFalsely : Prop := fnPacketTextRow.holds Try.pinned (OpenSpec.ofChange fnPacketTextWrong)

/-- 'laws.FnExactFill': WHATEVER THE INPUT: true; the input reads as it did. -/
def fnExactFillSpec : ChangeSpec := { name := "fnExactFill", fn := fun _ => fun
  | [d] => { results := [.lit (.bool true)], args := [d] }
  | _ => none }
def fnExactFillRow : OpenClaim := { program := "ytlchnflpapfpnaa", sum := "fd64a80bc37c7b98f3083b0b517e4f8343128289c614245e3923d997c950c23f", func := "loop.example/overfare/laws.FnExactFill", spec := "fnExactFill", inPlace := ["internal/abi.NoEscape", "internal/bytealg.MakeNoZero"], apart := false }
def FnExactFillSaid : Prop := fnExactFillRow.holds Try.pinned (OpenSpec.ofChange fnExactFillSpec)

/-- ITS FALSE NEIGHBOUR: 'it returns false'. Refute it at one input. -/
def fnExactFillWrong : ChangeSpec := { name := "fnExactFill", fn := fun _ => fun
  | [d] => { results := [.lit (.bool false)], args := [d] }
  | _ => none }
def FnExactFillWrongFalsely : Prop := fnExactFillRow.holds Try.pinned (OpenSpec.ofChange fnExactFillWrong)

/-- 'laws.FnExactSaAge': WHATEVER THE INPUT: true; the input reads as it did. -/
def fnExactSaAgeSpec : ChangeSpec := { name := "fnExactSaAge", fn := fun _ => fun
  | [d1, d2] => { results := [.lit (.bool true)], args := [d1, d2] }
  | _ => none }
def fnExactSaAgeRow : OpenClaim := { program := "ytlchnflpapfpnaa", sum := "fd64a80bc37c7b98f3083b0b517e4f8343128289c614245e3923d997c950c23f", func := "loop.example/overfare/laws.FnExactSaAge", spec := "fnExactSaAge", apart := false }
def FnExactSaAgeSaid : Prop := fnExactSaAgeRow.holds Try.pinned (OpenSpec.ofChange fnExactSaAgeSpec)

/-- ITS FALSE NEIGHBOUR: 'it returns false'. Refute it at one input. -/
def fnExactSaAgeWrong : ChangeSpec := { name := "fnExactSaAge", fn := fun _ => fun
  | [d1, d2] => { results := [.lit (.bool false)], args := [d1, d2] }
  | _ => none }
def FnExactSaAgeWrongFalsely : Prop := fnExactSaAgeRow.holds Try.pinned (OpenSpec.ofChange fnExactSaAgeWrong)

/-- 'laws.FnExactUnfill': WHATEVER THE INPUT: true; the input reads as it did. -/
def fnExactUnfillSpec : ChangeSpec := { name := "fnExactUnfill", fn := fun _ => fun
  | [d] => { results := [.lit (.bool true)], args := [d] }
  | _ => none }
def fnExactUnfillRow : OpenClaim := { program := "ytlchnflpapfpnaa", sum := "fd64a80bc37c7b98f3083b0b517e4f8343128289c614245e3923d997c950c23f", func := "loop.example/overfare/laws.FnExactUnfill", spec := "fnExactUnfill", inPlace := ["internal/abi.NoEscape", "internal/bytealg.MakeNoZero"], apart := false }
def FnExactUnfillSaid : Prop := fnExactUnfillRow.holds Try.pinned (OpenSpec.ofChange fnExactUnfillSpec)

/-- ITS FALSE NEIGHBOUR: 'it returns false'. Refute it at one input. -/
def fnExactUnfillWrong : ChangeSpec := { name := "fnExactUnfill", fn := fun _ => fun
  | [d] => { results := [.lit (.bool false)], args := [d] }
  | _ => none }
def FnExactUnfillWrongFalsely : Prop := fnExactUnfillRow.holds Try.pinned (OpenSpec.ofChange fnExactUnfillWrong)

/-- 'laws.FnFill': WHATEVER THE INPUT: true; the input reads as it did. -/
def fnFillSpec : ChangeSpec := { name := "fnFill", fn := fun _ => fun
  | [d] => { results := [.lit (.bool true)], args := [d] }
  | _ => none }
def fnFillRow : OpenClaim := { program := "ytlchnflpapfpnaa", sum := "fd64a80bc37c7b98f3083b0b517e4f8343128289c614245e3923d997c950c23f", func := "loop.example/overfare/laws.FnFill", spec := "fnFill", inPlace := ["internal/abi.NoEscape", "internal/bytealg.MakeNoZero"], apart := false }
def FnFillSaid : Prop := fnFillRow.holds Try.pinned (OpenSpec.ofChange fnFillSpec)

/-- ITS FALSE NEIGHBOUR: 'it returns false'. Refute it at one input. -/
def fnFillWrong : ChangeSpec := { name := "fnFill", fn := fun _ => fun
  | [d] => { results := [.lit (.bool false)], args := [d] }
  | _ => none }
def FnFillWrongFalsely : Prop := fnFillRow.holds Try.pinned (OpenSpec.ofChange fnFillWrong)

/-- 'laws.FnUnfill': WHATEVER THE INPUT: true; the input reads as it did. -/
def fnUnfillSpec : ChangeSpec := { name := "fnUnfill", fn := fun _ => fun
  | [d] => { results := [.lit (.bool true)], args := [d] }
  | _ => none }
def fnUnfillRow : OpenClaim := { program := "ytlchnflpapfpnaa", sum := "fd64a80bc37c7b98f3083b0b517e4f8343128289c614245e3923d997c950c23f", func := "loop.example/overfare/laws.FnUnfill", spec := "fnUnfill", inPlace := ["internal/abi.NoEscape", "internal/bytealg.MakeNoZero"], apart := false }
def FnUnfillSaid : Prop := fnUnfillRow.holds Try.pinned (OpenSpec.ofChange fnUnfillSpec)

/-- ITS FALSE NEIGHBOUR: 'it returns false'. Refute it at one input. -/
def fnUnfillWrong : ChangeSpec := { name := "fnUnfill", fn := fun _ => fun
  | [d] => { results := [.lit (.bool false)], args := [d] }
  | _ => none }
def FnUnfillWrongFalsely : Prop := fnUnfillRow.holds Try.pinned (OpenSpec.ofChange fnUnfillWrong)

/-- 'laws.FnExactGateNew': WHATEVER THE INPUT: true; the input reads as it did. -/
def fnExactGateNewSpec : ChangeSpec := { name := "fnExactGateNew", fn := fun _ => fun
  | [] => { results := [.lit (.bool true)], args := [] }
  | _ => none }
def fnExactGateNewRow : OpenClaim := { program := "ytlchnflpapfpnaa", sum := "fd64a80bc37c7b98f3083b0b517e4f8343128289c614245e3923d997c950c23f", func := "loop.example/overfare/laws.FnExactGateNew", spec := "fnExactGateNew", apart := false }
def FnExactGateNewSaid : Prop := fnExactGateNewRow.holds Try.pinned (OpenSpec.ofChange fnExactGateNewSpec)

/-- ITS FALSE NEIGHBOUR: 'it returns false'. Refute it at one input. -/
def fnExactGateNewWrong : ChangeSpec := { name := "fnExactGateNew", fn := fun _ => fun
  | [] => { results := [.lit (.bool false)], args := [] }
  | _ => none }
def FnExactGateNewWrongFalsely : Prop := fnExactGateNewRow.holds Try.pinned (OpenSpec.ofChange fnExactGateNewWrong)

/- THE SECOND FORM. 'bulk': how many values and letters a reading holds, each counted each time it is reached (what is shared counts as often as it is met; a slice's spare places count too). A statement '..UptoSaid' is the law's where the arguments, and the package variables that the reading takes, are together of bulk at most 1048576: NARROWER than '..Said'. Prove '..Said' where nothing that the law and all that it calls make is longer than what came in: it says more and counts as full. Else prove '..UptoSaid'. A law counts once. -/
mutual
def uptoBulk {H : Type} : DataW H → Nat
  | .lit (.string bytes) => bytes.length + 1
  | .lit _ => 1
  | .nil => 1
  | .ptr d => uptoBulk d + 1
  | .slice elems spare => uptoBulkAll elems + uptoBulkAll spare + 1
  | .agg parts => uptoBulkAll parts + 1
  | .iface _ d => uptoBulk d + 1
  | .map entries => uptoBulkEntries entries + 1
  | .held _ => 1
def uptoBulkAll {H : Type} : List (DataW H) → Nat
  | [] => 0
  | d :: r => uptoBulk d + uptoBulkAll r
def uptoBulkEntries {H : Type} : List (Lit × DataW H) → Nat
  | [] => 0
  | x :: r => uptoBulkEntry x + uptoBulkEntries r
def uptoBulkEntry {H : Type} : Lit × DataW H → Nat
  | (.string bytes, d) => bytes.length + uptoBulk d + 1
  | (_, d) => uptoBulk d + 1
 end
def uptoSmall : (H : Type) → List (DataW H) → Bool := fun _ ds => decide (uptoBulkAll ds ≤ 1048576)
def OpenSpec.upto (s : _root_.Go.ChangeSpec) : _root_.Go.OpenSpec := { _root_.Go.OpenSpec.ofChange s with cond := some uptoSmall }

/-- 'laws.FnExactPacketPut', WHERE WHAT IT READS IS OF BULK AT MOST 1048576: true; the input reads as it did. -/
def fnExactPacketPutUptoRow : OpenClaim := { program := "ytlchnflpapfpnaa", sum := "fd64a80bc37c7b98f3083b0b517e4f8343128289c614245e3923d997c950c23f", func := "loop.example/overfare/laws.FnExactPacketPut", spec := "fnExactPacketPut", apart := false, narrowed := true }
def FnExactPacketPutUptoSaid : Prop := fnExactPacketPutUptoRow.holds Try.pinned (OpenSpec.upto fnExactPacketPutSpec)

/-- 'laws.FnExactPacketGet', WHERE WHAT IT READS IS OF BULK AT MOST 1048576: true; the input reads as it did. -/
def fnExactPacketGetUptoRow : OpenClaim := { program := "ytlchnflpapfpnaa", sum := "fd64a80bc37c7b98f3083b0b517e4f8343128289c614245e3923d997c950c23f", func := "loop.example/overfare/laws.FnExactPacketGet", spec := "fnExactPacketGet", apart := false, narrowed := true }
def FnExactPacketGetUptoSaid : Prop := fnExactPacketGetUptoRow.holds Try.pinned (OpenSpec.upto fnExactPacketGetSpec)

/-- 'laws.FnExactWindowOk', WHERE WHAT IT READS IS OF BULK AT MOST 1048576: true; the input reads as it did. -/
def fnExactWindowOkUptoRow : OpenClaim := { program := "ytlchnflpapfpnaa", sum := "fd64a80bc37c7b98f3083b0b517e4f8343128289c614245e3923d997c950c23f", func := "loop.example/overfare/laws.FnExactWindowOk", spec := "fnExactWindowOk", apart := false, narrowed := true }
def FnExactWindowOkUptoSaid : Prop := fnExactWindowOkUptoRow.holds Try.pinned (OpenSpec.upto fnExactWindowOkSpec)

/-- 'laws.FnExactSaOk', WHERE WHAT IT READS IS OF BULK AT MOST 1048576: true; the input reads as it did. -/
def fnExactSaOkUptoRow : OpenClaim := { program := "ytlchnflpapfpnaa", sum := "fd64a80bc37c7b98f3083b0b517e4f8343128289c614245e3923d997c950c23f", func := "loop.example/overfare/laws.FnExactSaOk", spec := "fnExactSaOk", apart := false, narrowed := true }
def FnExactSaOkUptoSaid : Prop := fnExactSaOkUptoRow.holds Try.pinned (OpenSpec.upto fnExactSaOkSpec)

/-- 'laws.FnPacketText', WHERE WHAT IT READS IS OF BULK AT MOST 1048576: true; the input reads as it did. -/
def fnPacketTextUptoRow : OpenClaim := { program := "ytlchnflpapfpnaa", sum := "fd64a80bc37c7b98f3083b0b517e4f8343128289c614245e3923d997c950c23f", func := "loop.example/overfare/laws.FnPacketText", spec := "fnPacketText", apart := false, narrowed := true }
def FnPacketTextUptoSaid : Prop := fnPacketTextUptoRow.holds Try.pinned (OpenSpec.upto fnPacketTextSpec)

/-- 'laws.FnExactFill', WHERE WHAT IT READS IS OF BULK AT MOST 1048576: true; the input reads as it did. -/
def fnExactFillUptoRow : OpenClaim := { program := "ytlchnflpapfpnaa", sum := "fd64a80bc37c7b98f3083b0b517e4f8343128289c614245e3923d997c950c23f", func := "loop.example/overfare/laws.FnExactFill", spec := "fnExactFill", inPlace := ["internal/abi.NoEscape", "internal/bytealg.MakeNoZero"], apart := false, narrowed := true }
def FnExactFillUptoSaid : Prop := fnExactFillUptoRow.holds Try.pinned (OpenSpec.upto fnExactFillSpec)

/-- 'laws.FnExactSaAge', WHERE WHAT IT READS IS OF BULK AT MOST 1048576: true; the input reads as it did. -/
def fnExactSaAgeUptoRow : OpenClaim := { program := "ytlchnflpapfpnaa", sum := "fd64a80bc37c7b98f3083b0b517e4f8343128289c614245e3923d997c950c23f", func := "loop.example/overfare/laws.FnExactSaAge", spec := "fnExactSaAge", apart := false, narrowed := true }
def FnExactSaAgeUptoSaid : Prop := fnExactSaAgeUptoRow.holds Try.pinned (OpenSpec.upto fnExactSaAgeSpec)

/-- 'laws.FnExactUnfill', WHERE WHAT IT READS IS OF BULK AT MOST 1048576: true; the input reads as it did. -/
def fnExactUnfillUptoRow : OpenClaim := { program := "ytlchnflpapfpnaa", sum := "fd64a80bc37c7b98f3083b0b517e4f8343128289c614245e3923d997c950c23f", func := "loop.example/overfare/laws.FnExactUnfill", spec := "fnExactUnfill", inPlace := ["internal/abi.NoEscape", "internal/bytealg.MakeNoZero"], apart := false, narrowed := true }
def FnExactUnfillUptoSaid : Prop := fnExactUnfillUptoRow.holds Try.pinned (OpenSpec.upto fnExactUnfillSpec)

/-- 'laws.FnFill', WHERE WHAT IT READS IS OF BULK AT MOST 1048576: true; the input reads as it did. -/
def fnFillUptoRow : OpenClaim := { program := "ytlchnflpapfpnaa", sum := "fd64a80bc37c7b98f3083b0b517e4f8343128289c614245e3923d997c950c23f", func := "loop.example/overfare/laws.FnFill", spec := "fnFill", inPlace := ["internal/abi.NoEscape", "internal/bytealg.MakeNoZero"], apart := false, narrowed := true }
def FnFillUptoSaid : Prop := fnFillUptoRow.holds Try.pinned (OpenSpec.upto fnFillSpec)

/-- 'laws.FnUnfill', WHERE WHAT IT READS IS OF BULK AT MOST 1048576: true; the input reads as it did. -/
def fnUnfillUptoRow : OpenClaim := { program := "ytlchnflpapfpnaa", sum := "fd64a80bc37c7b98f3083b0b517e4f8343128289c614245e3923d997c950c23f", func := "loop.example/overfare/laws.FnUnfill", spec := "fnUnfill", inPlace := ["internal/abi.NoEscape", "internal/bytealg.MakeNoZero"], apart := false, narrowed := true }
def FnUnfillUptoSaid : Prop := fnUnfillUptoRow.holds Try.pinned (OpenSpec.upto fnUnfillSpec)

/-- 'laws.FnExactGateNew', WHERE WHAT IT READS IS OF BULK AT MOST 1048576: true; the input reads as it did. -/
def fnExactGateNewUptoRow : OpenClaim := { program := "ytlchnflpapfpnaa", sum := "fd64a80bc37c7b98f3083b0b517e4f8343128289c614245e3923d997c950c23f", func := "loop.example/overfare/laws.FnExactGateNew", spec := "fnExactGateNew", apart := false, narrowed := true }
def FnExactGateNewUptoSaid : Prop := fnExactGateNewUptoRow.holds Try.pinned (OpenSpec.upto fnExactGateNewSpec)

end Rows
end Go.Proofs.Ytlchnflpapfpnaa
