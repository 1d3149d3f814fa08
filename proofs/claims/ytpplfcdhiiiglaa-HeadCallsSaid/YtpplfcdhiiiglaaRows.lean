/-
  No cell of these rows narrows 'for every input' (looked for: loops, veiled, ifaces, maps, wideKeys, modest, calm, conditions, laid).
  DERIVED. THE GIVEN ROWS OF THIS SEAT. 10 by the template 'for every input the law returns true; each argument reads behind the call as it read before'; 0 by the template 'total and deterministic' (their statements: YtpplfcdhiiiglaaTotals.lean).
  GIVEN WITH THE SEED: the statements are not yours to turn. If you find one false, say at which input.
  Laid BY PROGRAM, IN A SANDBOX (cutbox-rows.mjs): the forced cells as the released guide's own fill.sh prints them over the translation ca19ba819c294738… (all of the seat's roots in one cut). By AI agents, Wed Nov 11 2026. No macro, syntax, notation, axiom, sorry.
-/
import Derived.Test.YtpplfcdhiiiglaaChecked
import GoSem.Claim
import GoSem.ClaimJoined
import GoSem.ClaimMapViews
import Derived.JoinedTies
import Derived.KernelRfl
namespace Go.Proofs.Ytpplfcdhiiiglaa
/- THE CELL 'sum', in the pinned program and in every row, IS THE sha256 OF THE DUMP (.gsa) THAT YtpplfcdhiiiglaaProg.lean LOADS. Nothing in Lean hashes anything: it is a label: what it is worth is what the hold of that sum in a sandbox is worth. -/
noncomputable def Try.pinned : Pinned := { name := "ytpplfcdhiiiglaa", sum := "ca19ba819c2947383cab144d10bfbe9358a5129ad6cd32a86ae0585269ac0965", checked := Try.checked }
namespace Rows
def none {H : Type} : Left H := { results := [], args := [] }

/-- 'polyglotlaw02.VarintPushes': WHATEVER THE INPUT: true; the input reads as it did. -/
def varintPushesSpec : ChangeSpec := { name := "varintPushes", fn := fun _ => fun
  | [d1, d2] => { results := [.lit (.bool true)], args := [d1, d2] }
  | _ => none }
def varintPushesRow : OpenClaim := { program := "ytpplfcdhiiiglaa", sum := "ca19ba819c2947383cab144d10bfbe9358a5129ad6cd32a86ae0585269ac0965", func := "polyglot/polyglotlaw02.VarintPushes", spec := "varintPushes", apart := false }
def VarintPushesSaid : Prop := varintPushesRow.holds Try.pinned (OpenSpec.ofChange varintPushesSpec)

/-- ITS FALSE NEIGHBOUR: 'it returns false'. Refute it at one input. -/
def varintPushesWrong : ChangeSpec := { name := "varintPushes", fn := fun _ => fun
  | [d1, d2] => { results := [.lit (.bool false)], args := [d1, d2] }
  | _ => none }
def VarintPushesWrongFalsely : Prop := varintPushesRow.holds Try.pinned (OpenSpec.ofChange varintPushesWrong)

/-- 'polyglotlaw02.VarintCalls': WHATEVER THE INPUT: true; the input reads as it did. -/
def varintCallsSpec : ChangeSpec := { name := "varintCalls", fn := fun _ => fun
  | [d1, d2] => { results := [.lit (.bool true)], args := [d1, d2] }
  | _ => none }
def varintCallsRow : OpenClaim := { program := "ytpplfcdhiiiglaa", sum := "ca19ba819c2947383cab144d10bfbe9358a5129ad6cd32a86ae0585269ac0965", func := "polyglot/polyglotlaw02.VarintCalls", spec := "varintCalls", apart := false }
def VarintCallsSaid : Prop := varintCallsRow.holds Try.pinned (OpenSpec.ofChange varintCallsSpec)

/-- ITS FALSE NEIGHBOUR: 'it returns false'. Refute it at one input. -/
def varintCallsWrong : ChangeSpec := { name := "varintCalls", fn := fun _ => fun
  | [d1, d2] => { results := [.lit (.bool false)], args := [d1, d2] }
  | _ => none }
def VarintCallsWrongFalsely : Prop := varintCallsRow.holds Try.pinned (OpenSpec.ofChange varintCallsWrong)

/-- 'polyglotlaw02.VarintBack': WHATEVER THE INPUT: true; the input reads as it did. -/
def varintBackSpec : ChangeSpec := { name := "varintBack", fn := fun _ => fun
  | [d1, d2, d3] => { results := [.lit (.bool true)], args := [d1, d2, d3] }
  | _ => none }
def varintBackRow : OpenClaim := { program := "ytpplfcdhiiiglaa", sum := "ca19ba819c2947383cab144d10bfbe9358a5129ad6cd32a86ae0585269ac0965", func := "polyglot/polyglotlaw02.VarintBack", spec := "varintBack", apart := false }
def VarintBackSaid : Prop := varintBackRow.holds Try.pinned (OpenSpec.ofChange varintBackSpec)

/-- ITS FALSE NEIGHBOUR: 'it returns false'. Refute it at one input. -/
def varintBackWrong : ChangeSpec := { name := "varintBack", fn := fun _ => fun
  | [d1, d2, d3] => { results := [.lit (.bool false)], args := [d1, d2, d3] }
  | _ => none }
def VarintBackWrongFalsely : Prop := varintBackRow.holds Try.pinned (OpenSpec.ofChange varintBackWrong)

/-- 'polyglotlaw02.VarintFronts': WHATEVER THE INPUT: true; the input reads as it did. -/
def varintFrontsSpec : ChangeSpec := { name := "varintFronts", fn := fun _ => fun
  | [d1, d2] => { results := [.lit (.bool true)], args := [d1, d2] }
  | _ => none }
def varintFrontsRow : OpenClaim := { program := "ytpplfcdhiiiglaa", sum := "ca19ba819c2947383cab144d10bfbe9358a5129ad6cd32a86ae0585269ac0965", func := "polyglot/polyglotlaw02.VarintFronts", spec := "varintFronts", apart := false }
def VarintFrontsSaid : Prop := varintFrontsRow.holds Try.pinned (OpenSpec.ofChange varintFrontsSpec)

/-- ITS FALSE NEIGHBOUR: 'it returns false'. Refute it at one input. -/
def varintFrontsWrong : ChangeSpec := { name := "varintFronts", fn := fun _ => fun
  | [d1, d2] => { results := [.lit (.bool false)], args := [d1, d2] }
  | _ => none }
def VarintFrontsWrongFalsely : Prop := varintFrontsRow.holds Try.pinned (OpenSpec.ofChange varintFrontsWrong)

/-- 'polyglotlaw02.VarintNames': WHATEVER THE INPUT: true; the input reads as it did. -/
def varintNamesSpec : ChangeSpec := { name := "varintNames", fn := fun _ => fun
  | [] => { results := [.lit (.bool true)], args := [] }
  | _ => none }
def varintNamesRow : OpenClaim := { program := "ytpplfcdhiiiglaa", sum := "ca19ba819c2947383cab144d10bfbe9358a5129ad6cd32a86ae0585269ac0965", func := "polyglot/polyglotlaw02.VarintNames", spec := "varintNames", apart := false }
def VarintNamesSaid : Prop := varintNamesRow.holds Try.pinned (OpenSpec.ofChange varintNamesSpec)

/-- ITS FALSE NEIGHBOUR: 'it returns false'. Refute it at one input. -/
def varintNamesWrong : ChangeSpec := { name := "varintNames", fn := fun _ => fun
  | [] => { results := [.lit (.bool false)], args := [] }
  | _ => none }
def VarintNamesWrongFalsely : Prop := varintNamesRow.holds Try.pinned (OpenSpec.ofChange varintNamesWrong)

/-- 'polyglotlaw07.HeadFlags': WHATEVER THE INPUT: true; the input reads as it did. -/
def headFlagsSpec : ChangeSpec := { name := "headFlags", fn := fun _ => fun
  | [d1, d2, d3, d4, d5, d6] => { results := [.lit (.bool true)], args := [d1, d2, d3, d4, d5, d6] }
  | _ => none }
def headFlagsRow : OpenClaim := { program := "ytpplfcdhiiiglaa", sum := "ca19ba819c2947383cab144d10bfbe9358a5129ad6cd32a86ae0585269ac0965", func := "polyglot/polyglotlaw07.HeadFlags", spec := "headFlags", apart := false }
def HeadFlagsSaid : Prop := headFlagsRow.holds Try.pinned (OpenSpec.ofChange headFlagsSpec)

/-- ITS FALSE NEIGHBOUR: 'it returns false'. Refute it at one input. -/
def headFlagsWrong : ChangeSpec := { name := "headFlags", fn := fun _ => fun
  | [d1, d2, d3, d4, d5, d6] => { results := [.lit (.bool false)], args := [d1, d2, d3, d4, d5, d6] }
  | _ => none }
def HeadFlagsWrongFalsely : Prop := headFlagsRow.holds Try.pinned (OpenSpec.ofChange headFlagsWrong)

/-- 'polyglotlaw07.HeadBack': WHATEVER THE INPUT: true; the input reads as it did. -/
def headBackSpec : ChangeSpec := { name := "headBack", fn := fun _ => fun
  | [d1, d2, d3, d4] => { results := [.lit (.bool true)], args := [d1, d2, d3, d4] }
  | _ => none }
def headBackRow : OpenClaim := { program := "ytpplfcdhiiiglaa", sum := "ca19ba819c2947383cab144d10bfbe9358a5129ad6cd32a86ae0585269ac0965", func := "polyglot/polyglotlaw07.HeadBack", spec := "headBack", apart := false }
def HeadBackSaid : Prop := headBackRow.holds Try.pinned (OpenSpec.ofChange headBackSpec)

/-- ITS FALSE NEIGHBOUR: 'it returns false'. Refute it at one input. -/
def headBackWrong : ChangeSpec := { name := "headBack", fn := fun _ => fun
  | [d1, d2, d3, d4] => { results := [.lit (.bool false)], args := [d1, d2, d3, d4] }
  | _ => none }
def HeadBackWrongFalsely : Prop := headBackRow.holds Try.pinned (OpenSpec.ofChange headBackWrong)

/-- 'polyglotlaw07.HeadBoth': WHATEVER THE INPUT: true; the input reads as it did. -/
def headBothSpec : ChangeSpec := { name := "headBoth", fn := fun _ => fun
  | [d] => { results := [.lit (.bool true)], args := [d] }
  | _ => none }
def headBothRow : OpenClaim := { program := "ytpplfcdhiiiglaa", sum := "ca19ba819c2947383cab144d10bfbe9358a5129ad6cd32a86ae0585269ac0965", func := "polyglot/polyglotlaw07.HeadBoth", spec := "headBoth", apart := false }
def HeadBothSaid : Prop := headBothRow.holds Try.pinned (OpenSpec.ofChange headBothSpec)

/-- ITS FALSE NEIGHBOUR: 'it returns false'. Refute it at one input. -/
def headBothWrong : ChangeSpec := { name := "headBoth", fn := fun _ => fun
  | [d] => { results := [.lit (.bool false)], args := [d] }
  | _ => none }
def HeadBothWrongFalsely : Prop := headBothRow.holds Try.pinned (OpenSpec.ofChange headBothWrong)

/-- 'polyglotlaw07.HeadNames': WHATEVER THE INPUT: true; the input reads as it did. -/
def headNamesSpec : ChangeSpec := { name := "headNames", fn := fun _ => fun
  | [] => { results := [.lit (.bool true)], args := [] }
  | _ => none }
def headNamesRow : OpenClaim := { program := "ytpplfcdhiiiglaa", sum := "ca19ba819c2947383cab144d10bfbe9358a5129ad6cd32a86ae0585269ac0965", func := "polyglot/polyglotlaw07.HeadNames", spec := "headNames", unfollowed := true, recurses := true, apart := false }
def HeadNamesSaid : Prop := headNamesRow.holds Try.pinned (OpenSpec.ofChange headNamesSpec)

/-- ITS FALSE NEIGHBOUR: 'it returns false'. Refute it at one input. -/
def headNamesWrong : ChangeSpec := { name := "headNames", fn := fun _ => fun
  | [] => { results := [.lit (.bool false)], args := [] }
  | _ => none }
def HeadNamesWrongFalsely : Prop := headNamesRow.holds Try.pinned (OpenSpec.ofChange headNamesWrong)

/-- 'polyglotlaw07.HeadCalls': WHATEVER THE INPUT: true; the input reads as it did. -/
def headCallsSpec : ChangeSpec := { name := "headCalls", fn := fun _ => fun
  | [d1, d2, d3, d4, d5] => { results := [.lit (.bool true)], args := [d1, d2, d3, d4, d5] }
  | _ => none }
def headCallsRow : OpenClaim := { program := "ytpplfcdhiiiglaa", sum := "ca19ba819c2947383cab144d10bfbe9358a5129ad6cd32a86ae0585269ac0965", func := "polyglot/polyglotlaw07.HeadCalls", spec := "headCalls", unfollowed := true, recurses := true, apart := false }
def HeadCallsSaid : Prop := headCallsRow.holds Try.pinned (OpenSpec.ofChange headCallsSpec)

/-- ITS FALSE NEIGHBOUR: 'it returns false'. Refute it at one input. -/
def headCallsWrong : ChangeSpec := { name := "headCalls", fn := fun _ => fun
  | [d1, d2, d3, d4, d5] => { results := [.lit (.bool false)], args := [d1, d2, d3, d4, d5] }
  | _ => none }
def HeadCallsWrongFalsely : Prop := headCallsRow.holds Try.pinned (OpenSpec.ofChange headCallsWrong)

/- THE SECOND FORM. 'bulk': how many values and letters a reading holds, each counted each time it is reached (what is shared counts as often as it is met; a slice's spare places count too). A statement '..UptoSaid' is the law's where the arguments, and the package variables that the reading takes, are together of bulk at most 1048576: NARROWER than '..Said'. Prove '..Said' where nothing that the law and all that it calls make is longer than what came in: it says more and counts as full. Else prove '..UptoSaid'. A law counts once. -/
mutual
def uptoBulk {H : Type} : DataW H → Nat
  | .lit (.string bytes) => bytes.length + 1
  | .lit _ => 1
  | .nil => 1
  | .ptr d => uptoBulk d + 1
  | .slice elems spare => uptoBulkAll elems + uptoBulkAll spare + 1
  | .agg parts => uptoBulkAll parts + 1
  | .iface _ d => uptoBulk d + 1
  | .map entries => uptoBulkEntries entries + 1
  | .held _ => 1
def uptoBulkAll {H : Type} : List (DataW H) → Nat
  | [] => 0
  | d :: r => uptoBulk d + uptoBulkAll r
def uptoBulkEntries {H : Type} : List (Lit × DataW H) → Nat
  | [] => 0
  | x :: r => uptoBulkEntry x + uptoBulkEntries r
def uptoBulkEntry {H : Type} : Lit × DataW H → Nat
  | (.string bytes, d) => bytes.length + uptoBulk d + 1
  | (_, d) => uptoBulk d + 1
 end
def uptoSmall : (H : Type) → List (DataW H) → Bool := fun _ ds => decide (uptoBulkAll ds ≤ 1048576)
def OpenSpec.upto (s : _root_.Go.ChangeSpec) : _root_.Go.OpenSpec := { _root_.Go.OpenSpec.ofChange s with cond := some uptoSmall }

/-- 'polyglotlaw02.VarintPushes', WHERE WHAT IT READS IS OF BULK AT MOST 1048576: true; the input reads as it did. -/
def varintPushesUptoRow : OpenClaim := { program := "ytpplfcdhiiiglaa", sum := "ca19ba819c2947383cab144d10bfbe9358a5129ad6cd32a86ae0585269ac0965", func := "polyglot/polyglotlaw02.VarintPushes", spec := "varintPushes", apart := false, narrowed := true }
def VarintPushesUptoSaid : Prop := varintPushesUptoRow.holds Try.pinned (OpenSpec.upto varintPushesSpec)

/-- 'polyglotlaw02.VarintCalls', WHERE WHAT IT READS IS OF BULK AT MOST 1048576: true; the input reads as it did. -/
def varintCallsUptoRow : OpenClaim := { program := "ytpplfcdhiiiglaa", sum := "ca19ba819c2947383cab144d10bfbe9358a5129ad6cd32a86ae0585269ac0965", func := "polyglot/polyglotlaw02.VarintCalls", spec := "varintCalls", apart := false, narrowed := true }
def VarintCallsUptoSaid : Prop := varintCallsUptoRow.holds Try.pinned (OpenSpec.upto varintCallsSpec)

/-- 'polyglotlaw02.VarintBack', WHERE WHAT IT READS IS OF BULK AT MOST 1048576: true; the input reads as it did. -/
def varintBackUptoRow : OpenClaim := { program := "ytpplfcdhiiiglaa", sum := "ca19ba819c2947383cab144d10bfbe9358a5129ad6cd32a86ae0585269ac0965", func := "polyglot/polyglotlaw02.VarintBack", spec := "varintBack", apart := false, narrowed := true }
def VarintBackUptoSaid : Prop := varintBackUptoRow.holds Try.pinned (OpenSpec.upto varintBackSpec)

/-- 'polyglotlaw02.VarintFronts', WHERE WHAT IT READS IS OF BULK AT MOST 1048576: true; the input reads as it did. -/
def varintFrontsUptoRow : OpenClaim := { program := "ytpplfcdhiiiglaa", sum := "ca19ba819c2947383cab144d10bfbe9358a5129ad6cd32a86ae0585269ac0965", func := "polyglot/polyglotlaw02.VarintFronts", spec := "varintFronts", apart := false, narrowed := true }
def VarintFrontsUptoSaid : Prop := varintFrontsUptoRow.holds Try.pinned (OpenSpec.upto varintFrontsSpec)

/-- 'polyglotlaw02.VarintNames', WHERE WHAT IT READS IS OF BULK AT MOST 1048576: true; the input reads as it did. -/
def varintNamesUptoRow : OpenClaim := { program := "ytpplfcdhiiiglaa", sum := "ca19ba819c2947383cab144d10bfbe9358a5129ad6cd32a86ae0585269ac0965", func := "polyglot/polyglotlaw02.VarintNames", spec := "varintNames", apart := false, narrowed := true }
def VarintNamesUptoSaid : Prop := varintNamesUptoRow.holds Try.pinned (OpenSpec.upto varintNamesSpec)

/-- 'polyglotlaw07.HeadFlags', WHERE WHAT IT READS IS OF BULK AT MOST 1048576: true; the input reads as it did. -/
def headFlagsUptoRow : OpenClaim := { program := "ytpplfcdhiiiglaa", sum := "ca19ba819c2947383cab144d10bfbe9358a5129ad6cd32a86ae0585269ac0965", func := "polyglot/polyglotlaw07.HeadFlags", spec := "headFlags", apart := false, narrowed := true }
def HeadFlagsUptoSaid : Prop := headFlagsUptoRow.holds Try.pinned (OpenSpec.upto headFlagsSpec)

/-- 'polyglotlaw07.HeadBack', WHERE WHAT IT READS IS OF BULK AT MOST 1048576: true; the input reads as it did. -/
def headBackUptoRow : OpenClaim := { program := "ytpplfcdhiiiglaa", sum := "ca19ba819c2947383cab144d10bfbe9358a5129ad6cd32a86ae0585269ac0965", func := "polyglot/polyglotlaw07.HeadBack", spec := "headBack", apart := false, narrowed := true }
def HeadBackUptoSaid : Prop := headBackUptoRow.holds Try.pinned (OpenSpec.upto headBackSpec)

/-- 'polyglotlaw07.HeadBoth', WHERE WHAT IT READS IS OF BULK AT MOST 1048576: true; the input reads as it did. -/
def headBothUptoRow : OpenClaim := { program := "ytpplfcdhiiiglaa", sum := "ca19ba819c2947383cab144d10bfbe9358a5129ad6cd32a86ae0585269ac0965", func := "polyglot/polyglotlaw07.HeadBoth", spec := "headBoth", apart := false, narrowed := true }
def HeadBothUptoSaid : Prop := headBothUptoRow.holds Try.pinned (OpenSpec.upto headBothSpec)

/-- 'polyglotlaw07.HeadNames', WHERE WHAT IT READS IS OF BULK AT MOST 1048576: true; the input reads as it did. -/
def headNamesUptoRow : OpenClaim := { program := "ytpplfcdhiiiglaa", sum := "ca19ba819c2947383cab144d10bfbe9358a5129ad6cd32a86ae0585269ac0965", func := "polyglot/polyglotlaw07.HeadNames", spec := "headNames", unfollowed := true, recurses := true, apart := false, narrowed := true }
def HeadNamesUptoSaid : Prop := headNamesUptoRow.holds Try.pinned (OpenSpec.upto headNamesSpec)

/-- 'polyglotlaw07.HeadCalls', WHERE WHAT IT READS IS OF BULK AT MOST 1048576: true; the input reads as it did. -/
def headCallsUptoRow : OpenClaim := { program := "ytpplfcdhiiiglaa", sum := "ca19ba819c2947383cab144d10bfbe9358a5129ad6cd32a86ae0585269ac0965", func := "polyglot/polyglotlaw07.HeadCalls", spec := "headCalls", unfollowed := true, recurses := true, apart := false, narrowed := true }
def HeadCallsUptoSaid : Prop := headCallsUptoRow.holds Try.pinned (OpenSpec.upto headCallsSpec)

end Rows
end Go.Proofs.Ytpplfcdhiiiglaa
