/-
  No cell of these rows narrows 'for every input' (looked for: loops, veiled, ifaces, maps, wideKeys, modest, calm, conditions, laid).
  DERIVED. THE GIVEN ROWS OF THIS SEAT. 5 by the template 'for every input the law returns true; each argument reads behind the call as it read before'; 0 by the template 'total and deterministic' (their statements: YtfpaegklkdfmmaaTotals.lean).
  GIVEN WITH THE SEED: the statements are not yours to turn. If you find one false, say at which input.
  Laid BY PROGRAM, IN A SANDBOX (cutbox-rows.mjs): the forced cells as the released guide's own fill.sh prints them over the translation 371e7edbe0a02a3e… (all of the seat's roots in one cut). By AI agents, Wed Nov 11 2026. No macro, syntax, notation, axiom, sorry.
-/
import Derived.Test.YtfpaegklkdfmmaaChecked
import GoSem.Claim
import GoSem.ClaimJoined
import GoSem.ClaimMapViews
import Derived.JoinedTies
import Derived.KernelRfl
namespace Go.Proofs.Ytfpaegklkdfmmaa
/- THE CELL 'sum', in the pinned program and in every row, IS THE sha256 OF THE DUMP (.gsa) THAT YtfpaegklkdfmmaaProg.lean LOADS. Nothing in Lean hashes anything: it is a label: what it is worth is what the hold of that sum in a sandbox is worth. -/
noncomputable def Try.pinned : Pinned := { name := "ytfpaegklkdfmmaa", sum := "371e7edbe0a02a3e3f84fe80babc3b774a6406c5d4db7450aa5b86bb62186ca8", checked := Try.checked }
namespace Rows
def none {H : Type} : Left H := { results := [], args := [] }

/-- 'whirligiglaw04.AspathPrepends': WHATEVER THE INPUT: true; the input reads as it did. -/
def aspathPrependsSpec : ChangeSpec := { name := "aspathPrepends", fn := fun _ => fun
  | [d1, d2, d3] => { results := [.lit (.bool true)], args := [d1, d2, d3] }
  | _ => none }
def aspathPrependsRow : OpenClaim := { program := "ytfpaegklkdfmmaa", sum := "371e7edbe0a02a3e3f84fe80babc3b774a6406c5d4db7450aa5b86bb62186ca8", func := "whirligig/whirligiglaw04.AspathPrepends", spec := "aspathPrepends", inPlace := ["internal/abi.NoEscape", "internal/bytealg.MakeNoZero"], unfollowed := true, recurses := true, apart := false }
def AspathPrependsSaid : Prop := aspathPrependsRow.holds Try.pinned (OpenSpec.ofChange aspathPrependsSpec)

/-- ITS FALSE NEIGHBOUR: 'it returns false'. Refute it at one input. -/
def aspathPrependsWrong : ChangeSpec := { name := "aspathPrepends", fn := fun _ => fun
  | [d1, d2, d3] => { results := [.lit (.bool false)], args := [d1, d2, d3] }
  | _ => none }
def AspathPrependsWrongFalsely : Prop := aspathPrependsRow.holds Try.pinned (OpenSpec.ofChange aspathPrependsWrong)

/-- 'whirligiglaw04.AspathRuns': WHATEVER THE INPUT: true; the input reads as it did. -/
def aspathRunsSpec : ChangeSpec := { name := "aspathRuns", fn := fun _ => fun
  | [d1, d2] => { results := [.lit (.bool true)], args := [d1, d2] }
  | _ => none }
def aspathRunsRow : OpenClaim := { program := "ytfpaegklkdfmmaa", sum := "371e7edbe0a02a3e3f84fe80babc3b774a6406c5d4db7450aa5b86bb62186ca8", func := "whirligig/whirligiglaw04.AspathRuns", spec := "aspathRuns", inPlace := ["internal/abi.NoEscape", "internal/bytealg.MakeNoZero"], unfollowed := true, recurses := true, apart := false }
def AspathRunsSaid : Prop := aspathRunsRow.holds Try.pinned (OpenSpec.ofChange aspathRunsSpec)

/-- ITS FALSE NEIGHBOUR: 'it returns false'. Refute it at one input. -/
def aspathRunsWrong : ChangeSpec := { name := "aspathRuns", fn := fun _ => fun
  | [d1, d2] => { results := [.lit (.bool false)], args := [d1, d2] }
  | _ => none }
def AspathRunsWrongFalsely : Prop := aspathRunsRow.holds Try.pinned (OpenSpec.ofChange aspathRunsWrong)

/-- 'whirligiglaw04.AspathBack': WHATEVER THE INPUT: true; the input reads as it did. -/
def aspathBackSpec : ChangeSpec := { name := "aspathBack", fn := fun _ => fun
  | [d1, d2, d3] => { results := [.lit (.bool true)], args := [d1, d2, d3] }
  | _ => none }
def aspathBackRow : OpenClaim := { program := "ytfpaegklkdfmmaa", sum := "371e7edbe0a02a3e3f84fe80babc3b774a6406c5d4db7450aa5b86bb62186ca8", func := "whirligig/whirligiglaw04.AspathBack", spec := "aspathBack", inPlace := ["internal/abi.NoEscape", "internal/bytealg.MakeNoZero"], unfollowed := true, recurses := true, apart := false }
def AspathBackSaid : Prop := aspathBackRow.holds Try.pinned (OpenSpec.ofChange aspathBackSpec)

/-- ITS FALSE NEIGHBOUR: 'it returns false'. Refute it at one input. -/
def aspathBackWrong : ChangeSpec := { name := "aspathBack", fn := fun _ => fun
  | [d1, d2, d3] => { results := [.lit (.bool false)], args := [d1, d2, d3] }
  | _ => none }
def AspathBackWrongFalsely : Prop := aspathBackRow.holds Try.pinned (OpenSpec.ofChange aspathBackWrong)

/-- 'whirligiglaw04.AspathOrder': WHATEVER THE INPUT: true; the input reads as it did. -/
def aspathOrderSpec : ChangeSpec := { name := "aspathOrder", fn := fun _ => fun
  | [d1, d2, d3] => { results := [.lit (.bool true)], args := [d1, d2, d3] }
  | _ => none }
def aspathOrderRow : OpenClaim := { program := "ytfpaegklkdfmmaa", sum := "371e7edbe0a02a3e3f84fe80babc3b774a6406c5d4db7450aa5b86bb62186ca8", func := "whirligig/whirligiglaw04.AspathOrder", spec := "aspathOrder", inPlace := ["internal/abi.NoEscape", "internal/bytealg.MakeNoZero"], unfollowed := true, recurses := true, apart := false }
def AspathOrderSaid : Prop := aspathOrderRow.holds Try.pinned (OpenSpec.ofChange aspathOrderSpec)

/-- ITS FALSE NEIGHBOUR: 'it returns false'. Refute it at one input. -/
def aspathOrderWrong : ChangeSpec := { name := "aspathOrder", fn := fun _ => fun
  | [d1, d2, d3] => { results := [.lit (.bool false)], args := [d1, d2, d3] }
  | _ => none }
def AspathOrderWrongFalsely : Prop := aspathOrderRow.holds Try.pinned (OpenSpec.ofChange aspathOrderWrong)

/-- 'whirligiglaw04.AspathAsks': WHATEVER THE INPUT: true; the input reads as it did. -/
def aspathAsksSpec : ChangeSpec := { name := "aspathAsks", fn := fun _ => fun
  | [d1, d2, d3] => { results := [.lit (.bool true)], args := [d1, d2, d3] }
  | _ => none }
def aspathAsksRow : OpenClaim := { program := "ytfpaegklkdfmmaa", sum := "371e7edbe0a02a3e3f84fe80babc3b774a6406c5d4db7450aa5b86bb62186ca8", func := "whirligig/whirligiglaw04.AspathAsks", spec := "aspathAsks", inPlace := ["internal/abi.NoEscape", "internal/bytealg.MakeNoZero"], unfollowed := true, recurses := true, apart := false }
def AspathAsksSaid : Prop := aspathAsksRow.holds Try.pinned (OpenSpec.ofChange aspathAsksSpec)

/-- ITS FALSE NEIGHBOUR: 'it returns false'. Refute it at one input. -/
def aspathAsksWrong : ChangeSpec := { name := "aspathAsks", fn := fun _ => fun
  | [d1, d2, d3] => { results := [.lit (.bool false)], args := [d1, d2, d3] }
  | _ => none }
def AspathAsksWrongFalsely : Prop := aspathAsksRow.holds Try.pinned (OpenSpec.ofChange aspathAsksWrong)

/- THE SECOND FORM. 'bulk': how many values and letters a reading holds, each counted each time it is reached (what is shared counts as often as it is met; a slice's spare places count too). A statement '..UptoSaid' is the law's where the arguments, and the package variables that the reading takes, are together of bulk at most 1048576: NARROWER than '..Said'. Prove '..Said' where nothing that the law and all that it calls make is longer than what came in: it says more and counts as full. Else prove '..UptoSaid'. A law counts once. -/
mutual
def uptoBulk {H : Type} : DataW H → Nat
  | .lit (.string bytes) => bytes.length + 1
  | .lit _ => 1
  | .nil => 1
  | .ptr d => uptoBulk d + 1
  | .slice elems spare => uptoBulkAll elems + uptoBulkAll spare + 1
  | .agg parts => uptoBulkAll parts + 1
  | .iface _ d => uptoBulk d + 1
  | .map entries => uptoBulkEntries entries + 1
  | .held _ => 1
def uptoBulkAll {H : Type} : List (DataW H) → Nat
  | [] => 0
  | d :: r => uptoBulk d + uptoBulkAll r
def uptoBulkEntries {H : Type} : List (Lit × DataW H) → Nat
  | [] => 0
  | x :: r => uptoBulkEntry x + uptoBulkEntries r
def uptoBulkEntry {H : Type} : Lit × DataW H → Nat
  | (.string bytes, d) => bytes.length + uptoBulk d + 1
  | (_, d) => uptoBulk d + 1
 end
def uptoSmall : (H : Type) → List (DataW H) → Bool := fun _ ds => decide (uptoBulkAll ds ≤ 1048576)
def OpenSpec.upto (s : _root_.Go.ChangeSpec) : _root_.Go.OpenSpec := { _root_.Go.OpenSpec.ofChange s with cond := some uptoSmall }

/-- 'whirligiglaw04.AspathPrepends', WHERE WHAT IT READS IS OF BULK AT MOST 1048576: true; the input reads as it did. -/
def aspathPrependsUptoRow : OpenClaim := { program := "ytfpaegklkdfmmaa", sum := "371e7edbe0a02a3e3f84fe80babc3b774a6406c5d4db7450aa5b86bb62186ca8", func := "whirligig/whirligiglaw04.AspathPrepends", spec := "aspathPrepends", inPlace := ["internal/abi.NoEscape", "internal/bytealg.MakeNoZero"], unfollowed := true, recurses := true, apart := false, narrowed := true }
def AspathPrependsUptoSaid : Prop := aspathPrependsUptoRow.holds Try.pinned (OpenSpec.upto aspathPrependsSpec)

/-- 'whirligiglaw04.AspathRuns', WHERE WHAT IT READS IS OF BULK AT MOST 1048576: true; the input reads as it did. -/
def aspathRunsUptoRow : OpenClaim := { program := "ytfpaegklkdfmmaa", sum := "371e7edbe0a02a3e3f84fe80babc3b774a6406c5d4db7450aa5b86bb62186ca8", func := "whirligig/whirligiglaw04.AspathRuns", spec := "aspathRuns", inPlace := ["internal/abi.NoEscape", "internal/bytealg.MakeNoZero"], unfollowed := true, recurses := true, apart := false, narrowed := true }
def AspathRunsUptoSaid : Prop := aspathRunsUptoRow.holds Try.pinned (OpenSpec.upto aspathRunsSpec)

/-- 'whirligiglaw04.AspathBack', WHERE WHAT IT READS IS OF BULK AT MOST 1048576: true; the input reads as it did. -/
def aspathBackUptoRow : OpenClaim := { program := "ytfpaegklkdfmmaa", sum := "371e7edbe0a02a3e3f84fe80babc3b774a6406c5d4db7450aa5b86bb62186ca8", func := "whirligig/whirligiglaw04.AspathBack", spec := "aspathBack", inPlace := ["internal/abi.NoEscape", "internal/bytealg.MakeNoZero"], unfollowed := true, recurses := true, apart := false, narrowed := true }
def AspathBackUptoSaid : Prop := aspathBackUptoRow.holds Try.pinned (OpenSpec.upto aspathBackSpec)

/-- 'whirligiglaw04.AspathOrder', WHERE WHAT IT READS IS OF BULK AT MOST 1048576: true; the input reads as it did. -/
def aspathOrderUptoRow : OpenClaim := { program := "ytfpaegklkdfmmaa", sum := "371e7edbe0a02a3e3f84fe80babc3b774a6406c5d4db7450aa5b86bb62186ca8", func := "whirligig/whirligiglaw04.AspathOrder", spec := "aspathOrder", inPlace := ["internal/abi.NoEscape", "internal/bytealg.MakeNoZero"], unfollowed := true, recurses := true, apart := false, narrowed := true }
def AspathOrderUptoSaid : Prop := aspathOrderUptoRow.holds Try.pinned (OpenSpec.upto aspathOrderSpec)

/-- 'whirligiglaw04.AspathAsks', WHERE WHAT IT READS IS OF BULK AT MOST 1048576: true; the input reads as it did. -/
def aspathAsksUptoRow : OpenClaim := { program := "ytfpaegklkdfmmaa", sum := "371e7edbe0a02a3e3f84fe80babc3b774a6406c5d4db7450aa5b86bb62186ca8", func := "whirligig/whirligiglaw04.AspathAsks", spec := "aspathAsks", inPlace := ["internal/abi.NoEscape", "internal/bytealg.MakeNoZero"], unfollowed := true, recurses := true, apart := false, narrowed := true }
def AspathAsksUptoSaid : Prop := aspathAsksUptoRow.holds Try.pinned (OpenSpec.upto aspathAsksSpec)

end Rows
end Go.Proofs.Ytfpaegklkdfmmaa
