/-
  No cell of these rows narrows 'for every input' (looked for: loops, veiled, ifaces, maps, wideKeys, modest, calm, conditions, laid).
  DERIVED. THE GIVEN ROWS OF THIS SEAT. 15 by the template 'for every input the law returns true; each argument reads behind the call as it read before'; 0 by the template 'total and deterministic' (their statements: YtopiaiibpacmlaaTotals.lean).
  GIVEN WITH THE SEED: the statements are not yours to turn. If you find one false, say at which input.
  Laid BY PROGRAM, IN A SANDBOX (cutbox-rows.mjs): the forced cells as the released guide's own fill.sh prints them over the translation 883b846209e398b3… (all of the seat's roots in one cut). By AI agents, Wed Nov 11 2026. No macro, syntax, notation, axiom, sorry.
-/
import Derived.Test.YtopiaiibpacmlaaChecked
import GoSem.Claim
import GoSem.ClaimJoined
import GoSem.ClaimMapViews
import Derived.JoinedTies
import Derived.KernelRfl
namespace Go.Proofs.Ytopiaiibpacmlaa
/- THE CELL 'sum', in the pinned program and in every row, IS THE sha256 OF THE DUMP (.gsa) THAT YtopiaiibpacmlaaProg.lean LOADS. Nothing in Lean hashes anything: it is a label: what it is worth is what the hold of that sum in a sandbox is worth. -/
noncomputable def Try.pinned : Pinned := { name := "ytopiaiibpacmlaa", sum := "883b846209e398b36729fa29c4a6a88347889eccfe48455077e250c2ab2b57a7", checked := Try.checked }
namespace Rows
def none {H : Type} : Left H := { results := [], args := [] }

/-- 'whirligiglaw22.BestSettles': WHATEVER THE INPUT: true; the input reads as it did. -/
def bestSettlesSpec : ChangeSpec := { name := "bestSettles", fn := fun _ => fun
  | [d1, d2, d3] => { results := [.lit (.bool true)], args := [d1, d2, d3] }
  | _ => none }
def bestSettlesRow : OpenClaim := { program := "ytopiaiibpacmlaa", sum := "883b846209e398b36729fa29c4a6a88347889eccfe48455077e250c2ab2b57a7", func := "whirligig/whirligiglaw22.BestSettles", spec := "bestSettles", unfollowed := true, recurses := true, apart := false }
def BestSettlesSaid : Prop := bestSettlesRow.holds Try.pinned (OpenSpec.ofChange bestSettlesSpec)

/-- ITS FALSE NEIGHBOUR: 'it returns false'. Refute it at one input. -/
def bestSettlesWrong : ChangeSpec := { name := "bestSettles", fn := fun _ => fun
  | [d1, d2, d3] => { results := [.lit (.bool false)], args := [d1, d2, d3] }
  | _ => none }
def BestSettlesWrongFalsely : Prop := bestSettlesRow.holds Try.pinned (OpenSpec.ofChange bestSettlesWrong)

/-- 'whirligiglaw24.TrimTrims': WHATEVER THE INPUT: true; the input reads as it did. -/
def trimTrimsSpec : ChangeSpec := { name := "trimTrims", fn := fun _ => fun
  | [d] => { results := [.lit (.bool true)], args := [d] }
  | _ => none }
def trimTrimsRow : OpenClaim := { program := "ytopiaiibpacmlaa", sum := "883b846209e398b36729fa29c4a6a88347889eccfe48455077e250c2ab2b57a7", func := "whirligig/whirligiglaw24.TrimTrims", spec := "trimTrims", unfollowed := true, recurses := true, apart := false }
def TrimTrimsSaid : Prop := trimTrimsRow.holds Try.pinned (OpenSpec.ofChange trimTrimsSpec)

/-- ITS FALSE NEIGHBOUR: 'it returns false'. Refute it at one input. -/
def trimTrimsWrong : ChangeSpec := { name := "trimTrims", fn := fun _ => fun
  | [d] => { results := [.lit (.bool false)], args := [d] }
  | _ => none }
def TrimTrimsWrongFalsely : Prop := trimTrimsRow.holds Try.pinned (OpenSpec.ofChange trimTrimsWrong)

/-- 'whirligiglaw24.TrimKeeps': WHATEVER THE INPUT: true; the input reads as it did. -/
def trimKeepsSpec : ChangeSpec := { name := "trimKeeps", fn := fun _ => fun
  | [d] => { results := [.lit (.bool true)], args := [d] }
  | _ => none }
def trimKeepsRow : OpenClaim := { program := "ytopiaiibpacmlaa", sum := "883b846209e398b36729fa29c4a6a88347889eccfe48455077e250c2ab2b57a7", func := "whirligig/whirligiglaw24.TrimKeeps", spec := "trimKeeps", unfollowed := true, recurses := true, apart := false }
def TrimKeepsSaid : Prop := trimKeepsRow.holds Try.pinned (OpenSpec.ofChange trimKeepsSpec)

/-- ITS FALSE NEIGHBOUR: 'it returns false'. Refute it at one input. -/
def trimKeepsWrong : ChangeSpec := { name := "trimKeeps", fn := fun _ => fun
  | [d] => { results := [.lit (.bool false)], args := [d] }
  | _ => none }
def TrimKeepsWrongFalsely : Prop := trimKeepsRow.holds Try.pinned (OpenSpec.ofChange trimKeepsWrong)

/-- 'whirligiglaw24.TrimLooks': WHATEVER THE INPUT: true; the input reads as it did. -/
def trimLooksSpec : ChangeSpec := { name := "trimLooks", fn := fun _ => fun
  | [d1, d2] => { results := [.lit (.bool true)], args := [d1, d2] }
  | _ => none }
def trimLooksRow : OpenClaim := { program := "ytopiaiibpacmlaa", sum := "883b846209e398b36729fa29c4a6a88347889eccfe48455077e250c2ab2b57a7", func := "whirligig/whirligiglaw24.TrimLooks", spec := "trimLooks", unfollowed := true, recurses := true, apart := false }
def TrimLooksSaid : Prop := trimLooksRow.holds Try.pinned (OpenSpec.ofChange trimLooksSpec)

/-- ITS FALSE NEIGHBOUR: 'it returns false'. Refute it at one input. -/
def trimLooksWrong : ChangeSpec := { name := "trimLooks", fn := fun _ => fun
  | [d1, d2] => { results := [.lit (.bool false)], args := [d1, d2] }
  | _ => none }
def TrimLooksWrongFalsely : Prop := trimLooksRow.holds Try.pinned (OpenSpec.ofChange trimLooksWrong)

/-- 'whirligiglaw22.BestAnswers': WHATEVER THE INPUT: true; the input reads as it did. -/
def bestAnswersSpec : ChangeSpec := { name := "bestAnswers", fn := fun _ => fun
  | [d1, d2, d3] => { results := [.lit (.bool true)], args := [d1, d2, d3] }
  | _ => none }
def bestAnswersRow : OpenClaim := { program := "ytopiaiibpacmlaa", sum := "883b846209e398b36729fa29c4a6a88347889eccfe48455077e250c2ab2b57a7", func := "whirligig/whirligiglaw22.BestAnswers", spec := "bestAnswers", unfollowed := true, recurses := true, apart := false }
def BestAnswersSaid : Prop := bestAnswersRow.holds Try.pinned (OpenSpec.ofChange bestAnswersSpec)

/-- ITS FALSE NEIGHBOUR: 'it returns false'. Refute it at one input. -/
def bestAnswersWrong : ChangeSpec := { name := "bestAnswers", fn := fun _ => fun
  | [d1, d2, d3] => { results := [.lit (.bool false)], args := [d1, d2, d3] }
  | _ => none }
def BestAnswersWrongFalsely : Prop := bestAnswersRow.holds Try.pinned (OpenSpec.ofChange bestAnswersWrong)

/-- 'whirligiglaw23.StableLimits': WHATEVER THE INPUT: true; the input reads as it did. -/
def stableLimitsSpec : ChangeSpec := { name := "stableLimits", fn := fun _ => fun
  | [d1, d2, d3] => { results := [.lit (.bool true)], args := [d1, d2, d3] }
  | _ => none }
def stableLimitsRow : OpenClaim := { program := "ytopiaiibpacmlaa", sum := "883b846209e398b36729fa29c4a6a88347889eccfe48455077e250c2ab2b57a7", func := "whirligig/whirligiglaw23.StableLimits", spec := "stableLimits", unfollowed := true, recurses := true, apart := false }
def StableLimitsSaid : Prop := stableLimitsRow.holds Try.pinned (OpenSpec.ofChange stableLimitsSpec)

/-- ITS FALSE NEIGHBOUR: 'it returns false'. Refute it at one input. -/
def stableLimitsWrong : ChangeSpec := { name := "stableLimits", fn := fun _ => fun
  | [d1, d2, d3] => { results := [.lit (.bool false)], args := [d1, d2, d3] }
  | _ => none }
def StableLimitsWrongFalsely : Prop := stableLimitsRow.holds Try.pinned (OpenSpec.ofChange stableLimitsWrong)

/-- 'whirligiglaw21.TextNames': WHATEVER THE INPUT: true; the input reads as it did. -/
def textNamesSpec : ChangeSpec := { name := "textNames", fn := fun _ => fun
  | [d1, d2] => { results := [.lit (.bool true)], args := [d1, d2] }
  | _ => none }
def textNamesRow : OpenClaim := { program := "ytopiaiibpacmlaa", sum := "883b846209e398b36729fa29c4a6a88347889eccfe48455077e250c2ab2b57a7", func := "whirligig/whirligiglaw21.TextNames", spec := "textNames", inPlace := ["internal/abi.NoEscape", "internal/bytealg.MakeNoZero"], unfollowed := true, recurses := true, apart := false }
def TextNamesSaid : Prop := textNamesRow.holds Try.pinned (OpenSpec.ofChange textNamesSpec)

/-- ITS FALSE NEIGHBOUR: 'it returns false'. Refute it at one input. -/
def textNamesWrong : ChangeSpec := { name := "textNames", fn := fun _ => fun
  | [d1, d2] => { results := [.lit (.bool false)], args := [d1, d2] }
  | _ => none }
def TextNamesWrongFalsely : Prop := textNamesRow.holds Try.pinned (OpenSpec.ofChange textNamesWrong)

/-- 'whirligiglaw22.BestOrder': WHATEVER THE INPUT: true; the input reads as it did. -/
def bestOrderSpec : ChangeSpec := { name := "bestOrder", fn := fun _ => fun
  | [d1, d2] => { results := [.lit (.bool true)], args := [d1, d2] }
  | _ => none }
def bestOrderRow : OpenClaim := { program := "ytopiaiibpacmlaa", sum := "883b846209e398b36729fa29c4a6a88347889eccfe48455077e250c2ab2b57a7", func := "whirligig/whirligiglaw22.BestOrder", spec := "bestOrder", unfollowed := true, recurses := true, apart := false }
def BestOrderSaid : Prop := bestOrderRow.holds Try.pinned (OpenSpec.ofChange bestOrderSpec)

/-- ITS FALSE NEIGHBOUR: 'it returns false'. Refute it at one input. -/
def bestOrderWrong : ChangeSpec := { name := "bestOrder", fn := fun _ => fun
  | [d1, d2] => { results := [.lit (.bool false)], args := [d1, d2] }
  | _ => none }
def BestOrderWrongFalsely : Prop := bestOrderRow.holds Try.pinned (OpenSpec.ofChange bestOrderWrong)

/-- 'whirligiglaw23.StableAsks': WHATEVER THE INPUT: true; the input reads as it did. -/
def stableAsksSpec : ChangeSpec := { name := "stableAsks", fn := fun _ => fun
  | [d] => { results := [.lit (.bool true)], args := [d] }
  | _ => none }
def stableAsksRow : OpenClaim := { program := "ytopiaiibpacmlaa", sum := "883b846209e398b36729fa29c4a6a88347889eccfe48455077e250c2ab2b57a7", func := "whirligig/whirligiglaw23.StableAsks", spec := "stableAsks", unfollowed := true, recurses := true, apart := false }
def StableAsksSaid : Prop := stableAsksRow.holds Try.pinned (OpenSpec.ofChange stableAsksSpec)

/-- ITS FALSE NEIGHBOUR: 'it returns false'. Refute it at one input. -/
def stableAsksWrong : ChangeSpec := { name := "stableAsks", fn := fun _ => fun
  | [d] => { results := [.lit (.bool false)], args := [d] }
  | _ => none }
def StableAsksWrongFalsely : Prop := stableAsksRow.holds Try.pinned (OpenSpec.ofChange stableAsksWrong)

/-- 'whirligiglaw23.StableCommon': WHATEVER THE INPUT: true; the input reads as it did. -/
def stableCommonSpec : ChangeSpec := { name := "stableCommon", fn := fun _ => fun
  | [d] => { results := [.lit (.bool true)], args := [d] }
  | _ => none }
def stableCommonRow : OpenClaim := { program := "ytopiaiibpacmlaa", sum := "883b846209e398b36729fa29c4a6a88347889eccfe48455077e250c2ab2b57a7", func := "whirligig/whirligiglaw23.StableCommon", spec := "stableCommon", unfollowed := true, recurses := true, apart := false }
def StableCommonSaid : Prop := stableCommonRow.holds Try.pinned (OpenSpec.ofChange stableCommonSpec)

/-- ITS FALSE NEIGHBOUR: 'it returns false'. Refute it at one input. -/
def stableCommonWrong : ChangeSpec := { name := "stableCommon", fn := fun _ => fun
  | [d] => { results := [.lit (.bool false)], args := [d] }
  | _ => none }
def StableCommonWrongFalsely : Prop := stableCommonRow.holds Try.pinned (OpenSpec.ofChange stableCommonWrong)

/-- 'whirligiglaw24.TrimOnly': WHATEVER THE INPUT: true; the input reads as it did. -/
def trimOnlySpec : ChangeSpec := { name := "trimOnly", fn := fun _ => fun
  | [d1, d2] => { results := [.lit (.bool true)], args := [d1, d2] }
  | _ => none }
def trimOnlyRow : OpenClaim := { program := "ytopiaiibpacmlaa", sum := "883b846209e398b36729fa29c4a6a88347889eccfe48455077e250c2ab2b57a7", func := "whirligig/whirligiglaw24.TrimOnly", spec := "trimOnly", unfollowed := true, recurses := true, apart := false }
def TrimOnlySaid : Prop := trimOnlyRow.holds Try.pinned (OpenSpec.ofChange trimOnlySpec)

/-- ITS FALSE NEIGHBOUR: 'it returns false'. Refute it at one input. -/
def trimOnlyWrong : ChangeSpec := { name := "trimOnly", fn := fun _ => fun
  | [d1, d2] => { results := [.lit (.bool false)], args := [d1, d2] }
  | _ => none }
def TrimOnlyWrongFalsely : Prop := trimOnlyRow.holds Try.pinned (OpenSpec.ofChange trimOnlyWrong)

/-- 'whirligiglaw22.BestStable': WHATEVER THE INPUT: true; the input reads as it did. -/
def bestStableSpec : ChangeSpec := { name := "bestStable", fn := fun _ => fun
  | [d1, d2] => { results := [.lit (.bool true)], args := [d1, d2] }
  | _ => none }
def bestStableRow : OpenClaim := { program := "ytopiaiibpacmlaa", sum := "883b846209e398b36729fa29c4a6a88347889eccfe48455077e250c2ab2b57a7", func := "whirligig/whirligiglaw22.BestStable", spec := "bestStable", unfollowed := true, recurses := true, apart := false }
def BestStableSaid : Prop := bestStableRow.holds Try.pinned (OpenSpec.ofChange bestStableSpec)

/-- ITS FALSE NEIGHBOUR: 'it returns false'. Refute it at one input. -/
def bestStableWrong : ChangeSpec := { name := "bestStable", fn := fun _ => fun
  | [d1, d2] => { results := [.lit (.bool false)], args := [d1, d2] }
  | _ => none }
def BestStableWrongFalsely : Prop := bestStableRow.holds Try.pinned (OpenSpec.ofChange bestStableWrong)

/-- 'whirligiglaw24.TrimSolves': WHATEVER THE INPUT: true; the input reads as it did. -/
def trimSolvesSpec : ChangeSpec := { name := "trimSolves", fn := fun _ => fun
  | [d] => { results := [.lit (.bool true)], args := [d] }
  | _ => none }
def trimSolvesRow : OpenClaim := { program := "ytopiaiibpacmlaa", sum := "883b846209e398b36729fa29c4a6a88347889eccfe48455077e250c2ab2b57a7", func := "whirligig/whirligiglaw24.TrimSolves", spec := "trimSolves", unfollowed := true, recurses := true, apart := false }
def TrimSolvesSaid : Prop := trimSolvesRow.holds Try.pinned (OpenSpec.ofChange trimSolvesSpec)

/-- ITS FALSE NEIGHBOUR: 'it returns false'. Refute it at one input. -/
def trimSolvesWrong : ChangeSpec := { name := "trimSolves", fn := fun _ => fun
  | [d] => { results := [.lit (.bool false)], args := [d] }
  | _ => none }
def TrimSolvesWrongFalsely : Prop := trimSolvesRow.holds Try.pinned (OpenSpec.ofChange trimSolvesWrong)

/-- 'whirligiglaw23.StableAll': WHATEVER THE INPUT: true; the input reads as it did. -/
def stableAllSpec : ChangeSpec := { name := "stableAll", fn := fun _ => fun
  | [d] => { results := [.lit (.bool true)], args := [d] }
  | _ => none }
def stableAllRow : OpenClaim := { program := "ytopiaiibpacmlaa", sum := "883b846209e398b36729fa29c4a6a88347889eccfe48455077e250c2ab2b57a7", func := "whirligig/whirligiglaw23.StableAll", spec := "stableAll", unfollowed := true, recurses := true, apart := false }
def StableAllSaid : Prop := stableAllRow.holds Try.pinned (OpenSpec.ofChange stableAllSpec)

/-- ITS FALSE NEIGHBOUR: 'it returns false'. Refute it at one input. -/
def stableAllWrong : ChangeSpec := { name := "stableAll", fn := fun _ => fun
  | [d] => { results := [.lit (.bool false)], args := [d] }
  | _ => none }
def StableAllWrongFalsely : Prop := stableAllRow.holds Try.pinned (OpenSpec.ofChange stableAllWrong)

/-- 'whirligiglaw23.StableIs': WHATEVER THE INPUT: true; the input reads as it did. -/
def stableIsSpec : ChangeSpec := { name := "stableIs", fn := fun _ => fun
  | [d1, d2] => { results := [.lit (.bool true)], args := [d1, d2] }
  | _ => none }
def stableIsRow : OpenClaim := { program := "ytopiaiibpacmlaa", sum := "883b846209e398b36729fa29c4a6a88347889eccfe48455077e250c2ab2b57a7", func := "whirligig/whirligiglaw23.StableIs", spec := "stableIs", unfollowed := true, recurses := true, apart := false }
def StableIsSaid : Prop := stableIsRow.holds Try.pinned (OpenSpec.ofChange stableIsSpec)

/-- ITS FALSE NEIGHBOUR: 'it returns false'. Refute it at one input. -/
def stableIsWrong : ChangeSpec := { name := "stableIs", fn := fun _ => fun
  | [d1, d2] => { results := [.lit (.bool false)], args := [d1, d2] }
  | _ => none }
def StableIsWrongFalsely : Prop := stableIsRow.holds Try.pinned (OpenSpec.ofChange stableIsWrong)

/- THE SECOND FORM. 'bulk': how many values and letters a reading holds, each counted each time it is reached (what is shared counts as often as it is met; a slice's spare places count too). A statement '..UptoSaid' is the law's where the arguments, and the package variables that the reading takes, are together of bulk at most 1048576: NARROWER than '..Said'. Prove '..Said' where nothing that the law and all that it calls make is longer than what came in: it says more and counts as full. Else prove '..UptoSaid'. A law counts once. -/
mutual
def uptoBulk {H : Type} : DataW H → Nat
  | .lit (.string bytes) => bytes.length + 1
  | .lit _ => 1
  | .nil => 1
  | .ptr d => uptoBulk d + 1
  | .slice elems spare => uptoBulkAll elems + uptoBulkAll spare + 1
  | .agg parts => uptoBulkAll parts + 1
  | .iface _ d => uptoBulk d + 1
  | .map entries => uptoBulkEntries entries + 1
  | .held _ => 1
def uptoBulkAll {H : Type} : List (DataW H) → Nat
  | [] => 0
  | d :: r => uptoBulk d + uptoBulkAll r
def uptoBulkEntries {H : Type} : List (Lit × DataW H) → Nat
  | [] => 0
  | x :: r => uptoBulkEntry x + uptoBulkEntries r
def uptoBulkEntry {H : Type} : Lit × DataW H → Nat
  | (.string bytes, d) => bytes.length + uptoBulk d + 1
  | (_, d) => uptoBulk d + 1
 end
def uptoSmall : (H : Type) → List (DataW H) → Bool := fun _ ds => decide (uptoBulkAll ds ≤ 1048576)
def OpenSpec.upto (s : _root_.Go.ChangeSpec) : _root_.Go.OpenSpec := { _root_.Go.OpenSpec.ofChange s with cond := some uptoSmall }

/-- 'whirligiglaw22.BestSettles', WHERE WHAT IT READS IS OF BULK AT MOST 1048576: true; the input reads as it did. -/
def bestSettlesUptoRow : OpenClaim := { program := "ytopiaiibpacmlaa", sum := "883b846209e398b36729fa29c4a6a88347889eccfe48455077e250c2ab2b57a7", func := "whirligig/whirligiglaw22.BestSettles", spec := "bestSettles", unfollowed := true, recurses := true, apart := false, narrowed := true }
def BestSettlesUptoSaid : Prop := bestSettlesUptoRow.holds Try.pinned (OpenSpec.upto bestSettlesSpec)

/-- 'whirligiglaw24.TrimTrims', WHERE WHAT IT READS IS OF BULK AT MOST 1048576: true; the input reads as it did. -/
def trimTrimsUptoRow : OpenClaim := { program := "ytopiaiibpacmlaa", sum := "883b846209e398b36729fa29c4a6a88347889eccfe48455077e250c2ab2b57a7", func := "whirligig/whirligiglaw24.TrimTrims", spec := "trimTrims", unfollowed := true, recurses := true, apart := false, narrowed := true }
def TrimTrimsUptoSaid : Prop := trimTrimsUptoRow.holds Try.pinned (OpenSpec.upto trimTrimsSpec)

/-- 'whirligiglaw24.TrimKeeps', WHERE WHAT IT READS IS OF BULK AT MOST 1048576: true; the input reads as it did. -/
def trimKeepsUptoRow : OpenClaim := { program := "ytopiaiibpacmlaa", sum := "883b846209e398b36729fa29c4a6a88347889eccfe48455077e250c2ab2b57a7", func := "whirligig/whirligiglaw24.TrimKeeps", spec := "trimKeeps", unfollowed := true, recurses := true, apart := false, narrowed := true }
def TrimKeepsUptoSaid : Prop := trimKeepsUptoRow.holds Try.pinned (OpenSpec.upto trimKeepsSpec)

/-- 'whirligiglaw24.TrimLooks', WHERE WHAT IT READS IS OF BULK AT MOST 1048576: true; the input reads as it did. -/
def trimLooksUptoRow : OpenClaim := { program := "ytopiaiibpacmlaa", sum := "883b846209e398b36729fa29c4a6a88347889eccfe48455077e250c2ab2b57a7", func := "whirligig/whirligiglaw24.TrimLooks", spec := "trimLooks", unfollowed := true, recurses := true, apart := false, narrowed := true }
def TrimLooksUptoSaid : Prop := trimLooksUptoRow.holds Try.pinned (OpenSpec.upto trimLooksSpec)

/-- 'whirligiglaw22.BestAnswers', WHERE WHAT IT READS IS OF BULK AT MOST 1048576: true; the input reads as it did. -/
def bestAnswersUptoRow : OpenClaim := { program := "ytopiaiibpacmlaa", sum := "883b846209e398b36729fa29c4a6a88347889eccfe48455077e250c2ab2b57a7", func := "whirligig/whirligiglaw22.BestAnswers", spec := "bestAnswers", unfollowed := true, recurses := true, apart := false, narrowed := true }
def BestAnswersUptoSaid : Prop := bestAnswersUptoRow.holds Try.pinned (OpenSpec.upto bestAnswersSpec)

/-- 'whirligiglaw23.StableLimits', WHERE WHAT IT READS IS OF BULK AT MOST 1048576: true; the input reads as it did. -/
def stableLimitsUptoRow : OpenClaim := { program := "ytopiaiibpacmlaa", sum := "883b846209e398b36729fa29c4a6a88347889eccfe48455077e250c2ab2b57a7", func := "whirligig/whirligiglaw23.StableLimits", spec := "stableLimits", unfollowed := true, recurses := true, apart := false, narrowed := true }
def StableLimitsUptoSaid : Prop := stableLimitsUptoRow.holds Try.pinned (OpenSpec.upto stableLimitsSpec)

/-- 'whirligiglaw21.TextNames', WHERE WHAT IT READS IS OF BULK AT MOST 1048576: true; the input reads as it did. -/
def textNamesUptoRow : OpenClaim := { program := "ytopiaiibpacmlaa", sum := "883b846209e398b36729fa29c4a6a88347889eccfe48455077e250c2ab2b57a7", func := "whirligig/whirligiglaw21.TextNames", spec := "textNames", inPlace := ["internal/abi.NoEscape", "internal/bytealg.MakeNoZero"], unfollowed := true, recurses := true, apart := false, narrowed := true }
def TextNamesUptoSaid : Prop := textNamesUptoRow.holds Try.pinned (OpenSpec.upto textNamesSpec)

/-- 'whirligiglaw22.BestOrder', WHERE WHAT IT READS IS OF BULK AT MOST 1048576: true; the input reads as it did. -/
def bestOrderUptoRow : OpenClaim := { program := "ytopiaiibpacmlaa", sum := "883b846209e398b36729fa29c4a6a88347889eccfe48455077e250c2ab2b57a7", func := "whirligig/whirligiglaw22.BestOrder", spec := "bestOrder", unfollowed := true, recurses := true, apart := false, narrowed := true }
def BestOrderUptoSaid : Prop := bestOrderUptoRow.holds Try.pinned (OpenSpec.upto bestOrderSpec)

/-- 'whirligiglaw23.StableAsks', WHERE WHAT IT READS IS OF BULK AT MOST 1048576: true; the input reads as it did. -/
def stableAsksUptoRow : OpenClaim := { program := "ytopiaiibpacmlaa", sum := "883b846209e398b36729fa29c4a6a88347889eccfe48455077e250c2ab2b57a7", func := "whirligig/whirligiglaw23.StableAsks", spec := "stableAsks", unfollowed := true, recurses := true, apart := false, narrowed := true }
def StableAsksUptoSaid : Prop := stableAsksUptoRow.holds Try.pinned (OpenSpec.upto stableAsksSpec)

/-- 'whirligiglaw23.StableCommon', WHERE WHAT IT READS IS OF BULK AT MOST 1048576: true; the input reads as it did. -/
def stableCommonUptoRow : OpenClaim := { program := "ytopiaiibpacmlaa", sum := "883b846209e398b36729fa29c4a6a88347889eccfe48455077e250c2ab2b57a7", func := "whirligig/whirligiglaw23.StableCommon", spec := "stableCommon", unfollowed := true, recurses := true, apart := false, narrowed := true }
def StableCommonUptoSaid : Prop := stableCommonUptoRow.holds Try.pinned (OpenSpec.upto stableCommonSpec)

/-- 'whirligiglaw24.TrimOnly', WHERE WHAT IT READS IS OF BULK AT MOST 1048576: true; the input reads as it did. -/
def trimOnlyUptoRow : OpenClaim := { program := "ytopiaiibpacmlaa", sum := "883b846209e398b36729fa29c4a6a88347889eccfe48455077e250c2ab2b57a7", func := "whirligig/whirligiglaw24.TrimOnly", spec := "trimOnly", unfollowed := true, recurses := true, apart := false, narrowed := true }
def TrimOnlyUptoSaid : Prop := trimOnlyUptoRow.holds Try.pinned (OpenSpec.upto trimOnlySpec)

/-- 'whirligiglaw22.BestStable', WHERE WHAT IT READS IS OF BULK AT MOST 1048576: true; the input reads as it did. -/
def bestStableUptoRow : OpenClaim := { program := "ytopiaiibpacmlaa", sum := "883b846209e398b36729fa29c4a6a88347889eccfe48455077e250c2ab2b57a7", func := "whirligig/whirligiglaw22.BestStable", spec := "bestStable", unfollowed := true, recurses := true, apart := false, narrowed := true }
def BestStableUptoSaid : Prop := bestStableUptoRow.holds Try.pinned (OpenSpec.upto bestStableSpec)

/-- 'whirligiglaw24.TrimSolves', WHERE WHAT IT READS IS OF BULK AT MOST 1048576: true; the input reads as it did. -/
def trimSolvesUptoRow : OpenClaim := { program := "ytopiaiibpacmlaa", sum := "883b846209e398b36729fa29c4a6a88347889eccfe48455077e250c2ab2b57a7", func := "whirligig/whirligiglaw24.TrimSolves", spec := "trimSolves", unfollowed := true, recurses := true, apart := false, narrowed := true }
def TrimSolvesUptoSaid : Prop := trimSolvesUptoRow.holds Try.pinned (OpenSpec.upto trimSolvesSpec)

/-- 'whirligiglaw23.StableAll', WHERE WHAT IT READS IS OF BULK AT MOST 1048576: true; the input reads as it did. -/
def stableAllUptoRow : OpenClaim := { program := "ytopiaiibpacmlaa", sum := "883b846209e398b36729fa29c4a6a88347889eccfe48455077e250c2ab2b57a7", func := "whirligig/whirligiglaw23.StableAll", spec := "stableAll", unfollowed := true, recurses := true, apart := false, narrowed := true }
def StableAllUptoSaid : Prop := stableAllUptoRow.holds Try.pinned (OpenSpec.upto stableAllSpec)

/-- 'whirligiglaw23.StableIs', WHERE WHAT IT READS IS OF BULK AT MOST 1048576: true; the input reads as it did. -/
def stableIsUptoRow : OpenClaim := { program := "ytopiaiibpacmlaa", sum := "883b846209e398b36729fa29c4a6a88347889eccfe48455077e250c2ab2b57a7", func := "whirligig/whirligiglaw23.StableIs", spec := "stableIs", unfollowed := true, recurses := true, apart := false, narrowed := true }
def StableIsUptoSaid : Prop := stableIsUptoRow.holds Try.pinned (OpenSpec.upto stableIsSpec)

end Rows
end Go.Proofs.Ytopiaiibpacmlaa
