/-
  No cell of these rows narrows 'for every input' (looked for: loops, veiled, ifaces, maps, wideKeys, modest, calm, conditions, laid).
  DERIVED. THE GIVEN ROWS OF THIS SEAT. 7 by the template 'for every input the law returns true; each argument reads behind the call as it read before'; 0 by the template 'total and deterministic' (their statements: YtlcdafidoddefaaTotals.lean).
  GIVEN WITH THE SEED: the statements are not yours to turn. If you find one false, say at which input.
  Laid BY PROGRAM, IN A SANDBOX (cutbox-rows.mjs): the forced cells as the released guide's own fill.sh prints them over the translation 177bc61aa4de8e26… (all of the seat's roots in one cut). By AI agents, Wed Nov 11 2026. No macro, syntax, notation, axiom, sorry.
-/
import Derived.Test.YtlcdafidoddefaaChecked
import GoSem.Claim
import GoSem.ClaimJoined
import GoSem.ClaimMapViews
import Derived.JoinedTies
import Derived.KernelRfl
namespace Go.Proofs.Ytlcdafidoddefaa
/- THE CELL 'sum', in the pinned program and in every row, IS THE sha256 OF THE DUMP (.gsa) THAT YtlcdafidoddefaaProg.lean LOADS. Nothing in Lean hashes anything: it is a label: what it is worth is what the hold of that sum in a sandbox is worth. -/
noncomputable def Try.pinned : Pinned := { name := "ytlcdafidoddefaa", sum := "177bc61aa4de8e2699624c5b7edee25953d21f11a45d3436c8b18728d794d795", checked := Try.checked }
namespace Rows
def none {H : Type} : Left H := { results := [], args := [] }

/-- 'whirligiglaw27.SpvpTells': WHATEVER THE INPUT: true; the input reads as it did. -/
def spvpTellsSpec : ChangeSpec := { name := "spvpTells", fn := fun _ => fun
  | [d1, d2] => { results := [.lit (.bool true)], args := [d1, d2] }
  | _ => none }
def spvpTellsRow : OpenClaim := { program := "ytlcdafidoddefaa", sum := "177bc61aa4de8e2699624c5b7edee25953d21f11a45d3436c8b18728d794d795", func := "whirligig/whirligiglaw27.SpvpTells", spec := "spvpTells", unfollowed := true, recurses := true, plainKeys := false, apart := false }
def SpvpTellsSaid : Prop := spvpTellsRow.holds Try.pinned (OpenSpec.ofChange spvpTellsSpec)

/-- ITS FALSE NEIGHBOUR: 'it returns false'. Refute it at one input. -/
def spvpTellsWrong : ChangeSpec := { name := "spvpTells", fn := fun _ => fun
  | [d1, d2] => { results := [.lit (.bool false)], args := [d1, d2] }
  | _ => none }
def SpvpTellsWrongFalsely : Prop := spvpTellsRow.holds Try.pinned (OpenSpec.ofChange spvpTellsWrong)

/-- 'whirligiglaw27.SpvpPlays': WHATEVER THE INPUT: true; the input reads as it did. -/
def spvpPlaysSpec : ChangeSpec := { name := "spvpPlays", fn := fun _ => fun
  | [d1, d2] => { results := [.lit (.bool true)], args := [d1, d2] }
  | _ => none }
def spvpPlaysRow : OpenClaim := { program := "ytlcdafidoddefaa", sum := "177bc61aa4de8e2699624c5b7edee25953d21f11a45d3436c8b18728d794d795", func := "whirligig/whirligiglaw27.SpvpPlays", spec := "spvpPlays", unfollowed := true, recurses := true, plainKeys := false, apart := false }
def SpvpPlaysSaid : Prop := spvpPlaysRow.holds Try.pinned (OpenSpec.ofChange spvpPlaysSpec)

/-- ITS FALSE NEIGHBOUR: 'it returns false'. Refute it at one input. -/
def spvpPlaysWrong : ChangeSpec := { name := "spvpPlays", fn := fun _ => fun
  | [d1, d2] => { results := [.lit (.bool false)], args := [d1, d2] }
  | _ => none }
def SpvpPlaysWrongFalsely : Prop := spvpPlaysRow.holds Try.pinned (OpenSpec.ofChange spvpPlaysWrong)

/-- 'whirligiglaw27.SpvpQuiet': WHATEVER THE INPUT: true; the input reads as it did. -/
def spvpQuietSpec : ChangeSpec := { name := "spvpQuiet", fn := fun _ => fun
  | [d1, d2] => { results := [.lit (.bool true)], args := [d1, d2] }
  | _ => none }
def spvpQuietRow : OpenClaim := { program := "ytlcdafidoddefaa", sum := "177bc61aa4de8e2699624c5b7edee25953d21f11a45d3436c8b18728d794d795", func := "whirligig/whirligiglaw27.SpvpQuiet", spec := "spvpQuiet", unfollowed := true, recurses := true, plainKeys := false, apart := false }
def SpvpQuietSaid : Prop := spvpQuietRow.holds Try.pinned (OpenSpec.ofChange spvpQuietSpec)

/-- ITS FALSE NEIGHBOUR: 'it returns false'. Refute it at one input. -/
def spvpQuietWrong : ChangeSpec := { name := "spvpQuiet", fn := fun _ => fun
  | [d1, d2] => { results := [.lit (.bool false)], args := [d1, d2] }
  | _ => none }
def SpvpQuietWrongFalsely : Prop := spvpQuietRow.holds Try.pinned (OpenSpec.ofChange spvpQuietWrong)

/-- 'whirligiglaw28.SchedParts': WHATEVER THE INPUT: true; the input reads as it did. -/
def schedPartsSpec : ChangeSpec := { name := "schedParts", fn := fun _ => fun
  | [d1, d2, d3] => { results := [.lit (.bool true)], args := [d1, d2, d3] }
  | _ => none }
def schedPartsRow : OpenClaim := { program := "ytlcdafidoddefaa", sum := "177bc61aa4de8e2699624c5b7edee25953d21f11a45d3436c8b18728d794d795", func := "whirligig/whirligiglaw28.SchedParts", spec := "schedParts", unfollowed := true, recurses := true, plainKeys := false, apart := false }
def SchedPartsSaid : Prop := schedPartsRow.holds Try.pinned (OpenSpec.ofChange schedPartsSpec)

/-- ITS FALSE NEIGHBOUR: 'it returns false'. Refute it at one input. -/
def schedPartsWrong : ChangeSpec := { name := "schedParts", fn := fun _ => fun
  | [d1, d2, d3] => { results := [.lit (.bool false)], args := [d1, d2, d3] }
  | _ => none }
def SchedPartsWrongFalsely : Prop := schedPartsRow.holds Try.pinned (OpenSpec.ofChange schedPartsWrong)

/-- 'whirligiglaw28.SchedPlays': WHATEVER THE INPUT: true; the input reads as it did. -/
def schedPlaysSpec : ChangeSpec := { name := "schedPlays", fn := fun _ => fun
  | [d1, d2] => { results := [.lit (.bool true)], args := [d1, d2] }
  | _ => none }
def schedPlaysRow : OpenClaim := { program := "ytlcdafidoddefaa", sum := "177bc61aa4de8e2699624c5b7edee25953d21f11a45d3436c8b18728d794d795", func := "whirligig/whirligiglaw28.SchedPlays", spec := "schedPlays", unfollowed := true, recurses := true, plainKeys := false, apart := false }
def SchedPlaysSaid : Prop := schedPlaysRow.holds Try.pinned (OpenSpec.ofChange schedPlaysSpec)

/-- ITS FALSE NEIGHBOUR: 'it returns false'. Refute it at one input. -/
def schedPlaysWrong : ChangeSpec := { name := "schedPlays", fn := fun _ => fun
  | [d1, d2] => { results := [.lit (.bool false)], args := [d1, d2] }
  | _ => none }
def SchedPlaysWrongFalsely : Prop := schedPlaysRow.holds Try.pinned (OpenSpec.ofChange schedPlaysWrong)

/-- 'whirligiglaw27.SpvpCopies': WHATEVER THE INPUT: true; the input reads as it did. -/
def spvpCopiesSpec : ChangeSpec := { name := "spvpCopies", fn := fun _ => fun
  | [d1, d2, d3] => { results := [.lit (.bool true)], args := [d1, d2, d3] }
  | _ => none }
def spvpCopiesRow : OpenClaim := { program := "ytlcdafidoddefaa", sum := "177bc61aa4de8e2699624c5b7edee25953d21f11a45d3436c8b18728d794d795", func := "whirligig/whirligiglaw27.SpvpCopies", spec := "spvpCopies", unfollowed := true, recurses := true, plainKeys := false, apart := false }
def SpvpCopiesSaid : Prop := spvpCopiesRow.holds Try.pinned (OpenSpec.ofChange spvpCopiesSpec)

/-- ITS FALSE NEIGHBOUR: 'it returns false'. Refute it at one input. -/
def spvpCopiesWrong : ChangeSpec := { name := "spvpCopies", fn := fun _ => fun
  | [d1, d2, d3] => { results := [.lit (.bool false)], args := [d1, d2, d3] }
  | _ => none }
def SpvpCopiesWrongFalsely : Prop := spvpCopiesRow.holds Try.pinned (OpenSpec.ofChange spvpCopiesWrong)

/-- 'whirligiglaw28.SchedSettles': WHATEVER THE INPUT: true; the input reads as it did. -/
def schedSettlesSpec : ChangeSpec := { name := "schedSettles", fn := fun _ => fun
  | [d1, d2, d3] => { results := [.lit (.bool true)], args := [d1, d2, d3] }
  | _ => none }
def schedSettlesRow : OpenClaim := { program := "ytlcdafidoddefaa", sum := "177bc61aa4de8e2699624c5b7edee25953d21f11a45d3436c8b18728d794d795", func := "whirligig/whirligiglaw28.SchedSettles", spec := "schedSettles", unfollowed := true, recurses := true, plainKeys := false, apart := false }
def SchedSettlesSaid : Prop := schedSettlesRow.holds Try.pinned (OpenSpec.ofChange schedSettlesSpec)

/-- ITS FALSE NEIGHBOUR: 'it returns false'. Refute it at one input. -/
def schedSettlesWrong : ChangeSpec := { name := "schedSettles", fn := fun _ => fun
  | [d1, d2, d3] => { results := [.lit (.bool false)], args := [d1, d2, d3] }
  | _ => none }
def SchedSettlesWrongFalsely : Prop := schedSettlesRow.holds Try.pinned (OpenSpec.ofChange schedSettlesWrong)

/- THE SECOND FORM. 'bulk': how many values and letters a reading holds, each counted each time it is reached (what is shared counts as often as it is met; a slice's spare places count too). A statement '..UptoSaid' is the law's where the arguments, and the package variables that the reading takes, are together of bulk at most 1048576: NARROWER than '..Said'. Prove '..Said' where nothing that the law and all that it calls make is longer than what came in: it says more and counts as full. Else prove '..UptoSaid'. A law counts once. -/
mutual
def uptoBulk {H : Type} : DataW H → Nat
  | .lit (.string bytes) => bytes.length + 1
  | .lit _ => 1
  | .nil => 1
  | .ptr d => uptoBulk d + 1
  | .slice elems spare => uptoBulkAll elems + uptoBulkAll spare + 1
  | .agg parts => uptoBulkAll parts + 1
  | .iface _ d => uptoBulk d + 1
  | .map entries => uptoBulkEntries entries + 1
  | .held _ => 1
def uptoBulkAll {H : Type} : List (DataW H) → Nat
  | [] => 0
  | d :: r => uptoBulk d + uptoBulkAll r
def uptoBulkEntries {H : Type} : List (Lit × DataW H) → Nat
  | [] => 0
  | x :: r => uptoBulkEntry x + uptoBulkEntries r
def uptoBulkEntry {H : Type} : Lit × DataW H → Nat
  | (.string bytes, d) => bytes.length + uptoBulk d + 1
  | (_, d) => uptoBulk d + 1
 end
def uptoSmall : (H : Type) → List (DataW H) → Bool := fun _ ds => decide (uptoBulkAll ds ≤ 1048576)
def OpenSpec.upto (s : _root_.Go.ChangeSpec) : _root_.Go.OpenSpec := { _root_.Go.OpenSpec.ofChange s with cond := some uptoSmall }

/-- 'whirligiglaw27.SpvpTells', WHERE WHAT IT READS IS OF BULK AT MOST 1048576: true; the input reads as it did. -/
def spvpTellsUptoRow : OpenClaim := { program := "ytlcdafidoddefaa", sum := "177bc61aa4de8e2699624c5b7edee25953d21f11a45d3436c8b18728d794d795", func := "whirligig/whirligiglaw27.SpvpTells", spec := "spvpTells", unfollowed := true, recurses := true, plainKeys := false, apart := false, narrowed := true }
def SpvpTellsUptoSaid : Prop := spvpTellsUptoRow.holds Try.pinned (OpenSpec.upto spvpTellsSpec)

/-- 'whirligiglaw27.SpvpPlays', WHERE WHAT IT READS IS OF BULK AT MOST 1048576: true; the input reads as it did. -/
def spvpPlaysUptoRow : OpenClaim := { program := "ytlcdafidoddefaa", sum := "177bc61aa4de8e2699624c5b7edee25953d21f11a45d3436c8b18728d794d795", func := "whirligig/whirligiglaw27.SpvpPlays", spec := "spvpPlays", unfollowed := true, recurses := true, plainKeys := false, apart := false, narrowed := true }
def SpvpPlaysUptoSaid : Prop := spvpPlaysUptoRow.holds Try.pinned (OpenSpec.upto spvpPlaysSpec)

/-- 'whirligiglaw27.SpvpQuiet', WHERE WHAT IT READS IS OF BULK AT MOST 1048576: true; the input reads as it did. -/
def spvpQuietUptoRow : OpenClaim := { program := "ytlcdafidoddefaa", sum := "177bc61aa4de8e2699624c5b7edee25953d21f11a45d3436c8b18728d794d795", func := "whirligig/whirligiglaw27.SpvpQuiet", spec := "spvpQuiet", unfollowed := true, recurses := true, plainKeys := false, apart := false, narrowed := true }
def SpvpQuietUptoSaid : Prop := spvpQuietUptoRow.holds Try.pinned (OpenSpec.upto spvpQuietSpec)

/-- 'whirligiglaw28.SchedParts', WHERE WHAT IT READS IS OF BULK AT MOST 1048576: true; the input reads as it did. -/
def schedPartsUptoRow : OpenClaim := { program := "ytlcdafidoddefaa", sum := "177bc61aa4de8e2699624c5b7edee25953d21f11a45d3436c8b18728d794d795", func := "whirligig/whirligiglaw28.SchedParts", spec := "schedParts", unfollowed := true, recurses := true, plainKeys := false, apart := false, narrowed := true }
def SchedPartsUptoSaid : Prop := schedPartsUptoRow.holds Try.pinned (OpenSpec.upto schedPartsSpec)

/-- 'whirligiglaw28.SchedPlays', WHERE WHAT IT READS IS OF BULK AT MOST 1048576: true; the input reads as it did. -/
def schedPlaysUptoRow : OpenClaim := { program := "ytlcdafidoddefaa", sum := "177bc61aa4de8e2699624c5b7edee25953d21f11a45d3436c8b18728d794d795", func := "whirligig/whirligiglaw28.SchedPlays", spec := "schedPlays", unfollowed := true, recurses := true, plainKeys := false, apart := false, narrowed := true }
def SchedPlaysUptoSaid : Prop := schedPlaysUptoRow.holds Try.pinned (OpenSpec.upto schedPlaysSpec)

/-- 'whirligiglaw27.SpvpCopies', WHERE WHAT IT READS IS OF BULK AT MOST 1048576: true; the input reads as it did. -/
def spvpCopiesUptoRow : OpenClaim := { program := "ytlcdafidoddefaa", sum := "177bc61aa4de8e2699624c5b7edee25953d21f11a45d3436c8b18728d794d795", func := "whirligig/whirligiglaw27.SpvpCopies", spec := "spvpCopies", unfollowed := true, recurses := true, plainKeys := false, apart := false, narrowed := true }
def SpvpCopiesUptoSaid : Prop := spvpCopiesUptoRow.holds Try.pinned (OpenSpec.upto spvpCopiesSpec)

/-- 'whirligiglaw28.SchedSettles', WHERE WHAT IT READS IS OF BULK AT MOST 1048576: true; the input reads as it did. -/
def schedSettlesUptoRow : OpenClaim := { program := "ytlcdafidoddefaa", sum := "177bc61aa4de8e2699624c5b7edee25953d21f11a45d3436c8b18728d794d795", func := "whirligig/whirligiglaw28.SchedSettles", spec := "schedSettles", unfollowed := true, recurses := true, plainKeys := false, apart := false, narrowed := true }
def SchedSettlesUptoSaid : Prop := schedSettlesUptoRow.holds Try.pinned (OpenSpec.upto schedSettlesSpec)

end Rows
end Go.Proofs.Ytlcdafidoddefaa
