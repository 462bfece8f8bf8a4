/-
  No cell of these rows narrows 'for every input' (looked for: loops, veiled, ifaces, maps, wideKeys, modest, calm, conditions, laid).
  DERIVED. THE GIVEN ROWS OF THIS SEAT. 13 by the template 'for every input the law returns true; each argument reads behind the call as it read before'; 0 by the template 'total and deterministic' (their statements: YtodchgddkgjciaaTotals.lean).
  GIVEN WITH THE SEED: the statements are not yours to turn. If you find one false, say at which input.
  Laid BY PROGRAM, IN A SANDBOX (cutbox-rows.mjs): the forced cells as the released guide's own fill.sh prints them over the translation 39507309ca25ca52… (all of the seat's roots in one cut). By AI agents, Wed Nov 11 2026. No macro, syntax, notation, axiom, sorry.
-/
import Derived.Test.YtodchgddkgjciaaChecked
import GoSem.Claim
import GoSem.ClaimJoined
import GoSem.ClaimMapViews
import Derived.JoinedTies
import Derived.KernelRfl
namespace Go.Proofs.Ytodchgddkgjciaa
/- THE CELL 'sum', in the pinned program and in every row, IS THE sha256 OF THE DUMP (.gsa) THAT YtodchgddkgjciaaProg.lean LOADS. Nothing in Lean hashes anything: it is a label: what it is worth is what the hold of that sum in a sandbox is worth. -/
noncomputable def Try.pinned : Pinned := { name := "ytodchgddkgjciaa", sum := "39507309ca25ca5258be8d316c572b9d7c2bcc35c98fc81c8539c954137098df", checked := Try.checked }
namespace Rows
def none {H : Type} : Left H := { results := [], args := [] }

/-- 'clochelaw02.AloudSays': WHATEVER THE INPUT: true; the input reads as it did. -/
def aloudSaysSpec : ChangeSpec := { name := "aloudSays", fn := fun _ => fun
  | [d] => { results := [.lit (.bool true)], args := [d] }
  | _ => none }
def aloudSaysRow : OpenClaim := { program := "ytodchgddkgjciaa", sum := "39507309ca25ca5258be8d316c572b9d7c2bcc35c98fc81c8539c954137098df", func := "cloche/clochelaw02.AloudSays", spec := "aloudSays", inPlace := ["internal/abi.NoEscape", "internal/bytealg.MakeNoZero"], unfollowed := true, recurses := true, apart := false }
def AloudSaysSaid : Prop := aloudSaysRow.holds Try.pinned (OpenSpec.ofChange aloudSaysSpec)

/-- ITS FALSE NEIGHBOUR: 'it returns false'. Refute it at one input. -/
def aloudSaysWrong : ChangeSpec := { name := "aloudSays", fn := fun _ => fun
  | [d] => { results := [.lit (.bool false)], args := [d] }
  | _ => none }
def AloudSaysWrongFalsely : Prop := aloudSaysRow.holds Try.pinned (OpenSpec.ofChange aloudSaysWrong)

/-- 'clochelaw02.AloudApart': WHATEVER THE INPUT: true; the input reads as it did. -/
def aloudApartSpec : ChangeSpec := { name := "aloudApart", fn := fun _ => fun
  | [d1, d2, d3] => { results := [.lit (.bool true)], args := [d1, d2, d3] }
  | _ => none }
def aloudApartRow : OpenClaim := { program := "ytodchgddkgjciaa", sum := "39507309ca25ca5258be8d316c572b9d7c2bcc35c98fc81c8539c954137098df", func := "cloche/clochelaw02.AloudApart", spec := "aloudApart", inPlace := ["internal/abi.NoEscape", "internal/bytealg.MakeNoZero"], unfollowed := true, recurses := true, apart := false }
def AloudApartSaid : Prop := aloudApartRow.holds Try.pinned (OpenSpec.ofChange aloudApartSpec)

/-- ITS FALSE NEIGHBOUR: 'it returns false'. Refute it at one input. -/
def aloudApartWrong : ChangeSpec := { name := "aloudApart", fn := fun _ => fun
  | [d1, d2, d3] => { results := [.lit (.bool false)], args := [d1, d2, d3] }
  | _ => none }
def AloudApartWrongFalsely : Prop := aloudApartRow.holds Try.pinned (OpenSpec.ofChange aloudApartWrong)

/-- 'clochelaw02.AloudRuns': WHATEVER THE INPUT: true; the input reads as it did. -/
def aloudRunsSpec : ChangeSpec := { name := "aloudRuns", fn := fun _ => fun
  | [d] => { results := [.lit (.bool true)], args := [d] }
  | _ => none }
def aloudRunsRow : OpenClaim := { program := "ytodchgddkgjciaa", sum := "39507309ca25ca5258be8d316c572b9d7c2bcc35c98fc81c8539c954137098df", func := "cloche/clochelaw02.AloudRuns", spec := "aloudRuns", inPlace := ["internal/abi.NoEscape", "internal/bytealg.MakeNoZero"], unfollowed := true, recurses := true, apart := false }
def AloudRunsSaid : Prop := aloudRunsRow.holds Try.pinned (OpenSpec.ofChange aloudRunsSpec)

/-- ITS FALSE NEIGHBOUR: 'it returns false'. Refute it at one input. -/
def aloudRunsWrong : ChangeSpec := { name := "aloudRuns", fn := fun _ => fun
  | [d] => { results := [.lit (.bool false)], args := [d] }
  | _ => none }
def AloudRunsWrongFalsely : Prop := aloudRunsRow.holds Try.pinned (OpenSpec.ofChange aloudRunsWrong)

/-- 'clochelaw02.AloudParts': WHATEVER THE INPUT: true; the input reads as it did. -/
def aloudPartsSpec : ChangeSpec := { name := "aloudParts", fn := fun _ => fun
  | [d1, d2] => { results := [.lit (.bool true)], args := [d1, d2] }
  | _ => none }
def aloudPartsRow : OpenClaim := { program := "ytodchgddkgjciaa", sum := "39507309ca25ca5258be8d316c572b9d7c2bcc35c98fc81c8539c954137098df", func := "cloche/clochelaw02.AloudParts", spec := "aloudParts", inPlace := ["internal/abi.NoEscape", "internal/bytealg.MakeNoZero"], unfollowed := true, recurses := true, apart := false }
def AloudPartsSaid : Prop := aloudPartsRow.holds Try.pinned (OpenSpec.ofChange aloudPartsSpec)

/-- ITS FALSE NEIGHBOUR: 'it returns false'. Refute it at one input. -/
def aloudPartsWrong : ChangeSpec := { name := "aloudParts", fn := fun _ => fun
  | [d1, d2] => { results := [.lit (.bool false)], args := [d1, d2] }
  | _ => none }
def AloudPartsWrongFalsely : Prop := aloudPartsRow.holds Try.pinned (OpenSpec.ofChange aloudPartsWrong)

/-- 'clochelaw02.AloudMeets': WHATEVER THE INPUT: true; the input reads as it did. -/
def aloudMeetsSpec : ChangeSpec := { name := "aloudMeets", fn := fun _ => fun
  | [d1, d2, d3] => { results := [.lit (.bool true)], args := [d1, d2, d3] }
  | _ => none }
def aloudMeetsRow : OpenClaim := { program := "ytodchgddkgjciaa", sum := "39507309ca25ca5258be8d316c572b9d7c2bcc35c98fc81c8539c954137098df", func := "cloche/clochelaw02.AloudMeets", spec := "aloudMeets", inPlace := ["internal/abi.NoEscape", "internal/bytealg.MakeNoZero"], unfollowed := true, recurses := true, apart := false }
def AloudMeetsSaid : Prop := aloudMeetsRow.holds Try.pinned (OpenSpec.ofChange aloudMeetsSpec)

/-- ITS FALSE NEIGHBOUR: 'it returns false'. Refute it at one input. -/
def aloudMeetsWrong : ChangeSpec := { name := "aloudMeets", fn := fun _ => fun
  | [d1, d2, d3] => { results := [.lit (.bool false)], args := [d1, d2, d3] }
  | _ => none }
def AloudMeetsWrongFalsely : Prop := aloudMeetsRow.holds Try.pinned (OpenSpec.ofChange aloudMeetsWrong)

/-- 'clochelaw02.AloudNever': WHATEVER THE INPUT: true; the input reads as it did. -/
def aloudNeverSpec : ChangeSpec := { name := "aloudNever", fn := fun _ => fun
  | [d1, d2] => { results := [.lit (.bool true)], args := [d1, d2] }
  | _ => none }
def aloudNeverRow : OpenClaim := { program := "ytodchgddkgjciaa", sum := "39507309ca25ca5258be8d316c572b9d7c2bcc35c98fc81c8539c954137098df", func := "cloche/clochelaw02.AloudNever", spec := "aloudNever", inPlace := ["internal/abi.NoEscape", "internal/bytealg.MakeNoZero"], unfollowed := true, recurses := true, apart := false }
def AloudNeverSaid : Prop := aloudNeverRow.holds Try.pinned (OpenSpec.ofChange aloudNeverSpec)

/-- ITS FALSE NEIGHBOUR: 'it returns false'. Refute it at one input. -/
def aloudNeverWrong : ChangeSpec := { name := "aloudNever", fn := fun _ => fun
  | [d1, d2] => { results := [.lit (.bool false)], args := [d1, d2] }
  | _ => none }
def AloudNeverWrongFalsely : Prop := aloudNeverRow.holds Try.pinned (OpenSpec.ofChange aloudNeverWrong)

/-- 'clochelaw02.AloudAges': WHATEVER THE INPUT: true; the input reads as it did. -/
def aloudAgesSpec : ChangeSpec := { name := "aloudAges", fn := fun _ => fun
  | [d] => { results := [.lit (.bool true)], args := [d] }
  | _ => none }
def aloudAgesRow : OpenClaim := { program := "ytodchgddkgjciaa", sum := "39507309ca25ca5258be8d316c572b9d7c2bcc35c98fc81c8539c954137098df", func := "cloche/clochelaw02.AloudAges", spec := "aloudAges", inPlace := ["internal/abi.NoEscape", "internal/bytealg.MakeNoZero"], unfollowed := true, recurses := true, apart := false }
def AloudAgesSaid : Prop := aloudAgesRow.holds Try.pinned (OpenSpec.ofChange aloudAgesSpec)

/-- ITS FALSE NEIGHBOUR: 'it returns false'. Refute it at one input. -/
def aloudAgesWrong : ChangeSpec := { name := "aloudAges", fn := fun _ => fun
  | [d] => { results := [.lit (.bool false)], args := [d] }
  | _ => none }
def AloudAgesWrongFalsely : Prop := aloudAgesRow.holds Try.pinned (OpenSpec.ofChange aloudAgesWrong)

/-- 'clochelaw02.AloudLast': WHATEVER THE INPUT: true; the input reads as it did. -/
def aloudLastSpec : ChangeSpec := { name := "aloudLast", fn := fun _ => fun
  | [d1, d2] => { results := [.lit (.bool true)], args := [d1, d2] }
  | _ => none }
def aloudLastRow : OpenClaim := { program := "ytodchgddkgjciaa", sum := "39507309ca25ca5258be8d316c572b9d7c2bcc35c98fc81c8539c954137098df", func := "cloche/clochelaw02.AloudLast", spec := "aloudLast", inPlace := ["internal/abi.NoEscape", "internal/bytealg.MakeNoZero"], unfollowed := true, recurses := true, apart := false }
def AloudLastSaid : Prop := aloudLastRow.holds Try.pinned (OpenSpec.ofChange aloudLastSpec)

/-- ITS FALSE NEIGHBOUR: 'it returns false'. Refute it at one input. -/
def aloudLastWrong : ChangeSpec := { name := "aloudLast", fn := fun _ => fun
  | [d1, d2] => { results := [.lit (.bool false)], args := [d1, d2] }
  | _ => none }
def AloudLastWrongFalsely : Prop := aloudLastRow.holds Try.pinned (OpenSpec.ofChange aloudLastWrong)

/-- 'clochelaw02.AloudDays': WHATEVER THE INPUT: true; the input reads as it did. -/
def aloudDaysSpec : ChangeSpec := { name := "aloudDays", fn := fun _ => fun
  | [d1, d2] => { results := [.lit (.bool true)], args := [d1, d2] }
  | _ => none }
def aloudDaysRow : OpenClaim := { program := "ytodchgddkgjciaa", sum := "39507309ca25ca5258be8d316c572b9d7c2bcc35c98fc81c8539c954137098df", func := "cloche/clochelaw02.AloudDays", spec := "aloudDays", inPlace := ["internal/abi.NoEscape", "internal/bytealg.MakeNoZero"], unfollowed := true, recurses := true, apart := false }
def AloudDaysSaid : Prop := aloudDaysRow.holds Try.pinned (OpenSpec.ofChange aloudDaysSpec)

/-- ITS FALSE NEIGHBOUR: 'it returns false'. Refute it at one input. -/
def aloudDaysWrong : ChangeSpec := { name := "aloudDays", fn := fun _ => fun
  | [d1, d2] => { results := [.lit (.bool false)], args := [d1, d2] }
  | _ => none }
def AloudDaysWrongFalsely : Prop := aloudDaysRow.holds Try.pinned (OpenSpec.ofChange aloudDaysWrong)

/-- 'clochelaw02.AloudAdded': WHATEVER THE INPUT: true; the input reads as it did. -/
def aloudAddedSpec : ChangeSpec := { name := "aloudAdded", fn := fun _ => fun
  | [d1, d2, d3, d4] => { results := [.lit (.bool true)], args := [d1, d2, d3, d4] }
  | _ => none }
def aloudAddedRow : OpenClaim := { program := "ytodchgddkgjciaa", sum := "39507309ca25ca5258be8d316c572b9d7c2bcc35c98fc81c8539c954137098df", func := "cloche/clochelaw02.AloudAdded", spec := "aloudAdded", inPlace := ["internal/abi.NoEscape", "internal/bytealg.MakeNoZero"], unfollowed := true, recurses := true, apart := false }
def AloudAddedSaid : Prop := aloudAddedRow.holds Try.pinned (OpenSpec.ofChange aloudAddedSpec)

/-- ITS FALSE NEIGHBOUR: 'it returns false'. Refute it at one input. -/
def aloudAddedWrong : ChangeSpec := { name := "aloudAdded", fn := fun _ => fun
  | [d1, d2, d3, d4] => { results := [.lit (.bool false)], args := [d1, d2, d3, d4] }
  | _ => none }
def AloudAddedWrongFalsely : Prop := aloudAddedRow.holds Try.pinned (OpenSpec.ofChange aloudAddedWrong)

/-- 'clochelaw02.AloudOf': WHATEVER THE INPUT: true; the input reads as it did. -/
def aloudOfSpec : ChangeSpec := { name := "aloudOf", fn := fun _ => fun
  | [d] => { results := [.lit (.bool true)], args := [d] }
  | _ => none }
def aloudOfRow : OpenClaim := { program := "ytodchgddkgjciaa", sum := "39507309ca25ca5258be8d316c572b9d7c2bcc35c98fc81c8539c954137098df", func := "cloche/clochelaw02.AloudOf", spec := "aloudOf", inPlace := ["internal/abi.NoEscape", "internal/bytealg.MakeNoZero"], unfollowed := true, recurses := true, apart := false }
def AloudOfSaid : Prop := aloudOfRow.holds Try.pinned (OpenSpec.ofChange aloudOfSpec)

/-- ITS FALSE NEIGHBOUR: 'it returns false'. Refute it at one input. -/
def aloudOfWrong : ChangeSpec := { name := "aloudOf", fn := fun _ => fun
  | [d] => { results := [.lit (.bool false)], args := [d] }
  | _ => none }
def AloudOfWrongFalsely : Prop := aloudOfRow.holds Try.pinned (OpenSpec.ofChange aloudOfWrong)

/-- 'clochelaw02.AloudWords': WHATEVER THE INPUT: true; the input reads as it did. -/
def aloudWordsSpec : ChangeSpec := { name := "aloudWords", fn := fun _ => fun
  | [d] => { results := [.lit (.bool true)], args := [d] }
  | _ => none }
def aloudWordsRow : OpenClaim := { program := "ytodchgddkgjciaa", sum := "39507309ca25ca5258be8d316c572b9d7c2bcc35c98fc81c8539c954137098df", func := "cloche/clochelaw02.AloudWords", spec := "aloudWords", inPlace := ["internal/abi.NoEscape", "internal/bytealg.MakeNoZero"], unfollowed := true, recurses := true, apart := false }
def AloudWordsSaid : Prop := aloudWordsRow.holds Try.pinned (OpenSpec.ofChange aloudWordsSpec)

/-- ITS FALSE NEIGHBOUR: 'it returns false'. Refute it at one input. -/
def aloudWordsWrong : ChangeSpec := { name := "aloudWords", fn := fun _ => fun
  | [d] => { results := [.lit (.bool false)], args := [d] }
  | _ => none }
def AloudWordsWrongFalsely : Prop := aloudWordsRow.holds Try.pinned (OpenSpec.ofChange aloudWordsWrong)

/-- 'clochelaw02.AloudBack': WHATEVER THE INPUT: true; the input reads as it did. -/
def aloudBackSpec : ChangeSpec := { name := "aloudBack", fn := fun _ => fun
  | [d] => { results := [.lit (.bool true)], args := [d] }
  | _ => none }
def aloudBackRow : OpenClaim := { program := "ytodchgddkgjciaa", sum := "39507309ca25ca5258be8d316c572b9d7c2bcc35c98fc81c8539c954137098df", func := "cloche/clochelaw02.AloudBack", spec := "aloudBack", inPlace := ["internal/abi.NoEscape", "internal/bytealg.MakeNoZero"], unfollowed := true, recurses := true, apart := false }
def AloudBackSaid : Prop := aloudBackRow.holds Try.pinned (OpenSpec.ofChange aloudBackSpec)

/-- ITS FALSE NEIGHBOUR: 'it returns false'. Refute it at one input. -/
def aloudBackWrong : ChangeSpec := { name := "aloudBack", fn := fun _ => fun
  | [d] => { results := [.lit (.bool false)], args := [d] }
  | _ => none }
def AloudBackWrongFalsely : Prop := aloudBackRow.holds Try.pinned (OpenSpec.ofChange aloudBackWrong)

/- THE SECOND FORM. 'bulk': how many values and letters a reading holds, each counted each time it is reached (what is shared counts as often as it is met; a slice's spare places count too). A statement '..UptoSaid' is the law's where the arguments, and the package variables that the reading takes, are together of bulk at most 1048576: NARROWER than '..Said'. Prove '..Said' where nothing that the law and all that it calls make is longer than what came in: it says more and counts as full. Else prove '..UptoSaid'. A law counts once. -/
mutual
def uptoBulk {H : Type} : DataW H → Nat
  | .lit (.string bytes) => bytes.length + 1
  | .lit _ => 1
  | .nil => 1
  | .ptr d => uptoBulk d + 1
  | .slice elems spare => uptoBulkAll elems + uptoBulkAll spare + 1
  | .agg parts => uptoBulkAll parts + 1
  | .iface _ d => uptoBulk d + 1
  | .map entries => uptoBulkEntries entries + 1
  | .held _ => 1
def uptoBulkAll {H : Type} : List (DataW H) → Nat
  | [] => 0
  | d :: r => uptoBulk d + uptoBulkAll r
def uptoBulkEntries {H : Type} : List (Lit × DataW H) → Nat
  | [] => 0
  | x :: r => uptoBulkEntry x + uptoBulkEntries r
def uptoBulkEntry {H : Type} : Lit × DataW H → Nat
  | (.string bytes, d) => bytes.length + uptoBulk d + 1
  | (_, d) => uptoBulk d + 1
 end
def uptoSmall : (H : Type) → List (DataW H) → Bool := fun _ ds => decide (uptoBulkAll ds ≤ 1048576)
def OpenSpec.upto (s : _root_.Go.ChangeSpec) : _root_.Go.OpenSpec := { _root_.Go.OpenSpec.ofChange s with cond := some uptoSmall }

/-- 'clochelaw02.AloudSays', WHERE WHAT IT READS IS OF BULK AT MOST 1048576: true; the input reads as it did. -/
def aloudSaysUptoRow : OpenClaim := { program := "ytodchgddkgjciaa", sum := "39507309ca25ca5258be8d316c572b9d7c2bcc35c98fc81c8539c954137098df", func := "cloche/clochelaw02.AloudSays", spec := "aloudSays", inPlace := ["internal/abi.NoEscape", "internal/bytealg.MakeNoZero"], unfollowed := true, recurses := true, apart := false, narrowed := true }
def AloudSaysUptoSaid : Prop := aloudSaysUptoRow.holds Try.pinned (OpenSpec.upto aloudSaysSpec)

/-- 'clochelaw02.AloudApart', WHERE WHAT IT READS IS OF BULK AT MOST 1048576: true; the input reads as it did. -/
def aloudApartUptoRow : OpenClaim := { program := "ytodchgddkgjciaa", sum := "39507309ca25ca5258be8d316c572b9d7c2bcc35c98fc81c8539c954137098df", func := "cloche/clochelaw02.AloudApart", spec := "aloudApart", inPlace := ["internal/abi.NoEscape", "internal/bytealg.MakeNoZero"], unfollowed := true, recurses := true, apart := false, narrowed := true }
def AloudApartUptoSaid : Prop := aloudApartUptoRow.holds Try.pinned (OpenSpec.upto aloudApartSpec)

/-- 'clochelaw02.AloudRuns', WHERE WHAT IT READS IS OF BULK AT MOST 1048576: true; the input reads as it did. -/
def aloudRunsUptoRow : OpenClaim := { program := "ytodchgddkgjciaa", sum := "39507309ca25ca5258be8d316c572b9d7c2bcc35c98fc81c8539c954137098df", func := "cloche/clochelaw02.AloudRuns", spec := "aloudRuns", inPlace := ["internal/abi.NoEscape", "internal/bytealg.MakeNoZero"], unfollowed := true, recurses := true, apart := false, narrowed := true }
def AloudRunsUptoSaid : Prop := aloudRunsUptoRow.holds Try.pinned (OpenSpec.upto aloudRunsSpec)

/-- 'clochelaw02.AloudParts', WHERE WHAT IT READS IS OF BULK AT MOST 1048576: true; the input reads as it did. -/
def aloudPartsUptoRow : OpenClaim := { program := "ytodchgddkgjciaa", sum := "39507309ca25ca5258be8d316c572b9d7c2bcc35c98fc81c8539c954137098df", func := "cloche/clochelaw02.AloudParts", spec := "aloudParts", inPlace := ["internal/abi.NoEscape", "internal/bytealg.MakeNoZero"], unfollowed := true, recurses := true, apart := false, narrowed := true }
def AloudPartsUptoSaid : Prop := aloudPartsUptoRow.holds Try.pinned (OpenSpec.upto aloudPartsSpec)

/-- 'clochelaw02.AloudMeets', WHERE WHAT IT READS IS OF BULK AT MOST 1048576: true; the input reads as it did. -/
def aloudMeetsUptoRow : OpenClaim := { program := "ytodchgddkgjciaa", sum := "39507309ca25ca5258be8d316c572b9d7c2bcc35c98fc81c8539c954137098df", func := "cloche/clochelaw02.AloudMeets", spec := "aloudMeets", inPlace := ["internal/abi.NoEscape", "internal/bytealg.MakeNoZero"], unfollowed := true, recurses := true, apart := false, narrowed := true }
def AloudMeetsUptoSaid : Prop := aloudMeetsUptoRow.holds Try.pinned (OpenSpec.upto aloudMeetsSpec)

/-- 'clochelaw02.AloudNever', WHERE WHAT IT READS IS OF BULK AT MOST 1048576: true; the input reads as it did. -/
def aloudNeverUptoRow : OpenClaim := { program := "ytodchgddkgjciaa", sum := "39507309ca25ca5258be8d316c572b9d7c2bcc35c98fc81c8539c954137098df", func := "cloche/clochelaw02.AloudNever", spec := "aloudNever", inPlace := ["internal/abi.NoEscape", "internal/bytealg.MakeNoZero"], unfollowed := true, recurses := true, apart := false, narrowed := true }
def AloudNeverUptoSaid : Prop := aloudNeverUptoRow.holds Try.pinned (OpenSpec.upto aloudNeverSpec)

/-- 'clochelaw02.AloudAges', WHERE WHAT IT READS IS OF BULK AT MOST 1048576: true; the input reads as it did. -/
def aloudAgesUptoRow : OpenClaim := { program := "ytodchgddkgjciaa", sum := "39507309ca25ca5258be8d316c572b9d7c2bcc35c98fc81c8539c954137098df", func := "cloche/clochelaw02.AloudAges", spec := "aloudAges", inPlace := ["internal/abi.NoEscape", "internal/bytealg.MakeNoZero"], unfollowed := true, recurses := true, apart := false, narrowed := true }
def AloudAgesUptoSaid : Prop := aloudAgesUptoRow.holds Try.pinned (OpenSpec.upto aloudAgesSpec)

/-- 'clochelaw02.AloudLast', WHERE WHAT IT READS IS OF BULK AT MOST 1048576: true; the input reads as it did. -/
def aloudLastUptoRow : OpenClaim := { program := "ytodchgddkgjciaa", sum := "39507309ca25ca5258be8d316c572b9d7c2bcc35c98fc81c8539c954137098df", func := "cloche/clochelaw02.AloudLast", spec := "aloudLast", inPlace := ["internal/abi.NoEscape", "internal/bytealg.MakeNoZero"], unfollowed := true, recurses := true, apart := false, narrowed := true }
def AloudLastUptoSaid : Prop := aloudLastUptoRow.holds Try.pinned (OpenSpec.upto aloudLastSpec)

/-- 'clochelaw02.AloudDays', WHERE WHAT IT READS IS OF BULK AT MOST 1048576: true; the input reads as it did. -/
def aloudDaysUptoRow : OpenClaim := { program := "ytodchgddkgjciaa", sum := "39507309ca25ca5258be8d316c572b9d7c2bcc35c98fc81c8539c954137098df", func := "cloche/clochelaw02.AloudDays", spec := "aloudDays", inPlace := ["internal/abi.NoEscape", "internal/bytealg.MakeNoZero"], unfollowed := true, recurses := true, apart := false, narrowed := true }
def AloudDaysUptoSaid : Prop := aloudDaysUptoRow.holds Try.pinned (OpenSpec.upto aloudDaysSpec)

/-- 'clochelaw02.AloudAdded', WHERE WHAT IT READS IS OF BULK AT MOST 1048576: true; the input reads as it did. -/
def aloudAddedUptoRow : OpenClaim := { program := "ytodchgddkgjciaa", sum := "39507309ca25ca5258be8d316c572b9d7c2bcc35c98fc81c8539c954137098df", func := "cloche/clochelaw02.AloudAdded", spec := "aloudAdded", inPlace := ["internal/abi.NoEscape", "internal/bytealg.MakeNoZero"], unfollowed := true, recurses := true, apart := false, narrowed := true }
def AloudAddedUptoSaid : Prop := aloudAddedUptoRow.holds Try.pinned (OpenSpec.upto aloudAddedSpec)

/-- 'clochelaw02.AloudOf', WHERE WHAT IT READS IS OF BULK AT MOST 1048576: true; the input reads as it did. -/
def aloudOfUptoRow : OpenClaim := { program := "ytodchgddkgjciaa", sum := "39507309ca25ca5258be8d316c572b9d7c2bcc35c98fc81c8539c954137098df", func := "cloche/clochelaw02.AloudOf", spec := "aloudOf", inPlace := ["internal/abi.NoEscape", "internal/bytealg.MakeNoZero"], unfollowed := true, recurses := true, apart := false, narrowed := true }
def AloudOfUptoSaid : Prop := aloudOfUptoRow.holds Try.pinned (OpenSpec.upto aloudOfSpec)

/-- 'clochelaw02.AloudWords', WHERE WHAT IT READS IS OF BULK AT MOST 1048576: true; the input reads as it did. -/
def aloudWordsUptoRow : OpenClaim := { program := "ytodchgddkgjciaa", sum := "39507309ca25ca5258be8d316c572b9d7c2bcc35c98fc81c8539c954137098df", func := "cloche/clochelaw02.AloudWords", spec := "aloudWords", inPlace := ["internal/abi.NoEscape", "internal/bytealg.MakeNoZero"], unfollowed := true, recurses := true, apart := false, narrowed := true }
def AloudWordsUptoSaid : Prop := aloudWordsUptoRow.holds Try.pinned (OpenSpec.upto aloudWordsSpec)

/-- 'clochelaw02.AloudBack', WHERE WHAT IT READS IS OF BULK AT MOST 1048576: true; the input reads as it did. -/
def aloudBackUptoRow : OpenClaim := { program := "ytodchgddkgjciaa", sum := "39507309ca25ca5258be8d316c572b9d7c2bcc35c98fc81c8539c954137098df", func := "cloche/clochelaw02.AloudBack", spec := "aloudBack", inPlace := ["internal/abi.NoEscape", "internal/bytealg.MakeNoZero"], unfollowed := true, recurses := true, apart := false, narrowed := true }
def AloudBackUptoSaid : Prop := aloudBackUptoRow.holds Try.pinned (OpenSpec.upto aloudBackSpec)

end Rows
end Go.Proofs.Ytodchgddkgjciaa
