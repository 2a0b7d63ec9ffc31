/-
  No cell of these rows narrows 'for every input' (looked for: loops, veiled, ifaces, maps, wideKeys, modest, calm, conditions, laid).
  DERIVED. THE GIVEN ROWS OF THIS SEAT. 11 by the template 'for every input the law returns true; each argument reads behind the call as it read before'; 0 by the template 'total and deterministic' (their statements: YtppgjglfoibfcaaGreatTotals.lean).
  GIVEN WITH THE SEED: the statements are not yours to turn. If you find one false, say at which input.
  Laid BY PROGRAM, IN A SANDBOX (cutbox-rows.mjs): the forced cells as the released guide's own fill.sh prints them over the translation 41c362adbec493ef… (all of the seat's roots in one cut). By AI agents, Wed Nov 11 2026. No macro, syntax, notation, axiom, sorry.
-/
import Derived.Test.YtppgjglfoibfcaaGreatChecked
import GoSem.Claim
import GoSem.ClaimJoined
import GoSem.ClaimMapViews
import Derived.JoinedTies
import Derived.KernelRfl
namespace Go.Proofs.YtppgjglfoibfcaaGreat
/- THE CELL 'sum', in the pinned program and in every row, IS THE sha256 OF THE DUMP (.gsa) THAT YtppgjglfoibfcaaGreatProg.lean LOADS. Nothing in Lean hashes anything: it is a label: what it is worth is what the hold of that sum in a sandbox is worth. -/
noncomputable def Tryz.pinned : Pinned := { name := "ytppgjglfoibfcaagreat", sum := "41c362adbec493efa4131b060a4f9743b4c43a23cf4046ea9c383b806ff031e8", checked := Tryz.checked }
namespace Rows
def none {H : Type} : Left H := { results := [], args := [] }

/-- 'chantrylaw21.ValuesDoes': WHATEVER THE INPUT: true; the input reads as it did. -/
def valuesDoesSpec : ChangeSpec := { name := "valuesDoes", fn := fun _ => fun
  | [d1, d2] => { results := [.lit (.bool true)], args := [d1, d2] }
  | _ => none }
def valuesDoesRow : OpenClaim := { program := "ytppgjglfoibfcaagreat", sum := "41c362adbec493efa4131b060a4f9743b4c43a23cf4046ea9c383b806ff031e8", func := "chantry/chantrylaw21.ValuesDoes", spec := "valuesDoes", inPlace := ["slices.overlaps[string]"], unfollowed := true, recurses := true, plainKeys := false, apart := false }
def ValuesDoesSaid : Prop := valuesDoesRow.holds Tryz.pinned (OpenSpec.ofChange valuesDoesSpec)

/-- ITS FALSE NEIGHBOUR: 'it returns false'. Refute it at one input. -/
def valuesDoesWrong : ChangeSpec := { name := "valuesDoes", fn := fun _ => fun
  | [d1, d2] => { results := [.lit (.bool false)], args := [d1, d2] }
  | _ => none }
def ValuesDoesWrongFalsely : Prop := valuesDoesRow.holds Tryz.pinned (OpenSpec.ofChange valuesDoesWrong)

/-- 'chantrylaw21.ValuesLoads': WHATEVER THE INPUT: true; the input reads as it did. -/
def valuesLoadsSpec : ChangeSpec := { name := "valuesLoads", fn := fun _ => fun
  | [d1, d2, d3] => { results := [.lit (.bool true)], args := [d1, d2, d3] }
  | _ => none }
def valuesLoadsRow : OpenClaim := { program := "ytppgjglfoibfcaagreat", sum := "41c362adbec493efa4131b060a4f9743b4c43a23cf4046ea9c383b806ff031e8", func := "chantry/chantrylaw21.ValuesLoads", spec := "valuesLoads", inPlace := ["slices.overlaps[string]"], unfollowed := true, recurses := true, plainKeys := false, apart := false }
def ValuesLoadsSaid : Prop := valuesLoadsRow.holds Tryz.pinned (OpenSpec.ofChange valuesLoadsSpec)

/-- ITS FALSE NEIGHBOUR: 'it returns false'. Refute it at one input. -/
def valuesLoadsWrong : ChangeSpec := { name := "valuesLoads", fn := fun _ => fun
  | [d1, d2, d3] => { results := [.lit (.bool false)], args := [d1, d2, d3] }
  | _ => none }
def ValuesLoadsWrongFalsely : Prop := valuesLoadsRow.holds Tryz.pinned (OpenSpec.ofChange valuesLoadsWrong)

/-- 'chantrylaw21.ValuesTops': WHATEVER THE INPUT: true; the input reads as it did. -/
def valuesTopsSpec : ChangeSpec := { name := "valuesTops", fn := fun _ => fun
  | [d1, d2] => { results := [.lit (.bool true)], args := [d1, d2] }
  | _ => none }
def valuesTopsRow : OpenClaim := { program := "ytppgjglfoibfcaagreat", sum := "41c362adbec493efa4131b060a4f9743b4c43a23cf4046ea9c383b806ff031e8", func := "chantry/chantrylaw21.ValuesTops", spec := "valuesTops", inPlace := ["slices.overlaps[string]"], unfollowed := true, recurses := true, plainKeys := false, apart := false }
def ValuesTopsSaid : Prop := valuesTopsRow.holds Tryz.pinned (OpenSpec.ofChange valuesTopsSpec)

/-- ITS FALSE NEIGHBOUR: 'it returns false'. Refute it at one input. -/
def valuesTopsWrong : ChangeSpec := { name := "valuesTops", fn := fun _ => fun
  | [d1, d2] => { results := [.lit (.bool false)], args := [d1, d2] }
  | _ => none }
def ValuesTopsWrongFalsely : Prop := valuesTopsRow.holds Tryz.pinned (OpenSpec.ofChange valuesTopsWrong)

/-- 'chantrylaw23.StateApplies': WHATEVER THE INPUT: true; the input reads as it did. -/
def stateAppliesSpec : ChangeSpec := { name := "stateApplies", fn := fun _ => fun
  | [d1, d2] => { results := [.lit (.bool true)], args := [d1, d2] }
  | _ => none }
def stateAppliesRow : OpenClaim := { program := "ytppgjglfoibfcaagreat", sum := "41c362adbec493efa4131b060a4f9743b4c43a23cf4046ea9c383b806ff031e8", func := "chantry/chantrylaw23.StateApplies", spec := "stateApplies", inPlace := ["slices.overlaps[string]", "slices.overlaps[chantry/members.add]", "internal/abi.NoEscape"], unfollowed := true, recurses := true, plainKeys := false, apart := false }
def StateAppliesSaid : Prop := stateAppliesRow.holds Tryz.pinned (OpenSpec.ofChange stateAppliesSpec)

/-- ITS FALSE NEIGHBOUR: 'it returns false'. Refute it at one input. -/
def stateAppliesWrong : ChangeSpec := { name := "stateApplies", fn := fun _ => fun
  | [d1, d2] => { results := [.lit (.bool false)], args := [d1, d2] }
  | _ => none }
def StateAppliesWrongFalsely : Prop := stateAppliesRow.holds Tryz.pinned (OpenSpec.ofChange stateAppliesWrong)

/-- 'chantrylaw23.StateRaw': WHATEVER THE INPUT: true; the input reads as it did. -/
def stateRawSpec : ChangeSpec := { name := "stateRaw", fn := fun _ => fun
  | [d1, d2, d3] => { results := [.lit (.bool true)], args := [d1, d2, d3] }
  | _ => none }
def stateRawRow : OpenClaim := { program := "ytppgjglfoibfcaagreat", sum := "41c362adbec493efa4131b060a4f9743b4c43a23cf4046ea9c383b806ff031e8", func := "chantry/chantrylaw23.StateRaw", spec := "stateRaw", inPlace := ["slices.overlaps[string]", "slices.overlaps[chantry/members.add]", "internal/abi.NoEscape"], unfollowed := true, recurses := true, plainKeys := false, apart := false }
def StateRawSaid : Prop := stateRawRow.holds Tryz.pinned (OpenSpec.ofChange stateRawSpec)

/-- ITS FALSE NEIGHBOUR: 'it returns false'. Refute it at one input. -/
def stateRawWrong : ChangeSpec := { name := "stateRaw", fn := fun _ => fun
  | [d1, d2, d3] => { results := [.lit (.bool false)], args := [d1, d2, d3] }
  | _ => none }
def StateRawWrongFalsely : Prop := stateRawRow.holds Tryz.pinned (OpenSpec.ofChange stateRawWrong)

/-- 'chantrylaw23.StateMeans': WHATEVER THE INPUT: true; the input reads as it did. -/
def stateMeansSpec : ChangeSpec := { name := "stateMeans", fn := fun _ => fun
  | [d] => { results := [.lit (.bool true)], args := [d] }
  | _ => none }
def stateMeansRow : OpenClaim := { program := "ytppgjglfoibfcaagreat", sum := "41c362adbec493efa4131b060a4f9743b4c43a23cf4046ea9c383b806ff031e8", func := "chantry/chantrylaw23.StateMeans", spec := "stateMeans", inPlace := ["slices.overlaps[string]", "slices.overlaps[chantry/members.add]", "internal/abi.NoEscape"], unfollowed := true, recurses := true, plainKeys := false, apart := false }
def StateMeansSaid : Prop := stateMeansRow.holds Tryz.pinned (OpenSpec.ofChange stateMeansSpec)

/-- ITS FALSE NEIGHBOUR: 'it returns false'. Refute it at one input. -/
def stateMeansWrong : ChangeSpec := { name := "stateMeans", fn := fun _ => fun
  | [d] => { results := [.lit (.bool false)], args := [d] }
  | _ => none }
def StateMeansWrongFalsely : Prop := stateMeansRow.holds Tryz.pinned (OpenSpec.ofChange stateMeansWrong)

/-- 'chantrylaw23.StateTurns': WHATEVER THE INPUT: true; the input reads as it did. -/
def stateTurnsSpec : ChangeSpec := { name := "stateTurns", fn := fun _ => fun
  | [d1, d2] => { results := [.lit (.bool true)], args := [d1, d2] }
  | _ => none }
def stateTurnsRow : OpenClaim := { program := "ytppgjglfoibfcaagreat", sum := "41c362adbec493efa4131b060a4f9743b4c43a23cf4046ea9c383b806ff031e8", func := "chantry/chantrylaw23.StateTurns", spec := "stateTurns", inPlace := ["slices.overlaps[string]", "slices.overlaps[chantry/members.add]", "internal/abi.NoEscape"], unfollowed := true, recurses := true, plainKeys := false, apart := false }
def StateTurnsSaid : Prop := stateTurnsRow.holds Tryz.pinned (OpenSpec.ofChange stateTurnsSpec)

/-- ITS FALSE NEIGHBOUR: 'it returns false'. Refute it at one input. -/
def stateTurnsWrong : ChangeSpec := { name := "stateTurns", fn := fun _ => fun
  | [d1, d2] => { results := [.lit (.bool false)], args := [d1, d2] }
  | _ => none }
def StateTurnsWrongFalsely : Prop := stateTurnsRow.holds Tryz.pinned (OpenSpec.ofChange stateTurnsWrong)

/-- 'chantrylaw23.StateLoads': WHATEVER THE INPUT: true; the input reads as it did. -/
def stateLoadsSpec : ChangeSpec := { name := "stateLoads", fn := fun _ => fun
  | [d1, d2, d3] => { results := [.lit (.bool true)], args := [d1, d2, d3] }
  | _ => none }
def stateLoadsRow : OpenClaim := { program := "ytppgjglfoibfcaagreat", sum := "41c362adbec493efa4131b060a4f9743b4c43a23cf4046ea9c383b806ff031e8", func := "chantry/chantrylaw23.StateLoads", spec := "stateLoads", inPlace := ["slices.overlaps[string]", "slices.overlaps[chantry/members.add]", "internal/abi.NoEscape"], unfollowed := true, recurses := true, plainKeys := false, apart := false }
def StateLoadsSaid : Prop := stateLoadsRow.holds Tryz.pinned (OpenSpec.ofChange stateLoadsSpec)

/-- ITS FALSE NEIGHBOUR: 'it returns false'. Refute it at one input. -/
def stateLoadsWrong : ChangeSpec := { name := "stateLoads", fn := fun _ => fun
  | [d1, d2, d3] => { results := [.lit (.bool false)], args := [d1, d2, d3] }
  | _ => none }
def StateLoadsWrongFalsely : Prop := stateLoadsRow.holds Tryz.pinned (OpenSpec.ofChange stateLoadsWrong)

/-- 'chantrylaw24.PlayMeans': WHATEVER THE INPUT: true; the input reads as it did. -/
def playMeansSpec : ChangeSpec := { name := "playMeans", fn := fun _ => fun
  | [d1, d2] => { results := [.lit (.bool true)], args := [d1, d2] }
  | _ => none }
def playMeansRow : OpenClaim := { program := "ytppgjglfoibfcaagreat", sum := "41c362adbec493efa4131b060a4f9743b4c43a23cf4046ea9c383b806ff031e8", func := "chantry/chantrylaw24.PlayMeans", spec := "playMeans", inPlace := ["slices.overlaps[string]", "slices.overlaps[chantry/members.add]", "internal/abi.NoEscape"], unfollowed := true, recurses := true, plainKeys := false, apart := false }
def PlayMeansSaid : Prop := playMeansRow.holds Tryz.pinned (OpenSpec.ofChange playMeansSpec)

/-- ITS FALSE NEIGHBOUR: 'it returns false'. Refute it at one input. -/
def playMeansWrong : ChangeSpec := { name := "playMeans", fn := fun _ => fun
  | [d1, d2] => { results := [.lit (.bool false)], args := [d1, d2] }
  | _ => none }
def PlayMeansWrongFalsely : Prop := playMeansRow.holds Tryz.pinned (OpenSpec.ofChange playMeansWrong)

/-- 'chantrylaw24.PlayPlays': WHATEVER THE INPUT: true; the input reads as it did. -/
def playPlaysSpec : ChangeSpec := { name := "playPlays", fn := fun _ => fun
  | [d1, d2, d3] => { results := [.lit (.bool true)], args := [d1, d2, d3] }
  | _ => none }
def playPlaysRow : OpenClaim := { program := "ytppgjglfoibfcaagreat", sum := "41c362adbec493efa4131b060a4f9743b4c43a23cf4046ea9c383b806ff031e8", func := "chantry/chantrylaw24.PlayPlays", spec := "playPlays", inPlace := ["slices.overlaps[string]", "slices.overlaps[chantry/members.add]", "internal/abi.NoEscape"], unfollowed := true, recurses := true, plainKeys := false, apart := false }
def PlayPlaysSaid : Prop := playPlaysRow.holds Tryz.pinned (OpenSpec.ofChange playPlaysSpec)

/-- ITS FALSE NEIGHBOUR: 'it returns false'. Refute it at one input. -/
def playPlaysWrong : ChangeSpec := { name := "playPlays", fn := fun _ => fun
  | [d1, d2, d3] => { results := [.lit (.bool false)], args := [d1, d2, d3] }
  | _ => none }
def PlayPlaysWrongFalsely : Prop := playPlaysRow.holds Tryz.pinned (OpenSpec.ofChange playPlaysWrong)

/-- 'chantrylaw24.PlayParts': WHATEVER THE INPUT: true; the input reads as it did. -/
def playPartsSpec : ChangeSpec := { name := "playParts", fn := fun _ => fun
  | [d1, d2] => { results := [.lit (.bool true)], args := [d1, d2] }
  | _ => none }
def playPartsRow : OpenClaim := { program := "ytppgjglfoibfcaagreat", sum := "41c362adbec493efa4131b060a4f9743b4c43a23cf4046ea9c383b806ff031e8", func := "chantry/chantrylaw24.PlayParts", spec := "playParts", inPlace := ["slices.overlaps[string]", "slices.overlaps[chantry/members.add]", "internal/abi.NoEscape"], unfollowed := true, recurses := true, plainKeys := false, apart := false }
def PlayPartsSaid : Prop := playPartsRow.holds Tryz.pinned (OpenSpec.ofChange playPartsSpec)

/-- ITS FALSE NEIGHBOUR: 'it returns false'. Refute it at one input. -/
def playPartsWrong : ChangeSpec := { name := "playParts", fn := fun _ => fun
  | [d1, d2] => { results := [.lit (.bool false)], args := [d1, d2] }
  | _ => none }
def PlayPartsWrongFalsely : Prop := playPartsRow.holds Tryz.pinned (OpenSpec.ofChange playPartsWrong)

/- THE SECOND FORM. 'bulk': how many values and letters a reading holds, each counted each time it is reached (what is shared counts as often as it is met; a slice's spare places count too). A statement '..UptoSaid' is the law's where the arguments, and the package variables that the reading takes, are together of bulk at most 1048576: NARROWER than '..Said'. Prove '..Said' where nothing that the law and all that it calls make is longer than what came in: it says more and counts as full. Else prove '..UptoSaid'. A law counts once. -/
mutual
def uptoBulk {H : Type} : DataW H → Nat
  | .lit (.string bytes) => bytes.length + 1
  | .lit _ => 1
  | .nil => 1
  | .ptr d => uptoBulk d + 1
  | .slice elems spare => uptoBulkAll elems + uptoBulkAll spare + 1
  | .agg parts => uptoBulkAll parts + 1
  | .iface _ d => uptoBulk d + 1
  | .map entries => uptoBulkEntries entries + 1
  | .held _ => 1
def uptoBulkAll {H : Type} : List (DataW H) → Nat
  | [] => 0
  | d :: r => uptoBulk d + uptoBulkAll r
def uptoBulkEntries {H : Type} : List (Lit × DataW H) → Nat
  | [] => 0
  | x :: r => uptoBulkEntry x + uptoBulkEntries r
def uptoBulkEntry {H : Type} : Lit × DataW H → Nat
  | (.string bytes, d) => bytes.length + uptoBulk d + 1
  | (_, d) => uptoBulk d + 1
 end
def uptoSmall : (H : Type) → List (DataW H) → Bool := fun _ ds => decide (uptoBulkAll ds ≤ 1048576)
def OpenSpec.upto (s : _root_.Go.ChangeSpec) : _root_.Go.OpenSpec := { _root_.Go.OpenSpec.ofChange s with cond := some uptoSmall }

/-- 'chantrylaw21.ValuesDoes', WHERE WHAT IT READS IS OF BULK AT MOST 1048576: true; the input reads as it did. -/
def valuesDoesUptoRow : OpenClaim := { program := "ytppgjglfoibfcaagreat", sum := "41c362adbec493efa4131b060a4f9743b4c43a23cf4046ea9c383b806ff031e8", func := "chantry/chantrylaw21.ValuesDoes", spec := "valuesDoes", inPlace := ["slices.overlaps[string]"], unfollowed := true, recurses := true, plainKeys := false, apart := false, narrowed := true }
def ValuesDoesUptoSaid : Prop := valuesDoesUptoRow.holds Tryz.pinned (OpenSpec.upto valuesDoesSpec)

/-- 'chantrylaw21.ValuesLoads', WHERE WHAT IT READS IS OF BULK AT MOST 1048576: true; the input reads as it did. -/
def valuesLoadsUptoRow : OpenClaim := { program := "ytppgjglfoibfcaagreat", sum := "41c362adbec493efa4131b060a4f9743b4c43a23cf4046ea9c383b806ff031e8", func := "chantry/chantrylaw21.ValuesLoads", spec := "valuesLoads", inPlace := ["slices.overlaps[string]"], unfollowed := true, recurses := true, plainKeys := false, apart := false, narrowed := true }
def ValuesLoadsUptoSaid : Prop := valuesLoadsUptoRow.holds Tryz.pinned (OpenSpec.upto valuesLoadsSpec)

/-- 'chantrylaw21.ValuesTops', WHERE WHAT IT READS IS OF BULK AT MOST 1048576: true; the input reads as it did. -/
def valuesTopsUptoRow : OpenClaim := { program := "ytppgjglfoibfcaagreat", sum := "41c362adbec493efa4131b060a4f9743b4c43a23cf4046ea9c383b806ff031e8", func := "chantry/chantrylaw21.ValuesTops", spec := "valuesTops", inPlace := ["slices.overlaps[string]"], unfollowed := true, recurses := true, plainKeys := false, apart := false, narrowed := true }
def ValuesTopsUptoSaid : Prop := valuesTopsUptoRow.holds Tryz.pinned (OpenSpec.upto valuesTopsSpec)

/-- 'chantrylaw23.StateApplies', WHERE WHAT IT READS IS OF BULK AT MOST 1048576: true; the input reads as it did. -/
def stateAppliesUptoRow : OpenClaim := { program := "ytppgjglfoibfcaagreat", sum := "41c362adbec493efa4131b060a4f9743b4c43a23cf4046ea9c383b806ff031e8", func := "chantry/chantrylaw23.StateApplies", spec := "stateApplies", inPlace := ["slices.overlaps[string]", "slices.overlaps[chantry/members.add]", "internal/abi.NoEscape"], unfollowed := true, recurses := true, plainKeys := false, apart := false, narrowed := true }
def StateAppliesUptoSaid : Prop := stateAppliesUptoRow.holds Tryz.pinned (OpenSpec.upto stateAppliesSpec)

/-- 'chantrylaw23.StateRaw', WHERE WHAT IT READS IS OF BULK AT MOST 1048576: true; the input reads as it did. -/
def stateRawUptoRow : OpenClaim := { program := "ytppgjglfoibfcaagreat", sum := "41c362adbec493efa4131b060a4f9743b4c43a23cf4046ea9c383b806ff031e8", func := "chantry/chantrylaw23.StateRaw", spec := "stateRaw", inPlace := ["slices.overlaps[string]", "slices.overlaps[chantry/members.add]", "internal/abi.NoEscape"], unfollowed := true, recurses := true, plainKeys := false, apart := false, narrowed := true }
def StateRawUptoSaid : Prop := stateRawUptoRow.holds Tryz.pinned (OpenSpec.upto stateRawSpec)

/-- 'chantrylaw23.StateMeans', WHERE WHAT IT READS IS OF BULK AT MOST 1048576: true; the input reads as it did. -/
def stateMeansUptoRow : OpenClaim := { program := "ytppgjglfoibfcaagreat", sum := "41c362adbec493efa4131b060a4f9743b4c43a23cf4046ea9c383b806ff031e8", func := "chantry/chantrylaw23.StateMeans", spec := "stateMeans", inPlace := ["slices.overlaps[string]", "slices.overlaps[chantry/members.add]", "internal/abi.NoEscape"], unfollowed := true, recurses := true, plainKeys := false, apart := false, narrowed := true }
def StateMeansUptoSaid : Prop := stateMeansUptoRow.holds Tryz.pinned (OpenSpec.upto stateMeansSpec)

/-- 'chantrylaw23.StateTurns', WHERE WHAT IT READS IS OF BULK AT MOST 1048576: true; the input reads as it did. -/
def stateTurnsUptoRow : OpenClaim := { program := "ytppgjglfoibfcaagreat", sum := "41c362adbec493efa4131b060a4f9743b4c43a23cf4046ea9c383b806ff031e8", func := "chantry/chantrylaw23.StateTurns", spec := "stateTurns", inPlace := ["slices.overlaps[string]", "slices.overlaps[chantry/members.add]", "internal/abi.NoEscape"], unfollowed := true, recurses := true, plainKeys := false, apart := false, narrowed := true }
def StateTurnsUptoSaid : Prop := stateTurnsUptoRow.holds Tryz.pinned (OpenSpec.upto stateTurnsSpec)

/-- 'chantrylaw23.StateLoads', WHERE WHAT IT READS IS OF BULK AT MOST 1048576: true; the input reads as it did. -/
def stateLoadsUptoRow : OpenClaim := { program := "ytppgjglfoibfcaagreat", sum := "41c362adbec493efa4131b060a4f9743b4c43a23cf4046ea9c383b806ff031e8", func := "chantry/chantrylaw23.StateLoads", spec := "stateLoads", inPlace := ["slices.overlaps[string]", "slices.overlaps[chantry/members.add]", "internal/abi.NoEscape"], unfollowed := true, recurses := true, plainKeys := false, apart := false, narrowed := true }
def StateLoadsUptoSaid : Prop := stateLoadsUptoRow.holds Tryz.pinned (OpenSpec.upto stateLoadsSpec)

/-- 'chantrylaw24.PlayMeans', WHERE WHAT IT READS IS OF BULK AT MOST 1048576: true; the input reads as it did. -/
def playMeansUptoRow : OpenClaim := { program := "ytppgjglfoibfcaagreat", sum := "41c362adbec493efa4131b060a4f9743b4c43a23cf4046ea9c383b806ff031e8", func := "chantry/chantrylaw24.PlayMeans", spec := "playMeans", inPlace := ["slices.overlaps[string]", "slices.overlaps[chantry/members.add]", "internal/abi.NoEscape"], unfollowed := true, recurses := true, plainKeys := false, apart := false, narrowed := true }
def PlayMeansUptoSaid : Prop := playMeansUptoRow.holds Tryz.pinned (OpenSpec.upto playMeansSpec)

/-- 'chantrylaw24.PlayPlays', WHERE WHAT IT READS IS OF BULK AT MOST 1048576: true; the input reads as it did. -/
def playPlaysUptoRow : OpenClaim := { program := "ytppgjglfoibfcaagreat", sum := "41c362adbec493efa4131b060a4f9743b4c43a23cf4046ea9c383b806ff031e8", func := "chantry/chantrylaw24.PlayPlays", spec := "playPlays", inPlace := ["slices.overlaps[string]", "slices.overlaps[chantry/members.add]", "internal/abi.NoEscape"], unfollowed := true, recurses := true, plainKeys := false, apart := false, narrowed := true }
def PlayPlaysUptoSaid : Prop := playPlaysUptoRow.holds Tryz.pinned (OpenSpec.upto playPlaysSpec)

/-- 'chantrylaw24.PlayParts', WHERE WHAT IT READS IS OF BULK AT MOST 1048576: true; the input reads as it did. -/
def playPartsUptoRow : OpenClaim := { program := "ytppgjglfoibfcaagreat", sum := "41c362adbec493efa4131b060a4f9743b4c43a23cf4046ea9c383b806ff031e8", func := "chantry/chantrylaw24.PlayParts", spec := "playParts", inPlace := ["slices.overlaps[string]", "slices.overlaps[chantry/members.add]", "internal/abi.NoEscape"], unfollowed := true, recurses := true, plainKeys := false, apart := false, narrowed := true }
def PlayPartsUptoSaid : Prop := playPartsUptoRow.holds Tryz.pinned (OpenSpec.upto playPartsSpec)

end Rows
end Go.Proofs.YtppgjglfoibfcaaGreat
