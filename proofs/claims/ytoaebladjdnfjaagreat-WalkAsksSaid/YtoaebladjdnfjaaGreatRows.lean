/-
  No cell of these rows narrows 'for every input' (looked for: loops, veiled, ifaces, maps, wideKeys, modest, calm, conditions, laid).
  DERIVED. THE GIVEN ROWS OF THIS SEAT. 4 by the template 'for every input the law returns true; each argument reads behind the call as it read before'; 0 by the template 'total and deterministic' (their statements: YtoaebladjdnfjaaGreatTotals.lean).
  GIVEN WITH THE SEED: the statements are not yours to turn. If you find one false, say at which input.
  Laid BY PROGRAM, IN A SANDBOX (cutbox-rows.mjs): the forced cells as the released guide's own fill.sh prints them over the translation e579b06c30bc8917… (all of the seat's roots in one cut). By AI agents, Wed Nov 11 2026. No macro, syntax, notation, axiom, sorry.
-/
import Derived.Test.YtoaebladjdnfjaaGreatChecked
import GoSem.Claim
import GoSem.ClaimJoined
import GoSem.ClaimMapViews
import Derived.JoinedTies
import Derived.KernelRfl
namespace Go.Proofs.YtoaebladjdnfjaaGreat
/- THE CELL 'sum', in the pinned program and in every row, IS THE sha256 OF THE DUMP (.gsa) THAT YtoaebladjdnfjaaGreatProg.lean LOADS. Nothing in Lean hashes anything: it is a label: what it is worth is what the hold of that sum in a sandbox is worth. -/
noncomputable def Tryz.pinned : Pinned := { name := "ytoaebladjdnfjaagreat", sum := "e579b06c30bc8917c8accb377aace9d0d2b563ae633673530cc0c263338dad73", checked := Tryz.checked }
namespace Rows
def none {H : Type} : Left H := { results := [], args := [] }

/-- 'chantrylaw18.WalkAsks': WHATEVER THE INPUT: true; the input reads as it did. -/
def walkAsksSpec : ChangeSpec := { name := "walkAsks", fn := fun _ => fun
  | [d1, d2, d3] => { results := [.lit (.bool true)], args := [d1, d2, d3] }
  | _ => none }
def walkAsksRow : OpenClaim := { program := "ytoaebladjdnfjaagreat", sum := "e579b06c30bc8917c8accb377aace9d0d2b563ae633673530cc0c263338dad73", func := "chantry/chantrylaw18.WalkAsks", spec := "walkAsks", inPlace := ["slices.overlaps[string]"], unfollowed := true, recurses := true, apart := false }
def WalkAsksSaid : Prop := walkAsksRow.holds Tryz.pinned (OpenSpec.ofChange walkAsksSpec)

/-- ITS FALSE NEIGHBOUR: 'it returns false'. Refute it at one input. -/
def walkAsksWrong : ChangeSpec := { name := "walkAsks", fn := fun _ => fun
  | [d1, d2, d3] => { results := [.lit (.bool false)], args := [d1, d2, d3] }
  | _ => none }
def WalkAsksWrongFalsely : Prop := walkAsksRow.holds Tryz.pinned (OpenSpec.ofChange walkAsksWrong)

/-- 'chantrylaw18.WalkBetween': WHATEVER THE INPUT: true; the input reads as it did. -/
def walkBetweenSpec : ChangeSpec := { name := "walkBetween", fn := fun _ => fun
  | [d1, d2, d3] => { results := [.lit (.bool true)], args := [d1, d2, d3] }
  | _ => none }
def walkBetweenRow : OpenClaim := { program := "ytoaebladjdnfjaagreat", sum := "e579b06c30bc8917c8accb377aace9d0d2b563ae633673530cc0c263338dad73", func := "chantry/chantrylaw18.WalkBetween", spec := "walkBetween", inPlace := ["slices.overlaps[string]"], unfollowed := true, recurses := true, apart := false }
def WalkBetweenSaid : Prop := walkBetweenRow.holds Tryz.pinned (OpenSpec.ofChange walkBetweenSpec)

/-- ITS FALSE NEIGHBOUR: 'it returns false'. Refute it at one input. -/
def walkBetweenWrong : ChangeSpec := { name := "walkBetween", fn := fun _ => fun
  | [d1, d2, d3] => { results := [.lit (.bool false)], args := [d1, d2, d3] }
  | _ => none }
def WalkBetweenWrongFalsely : Prop := walkBetweenRow.holds Tryz.pinned (OpenSpec.ofChange walkBetweenWrong)

/-- 'chantrylaw18.WalkTops': WHATEVER THE INPUT: true; the input reads as it did. -/
def walkTopsSpec : ChangeSpec := { name := "walkTops", fn := fun _ => fun
  | [d1, d2] => { results := [.lit (.bool true)], args := [d1, d2] }
  | _ => none }
def walkTopsRow : OpenClaim := { program := "ytoaebladjdnfjaagreat", sum := "e579b06c30bc8917c8accb377aace9d0d2b563ae633673530cc0c263338dad73", func := "chantry/chantrylaw18.WalkTops", spec := "walkTops", inPlace := ["slices.overlaps[string]"], unfollowed := true, recurses := true, apart := false }
def WalkTopsSaid : Prop := walkTopsRow.holds Tryz.pinned (OpenSpec.ofChange walkTopsSpec)

/-- ITS FALSE NEIGHBOUR: 'it returns false'. Refute it at one input. -/
def walkTopsWrong : ChangeSpec := { name := "walkTops", fn := fun _ => fun
  | [d1, d2] => { results := [.lit (.bool false)], args := [d1, d2] }
  | _ => none }
def WalkTopsWrongFalsely : Prop := walkTopsRow.holds Tryz.pinned (OpenSpec.ofChange walkTopsWrong)

/-- 'chantrylaw18.WalkCommon': WHATEVER THE INPUT: true; the input reads as it did. -/
def walkCommonSpec : ChangeSpec := { name := "walkCommon", fn := fun _ => fun
  | [d1, d2, d3] => { results := [.lit (.bool true)], args := [d1, d2, d3] }
  | _ => none }
def walkCommonRow : OpenClaim := { program := "ytoaebladjdnfjaagreat", sum := "e579b06c30bc8917c8accb377aace9d0d2b563ae633673530cc0c263338dad73", func := "chantry/chantrylaw18.WalkCommon", spec := "walkCommon", inPlace := ["slices.overlaps[string]"], unfollowed := true, recurses := true, apart := false }
def WalkCommonSaid : Prop := walkCommonRow.holds Tryz.pinned (OpenSpec.ofChange walkCommonSpec)

/-- ITS FALSE NEIGHBOUR: 'it returns false'. Refute it at one input. -/
def walkCommonWrong : ChangeSpec := { name := "walkCommon", fn := fun _ => fun
  | [d1, d2, d3] => { results := [.lit (.bool false)], args := [d1, d2, d3] }
  | _ => none }
def WalkCommonWrongFalsely : Prop := walkCommonRow.holds Tryz.pinned (OpenSpec.ofChange walkCommonWrong)

/- THE SECOND FORM. 'bulk': how many values and letters a reading holds, each counted each time it is reached (what is shared counts as often as it is met; a slice's spare places count too). A statement '..UptoSaid' is the law's where the arguments, and the package variables that the reading takes, are together of bulk at most 1048576: NARROWER than '..Said'. Prove '..Said' where nothing that the law and all that it calls make is longer than what came in: it says more and counts as full. Else prove '..UptoSaid'. A law counts once. -/
mutual
def uptoBulk {H : Type} : DataW H → Nat
  | .lit (.string bytes) => bytes.length + 1
  | .lit _ => 1
  | .nil => 1
  | .ptr d => uptoBulk d + 1
  | .slice elems spare => uptoBulkAll elems + uptoBulkAll spare + 1
  | .agg parts => uptoBulkAll parts + 1
  | .iface _ d => uptoBulk d + 1
  | .map entries => uptoBulkEntries entries + 1
  | .held _ => 1
def uptoBulkAll {H : Type} : List (DataW H) → Nat
  | [] => 0
  | d :: r => uptoBulk d + uptoBulkAll r
def uptoBulkEntries {H : Type} : List (Lit × DataW H) → Nat
  | [] => 0
  | x :: r => uptoBulkEntry x + uptoBulkEntries r
def uptoBulkEntry {H : Type} : Lit × DataW H → Nat
  | (.string bytes, d) => bytes.length + uptoBulk d + 1
  | (_, d) => uptoBulk d + 1
 end
def uptoSmall : (H : Type) → List (DataW H) → Bool := fun _ ds => decide (uptoBulkAll ds ≤ 1048576)
def OpenSpec.upto (s : _root_.Go.ChangeSpec) : _root_.Go.OpenSpec := { _root_.Go.OpenSpec.ofChange s with cond := some uptoSmall }

/-- 'chantrylaw18.WalkAsks', WHERE WHAT IT READS IS OF BULK AT MOST 1048576: true; the input reads as it did. -/
def walkAsksUptoRow : OpenClaim := { program := "ytoaebladjdnfjaagreat", sum := "e579b06c30bc8917c8accb377aace9d0d2b563ae633673530cc0c263338dad73", func := "chantry/chantrylaw18.WalkAsks", spec := "walkAsks", inPlace := ["slices.overlaps[string]"], unfollowed := true, recurses := true, apart := false, narrowed := true }
def WalkAsksUptoSaid : Prop := walkAsksUptoRow.holds Tryz.pinned (OpenSpec.upto walkAsksSpec)

/-- 'chantrylaw18.WalkBetween', WHERE WHAT IT READS IS OF BULK AT MOST 1048576: true; the input reads as it did. -/
def walkBetweenUptoRow : OpenClaim := { program := "ytoaebladjdnfjaagreat", sum := "e579b06c30bc8917c8accb377aace9d0d2b563ae633673530cc0c263338dad73", func := "chantry/chantrylaw18.WalkBetween", spec := "walkBetween", inPlace := ["slices.overlaps[string]"], unfollowed := true, recurses := true, apart := false, narrowed := true }
def WalkBetweenUptoSaid : Prop := walkBetweenUptoRow.holds Tryz.pinned (OpenSpec.upto walkBetweenSpec)

/-- 'chantrylaw18.WalkTops', WHERE WHAT IT READS IS OF BULK AT MOST 1048576: true; the input reads as it did. -/
def walkTopsUptoRow : OpenClaim := { program := "ytoaebladjdnfjaagreat", sum := "e579b06c30bc8917c8accb377aace9d0d2b563ae633673530cc0c263338dad73", func := "chantry/chantrylaw18.WalkTops", spec := "walkTops", inPlace := ["slices.overlaps[string]"], unfollowed := true, recurses := true, apart := false, narrowed := true }
def WalkTopsUptoSaid : Prop := walkTopsUptoRow.holds Tryz.pinned (OpenSpec.upto walkTopsSpec)

/-- 'chantrylaw18.WalkCommon', WHERE WHAT IT READS IS OF BULK AT MOST 1048576: true; the input reads as it did. -/
def walkCommonUptoRow : OpenClaim := { program := "ytoaebladjdnfjaagreat", sum := "e579b06c30bc8917c8accb377aace9d0d2b563ae633673530cc0c263338dad73", func := "chantry/chantrylaw18.WalkCommon", spec := "walkCommon", inPlace := ["slices.overlaps[string]"], unfollowed := true, recurses := true, apart := false, narrowed := true }
def WalkCommonUptoSaid : Prop := walkCommonUptoRow.holds Tryz.pinned (OpenSpec.upto walkCommonSpec)

end Rows
end Go.Proofs.YtoaebladjdnfjaaGreat
