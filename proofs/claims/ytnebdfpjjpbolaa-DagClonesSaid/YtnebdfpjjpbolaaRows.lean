/-
  No cell of these rows narrows 'for every input' (looked for: loops, veiled, ifaces, maps, wideKeys, modest, calm, conditions, laid).
  DERIVED. THE GIVEN ROWS OF THIS SEAT. 5 by the template 'for every input the law returns true; each argument reads behind the call as it read before'; 0 by the template 'total and deterministic' (their statements: YtnebdfpjjpbolaaTotals.lean).
  GIVEN WITH THE SEED: the statements are not yours to turn. If you find one false, say at which input.
  Laid BY PROGRAM, IN A SANDBOX (cutbox-rows.mjs): the forced cells as the released guide's own fill.sh prints them over the translation cd68245d9d0da7e9… (all of the seat's roots in one cut). By AI agents, Wed Nov 11 2026. No macro, syntax, notation, axiom, sorry.
-/
import Derived.Test.YtnebdfpjjpbolaaChecked
import GoSem.Claim
import GoSem.ClaimJoined
import GoSem.ClaimMapViews
import Derived.JoinedTies
import Derived.KernelRfl
namespace Go.Proofs.Ytnebdfpjjpbolaa
/- THE CELL 'sum', in the pinned program and in every row, IS THE sha256 OF THE DUMP (.gsa) THAT YtnebdfpjjpbolaaProg.lean LOADS. Nothing in Lean hashes anything: it is a label: what it is worth is what the hold of that sum in a sandbox is worth. -/
noncomputable def Try.pinned : Pinned := { name := "ytnebdfpjjpbolaa", sum := "cd68245d9d0da7e942ce8cc1b0a5e2b80d34dd594ec7a5330e3c12cfd0ecf3e7", checked := Try.checked }
namespace Rows
def none {H : Type} : Left H := { results := [], args := [] }

/-- 'chantrylaw16.DagAdds': WHATEVER THE INPUT: true; the input reads as it did. -/
def dagAddsSpec : ChangeSpec := { name := "dagAdds", fn := fun _ => fun
  | [d] => { results := [.lit (.bool true)], args := [d] }
  | _ => none }
def dagAddsRow : OpenClaim := { program := "ytnebdfpjjpbolaa", sum := "cd68245d9d0da7e942ce8cc1b0a5e2b80d34dd594ec7a5330e3c12cfd0ecf3e7", func := "chantry/chantrylaw16.DagAdds", spec := "dagAdds", inPlace := ["slices.overlaps[string]", "maps.clone"], unfollowed := true, recurses := true, apart := false }
def DagAddsSaid : Prop := dagAddsRow.holds Try.pinned (OpenSpec.ofChange dagAddsSpec)

/-- ITS FALSE NEIGHBOUR: 'it returns false'. Refute it at one input. -/
def dagAddsWrong : ChangeSpec := { name := "dagAdds", fn := fun _ => fun
  | [d] => { results := [.lit (.bool false)], args := [d] }
  | _ => none }
def DagAddsWrongFalsely : Prop := dagAddsRow.holds Try.pinned (OpenSpec.ofChange dagAddsWrong)

/-- 'chantrylaw16.DagAsks': WHATEVER THE INPUT: true; the input reads as it did. -/
def dagAsksSpec : ChangeSpec := { name := "dagAsks", fn := fun _ => fun
  | [d1, d2] => { results := [.lit (.bool true)], args := [d1, d2] }
  | _ => none }
def dagAsksRow : OpenClaim := { program := "ytnebdfpjjpbolaa", sum := "cd68245d9d0da7e942ce8cc1b0a5e2b80d34dd594ec7a5330e3c12cfd0ecf3e7", func := "chantry/chantrylaw16.DagAsks", spec := "dagAsks", inPlace := ["slices.overlaps[string]", "maps.clone"], unfollowed := true, recurses := true, apart := false }
def DagAsksSaid : Prop := dagAsksRow.holds Try.pinned (OpenSpec.ofChange dagAsksSpec)

/-- ITS FALSE NEIGHBOUR: 'it returns false'. Refute it at one input. -/
def dagAsksWrong : ChangeSpec := { name := "dagAsks", fn := fun _ => fun
  | [d1, d2] => { results := [.lit (.bool false)], args := [d1, d2] }
  | _ => none }
def DagAsksWrongFalsely : Prop := dagAsksRow.holds Try.pinned (OpenSpec.ofChange dagAsksWrong)

/-- 'chantrylaw16.DagOrder': WHATEVER THE INPUT: true; the input reads as it did. -/
def dagOrderSpec : ChangeSpec := { name := "dagOrder", fn := fun _ => fun
  | [d] => { results := [.lit (.bool true)], args := [d] }
  | _ => none }
def dagOrderRow : OpenClaim := { program := "ytnebdfpjjpbolaa", sum := "cd68245d9d0da7e942ce8cc1b0a5e2b80d34dd594ec7a5330e3c12cfd0ecf3e7", func := "chantry/chantrylaw16.DagOrder", spec := "dagOrder", inPlace := ["slices.overlaps[string]", "maps.clone"], unfollowed := true, recurses := true, apart := false }
def DagOrderSaid : Prop := dagOrderRow.holds Try.pinned (OpenSpec.ofChange dagOrderSpec)

/-- ITS FALSE NEIGHBOUR: 'it returns false'. Refute it at one input. -/
def dagOrderWrong : ChangeSpec := { name := "dagOrder", fn := fun _ => fun
  | [d] => { results := [.lit (.bool false)], args := [d] }
  | _ => none }
def DagOrderWrongFalsely : Prop := dagOrderRow.holds Try.pinned (OpenSpec.ofChange dagOrderWrong)

/-- 'chantrylaw16.DagAhead': WHATEVER THE INPUT: true; the input reads as it did. -/
def dagAheadSpec : ChangeSpec := { name := "dagAhead", fn := fun _ => fun
  | [d1, d2] => { results := [.lit (.bool true)], args := [d1, d2] }
  | _ => none }
def dagAheadRow : OpenClaim := { program := "ytnebdfpjjpbolaa", sum := "cd68245d9d0da7e942ce8cc1b0a5e2b80d34dd594ec7a5330e3c12cfd0ecf3e7", func := "chantry/chantrylaw16.DagAhead", spec := "dagAhead", inPlace := ["slices.overlaps[string]", "maps.clone"], unfollowed := true, recurses := true, apart := false }
def DagAheadSaid : Prop := dagAheadRow.holds Try.pinned (OpenSpec.ofChange dagAheadSpec)

/-- ITS FALSE NEIGHBOUR: 'it returns false'. Refute it at one input. -/
def dagAheadWrong : ChangeSpec := { name := "dagAhead", fn := fun _ => fun
  | [d1, d2] => { results := [.lit (.bool false)], args := [d1, d2] }
  | _ => none }
def DagAheadWrongFalsely : Prop := dagAheadRow.holds Try.pinned (OpenSpec.ofChange dagAheadWrong)

/-- 'chantrylaw16.DagClones': WHATEVER THE INPUT: true; the input reads as it did. -/
def dagClonesSpec : ChangeSpec := { name := "dagClones", fn := fun _ => fun
  | [d1, d2, d3] => { results := [.lit (.bool true)], args := [d1, d2, d3] }
  | _ => none }
def dagClonesRow : OpenClaim := { program := "ytnebdfpjjpbolaa", sum := "cd68245d9d0da7e942ce8cc1b0a5e2b80d34dd594ec7a5330e3c12cfd0ecf3e7", func := "chantry/chantrylaw16.DagClones", spec := "dagClones", inPlace := ["slices.overlaps[string]", "maps.clone"], unfollowed := true, recurses := true, apart := false }
def DagClonesSaid : Prop := dagClonesRow.holds Try.pinned (OpenSpec.ofChange dagClonesSpec)

/-- ITS FALSE NEIGHBOUR: 'it returns false'. Refute it at one input. -/
def dagClonesWrong : ChangeSpec := { name := "dagClones", fn := fun _ => fun
  | [d1, d2, d3] => { results := [.lit (.bool false)], args := [d1, d2, d3] }
  | _ => none }
def DagClonesWrongFalsely : Prop := dagClonesRow.holds Try.pinned (OpenSpec.ofChange dagClonesWrong)

/- THE SECOND FORM. 'bulk': how many values and letters a reading holds, each counted each time it is reached (what is shared counts as often as it is met; a slice's spare places count too). A statement '..UptoSaid' is the law's where the arguments, and the package variables that the reading takes, are together of bulk at most 1048576: NARROWER than '..Said'. Prove '..Said' where nothing that the law and all that it calls make is longer than what came in: it says more and counts as full. Else prove '..UptoSaid'. A law counts once. -/
mutual
def uptoBulk {H : Type} : DataW H → Nat
  | .lit (.string bytes) => bytes.length + 1
  | .lit _ => 1
  | .nil => 1
  | .ptr d => uptoBulk d + 1
  | .slice elems spare => uptoBulkAll elems + uptoBulkAll spare + 1
  | .agg parts => uptoBulkAll parts + 1
  | .iface _ d => uptoBulk d + 1
  | .map entries => uptoBulkEntries entries + 1
  | .held _ => 1
def uptoBulkAll {H : Type} : List (DataW H) → Nat
  | [] => 0
  | d :: r => uptoBulk d + uptoBulkAll r
def uptoBulkEntries {H : Type} : List (Lit × DataW H) → Nat
  | [] => 0
  | x :: r => uptoBulkEntry x + uptoBulkEntries r
def uptoBulkEntry {H : Type} : Lit × DataW H → Nat
  | (.string bytes, d) => bytes.length + uptoBulk d + 1
  | (_, d) => uptoBulk d + 1
 end
def uptoSmall : (H : Type) → List (DataW H) → Bool := fun _ ds => decide (uptoBulkAll ds ≤ 1048576)
def OpenSpec.upto (s : _root_.Go.ChangeSpec) : _root_.Go.OpenSpec := { _root_.Go.OpenSpec.ofChange s with cond := some uptoSmall }

/-- 'chantrylaw16.DagAdds', WHERE WHAT IT READS IS OF BULK AT MOST 1048576: true; the input reads as it did. -/
def dagAddsUptoRow : OpenClaim := { program := "ytnebdfpjjpbolaa", sum := "cd68245d9d0da7e942ce8cc1b0a5e2b80d34dd594ec7a5330e3c12cfd0ecf3e7", func := "chantry/chantrylaw16.DagAdds", spec := "dagAdds", inPlace := ["slices.overlaps[string]", "maps.clone"], unfollowed := true, recurses := true, apart := false, narrowed := true }
def DagAddsUptoSaid : Prop := dagAddsUptoRow.holds Try.pinned (OpenSpec.upto dagAddsSpec)

/-- 'chantrylaw16.DagAsks', WHERE WHAT IT READS IS OF BULK AT MOST 1048576: true; the input reads as it did. -/
def dagAsksUptoRow : OpenClaim := { program := "ytnebdfpjjpbolaa", sum := "cd68245d9d0da7e942ce8cc1b0a5e2b80d34dd594ec7a5330e3c12cfd0ecf3e7", func := "chantry/chantrylaw16.DagAsks", spec := "dagAsks", inPlace := ["slices.overlaps[string]", "maps.clone"], unfollowed := true, recurses := true, apart := false, narrowed := true }
def DagAsksUptoSaid : Prop := dagAsksUptoRow.holds Try.pinned (OpenSpec.upto dagAsksSpec)

/-- 'chantrylaw16.DagOrder', WHERE WHAT IT READS IS OF BULK AT MOST 1048576: true; the input reads as it did. -/
def dagOrderUptoRow : OpenClaim := { program := "ytnebdfpjjpbolaa", sum := "cd68245d9d0da7e942ce8cc1b0a5e2b80d34dd594ec7a5330e3c12cfd0ecf3e7", func := "chantry/chantrylaw16.DagOrder", spec := "dagOrder", inPlace := ["slices.overlaps[string]", "maps.clone"], unfollowed := true, recurses := true, apart := false, narrowed := true }
def DagOrderUptoSaid : Prop := dagOrderUptoRow.holds Try.pinned (OpenSpec.upto dagOrderSpec)

/-- 'chantrylaw16.DagAhead', WHERE WHAT IT READS IS OF BULK AT MOST 1048576: true; the input reads as it did. -/
def dagAheadUptoRow : OpenClaim := { program := "ytnebdfpjjpbolaa", sum := "cd68245d9d0da7e942ce8cc1b0a5e2b80d34dd594ec7a5330e3c12cfd0ecf3e7", func := "chantry/chantrylaw16.DagAhead", spec := "dagAhead", inPlace := ["slices.overlaps[string]", "maps.clone"], unfollowed := true, recurses := true, apart := false, narrowed := true }
def DagAheadUptoSaid : Prop := dagAheadUptoRow.holds Try.pinned (OpenSpec.upto dagAheadSpec)

/-- 'chantrylaw16.DagClones', WHERE WHAT IT READS IS OF BULK AT MOST 1048576: true; the input reads as it did. -/
def dagClonesUptoRow : OpenClaim := { program := "ytnebdfpjjpbolaa", sum := "cd68245d9d0da7e942ce8cc1b0a5e2b80d34dd594ec7a5330e3c12cfd0ecf3e7", func := "chantry/chantrylaw16.DagClones", spec := "dagClones", inPlace := ["slices.overlaps[string]", "maps.clone"], unfollowed := true, recurses := true, apart := false, narrowed := true }
def DagClonesUptoSaid : Prop := dagClonesUptoRow.holds Try.pinned (OpenSpec.upto dagClonesSpec)

end Rows
end Go.Proofs.Ytnebdfpjjpbolaa
