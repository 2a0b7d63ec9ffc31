import Derived.Test.YtoaebladjdnfjaaGreatAwakePure
import Derived.Test.YtoaebladjdnfjaaGreatCtr
set_option linter.unusedSimpArgs false
set_option linter.unusedVariables false
/-
  The law's awake.
-/
namespace Go.Proofs.YtoaebladjdnfjaaGreat
open Go.RowKit

theorem idA (w : World) : Calls Tryz.prog 31 #[.int .u8 1] w fun e w' => e = .returned (.string kA) ∧ Fr [] w w' := id33 1 w
theorem idB (w : World) : Calls Tryz.prog 31 #[.int .u8 2] w fun e w' => e = .returned (.string kB) ∧ Fr [] w w' := id33 2 w
theorem idC (w : World) : Calls Tryz.prog 31 #[.int .u8 3] w fun e w' => e = .returned (.string kC) ∧ Fr [] w w' := id33 3 w
theorem idD (w : World) : Calls Tryz.prog 31 #[.int .u8 4] w fun e w' => e = .returned (.string kD) ∧ Fr [] w w' := id33 4 w
theorem idE (w : World) : Calls Tryz.prog 31 #[.int .u8 5] w fun e w' => e = .returned (.string kE) ∧ Fr [] w w' := id33 5 w

section
variable {w : World} {v : Value} {mN mH : Nat}
theorem pastK {u : Value} (hd : DagAt w v mN mH g3) (hu : Strs w u [kB]) : Calls Tryz.prog 23 #[v, u] w fun e w' => ∃ u, e = .returned u ∧ Strs w' u [kA, kB] ∧ Fr [] w w' := c2 ▸ pastD v u [kB] g3 w hd.r w3g hu (by decide)
theorem orderK (hd : DagAt w v mN mH g3) : Calls Tryz.prog 27 #[v] w fun e w' => ∃ u, e = .returned u ∧ Strs w' u [kA, kB, kC] ∧ Fr [] w w' := c3 ▸ orderD v g3 w hd.r w3g (by decide)
theorem depthK (hd : DagAt w v mN mH g3) : Calls Tryz.prog 59 #[v, .string kC] w fun e w' => e = .returned (.int .i64 2) ∧ Fr [] w w' := by
  have := depthD v kC g3 w hd.r
  rwa [c4] at this
theorem aheadAB (hd : DagAt w v mN mH g3) : Calls Tryz.prog 26 #[v, .string kA, .string kB] w fun e w' => e = .returned (.bool true) ∧ Fr [] w w' := c5 ▸ aheadD v kA kB g3 w hd.r w3g (by decide)
theorem aheadBC (hd : DagAt w v mN mH g3) : Calls Tryz.prog 26 #[v, .string kB, .string kC] w fun e w' => e = .returned (.bool false) ∧ Fr [] w w' := c6 ▸ aheadD v kB kC g3 w hd.r w3g (by decide)
theorem aheadAA (hd : DagAt w v mN mH g3) : Calls Tryz.prog 26 #[v, .string kA, .string kA] w fun e w' => e = .returned (.bool false) ∧ Fr [] w w' := c7 ▸ aheadD v kA kA g3 w hd.r w3g (by decide)
theorem lenK3 (hd : DagAt w v mN mH g3) : Calls Tryz.prog 89 #[v] w fun e w' => e = .returned (.int .i64 3) ∧ w = w' := len30 v g3 w hd.r
theorem lenK4 (hd : DagAt w v mN mH g4) : Calls Tryz.prog 89 #[v] w fun e w' => e = .returned (.int .i64 4) ∧ w = w' := len30 v g4 w hd.r
theorem predsK (hd : DagAt w v mN mH g4) : Calls Tryz.prog 45 #[v, .string kD] w fun e w' => ∃ u, e = .returned u ∧ Strs w' u [kB, kC] ∧ Fr [] w w' := c8 ▸ predsD v kD g4 w hd.r w4g (by decide)
theorem kidsK (hd : DagAt w v mN mH g3) : Calls Tryz.prog 81 #[v, .string kA] w fun e w' => ∃ u, e = .returned u ∧ Strs w' u [kB, kC] ∧ Fr [] w w' := c9 ▸ kidsD v kA g3 w hd.r w3g (by decide)
theorem hasK (hd : DagAt w v mN mH g3) : Calls Tryz.prog 41 #[v, .string kA] w fun e w' => e = .returned (.bool true) ∧ Fr [] w w' := by
  have := has18 v kA g3 w hd.r
  rwa [c10] at this
end

end Go.Proofs.YtoaebladjdnfjaaGreat
