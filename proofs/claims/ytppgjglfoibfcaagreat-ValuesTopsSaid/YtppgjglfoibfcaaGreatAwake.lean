import Derived.Test.YtppgjglfoibfcaaGreatMake
import Derived.Test.YtppgjglfoibfcaaGreatCtr
import Derived.KernelRfl
set_option linter.unusedSimpArgs false
set_option linter.unusedVariables false
/-
  Chapter 16's example, plain: what the graph of the law's awake is.
-/
namespace Go.Proofs.YtppgjglfoibfcaaGreat
open Go.RowKit

def kA : BS := idOf 1
def kB : BS := idOf 2
def kC : BS := idOf 3
def kD : BS := idOf 4
def kE : BS := idOf 5
def g1 : G := [⟨kA, []⟩]
def g2 : G := [⟨kA, []⟩, ⟨kC, [kA]⟩]
def g3 : G := [⟨kA, []⟩, ⟨kC, [kA]⟩, ⟨kB, [kA]⟩]
def g4 : G := [⟨kA, []⟩, ⟨kC, [kA]⟩, ⟨kB, [kA]⟩, ⟨kD, [kB, kC]⟩]
abbrev kX : BS := ⟨#[120]⟩
theorem a1 : addE [] kA [] = 0 := by decide +kernel
theorem b1 : addG [] kA [] = g1 := addG_ok a1
theorem a2 : addE g1 kC [kA] = 0 := by decide +kernel
theorem b2 : addG g1 kC [kA] = g2 := addG_ok a2
theorem a3 : addE g2 kB [kA] = 0 := by decide +kernel
theorem b3 : addG g2 kB [kA] = g3 := addG_ok a3
theorem a4 : addE g3 kB [] = 7 := by decide +kernel
theorem b4 : addG g3 kB [] = g3 := addG_no (by rw [a4]; decide)
theorem a5 : addE g3 kD [kE] = 14 := by decide +kernel
theorem b5 : addG g3 kD [kE] = g3 := addG_no (by rw [a5]; decide)
theorem a6 : addE g3 kX [] = 1 := by decide +kernel
theorem b6 : addG g3 kX [] = g3 := addG_no (by rw [a6]; decide)
theorem a7 : addE g3 kD [kB, kC] = 0 := by decide +kernel
theorem b7 : addG g3 kD [kB, kC] = g4 := addG_ok a7
theorem w0 : Wf [] := fun i n h => by simp at h
theorem w1g : Wf g1 := b1 ▸ wf_addG w0
theorem w2g : Wf g2 := b2 ▸ wf_addG w1g
theorem w3g : Wf g3 := b3 ▸ wf_addG w2g
theorem w4g : Wf g4 := b7 ▸ wf_addG w3g
theorem c1 : heads g3 = [kB, kC] := by decide +kernel
theorem c2 : pastL g3 [kB] = [kA, kB] := by decide +kernel
theorem c3 : ordL g3 g3.length = [kA, kB, kC] := by decide +kernel
theorem c4 : depth g3 kC = 2 := by decide +kernel
theorem c5 : aheadB g3 kA kB = true := by decide +kernel
theorem c6 : aheadB g3 kB kC = false := by decide +kernel
theorem c7 : aheadB g3 kA kA = false := by decide +kernel
theorem c8 : preds g4 kD = [kB, kC] := by decide +kernel
theorem c9 : kids g3 kA = [kB, kC] := by decide +kernel
theorem c10 : decide (kA ∈ ids g3) = true := by decide +kernel
#print axioms c3
end Go.Proofs.YtppgjglfoibfcaaGreat

set_option linter.unusedSimpArgs false
set_option linter.unusedVariables false
/-
  The law's awake.
-/
namespace Go.Proofs.YtppgjglfoibfcaaGreat
open Go.RowKit

theorem idA (w : World) : Calls Tryz.prog 64 #[.int .u8 1] w fun e w' => e = .returned (.string kA) ∧ Fr [] w w' := id33 1 w
theorem idB (w : World) : Calls Tryz.prog 64 #[.int .u8 2] w fun e w' => e = .returned (.string kB) ∧ Fr [] w w' := id33 2 w
theorem idC (w : World) : Calls Tryz.prog 64 #[.int .u8 3] w fun e w' => e = .returned (.string kC) ∧ Fr [] w w' := id33 3 w
theorem idD (w : World) : Calls Tryz.prog 64 #[.int .u8 4] w fun e w' => e = .returned (.string kD) ∧ Fr [] w w' := id33 4 w
theorem idE (w : World) : Calls Tryz.prog 64 #[.int .u8 5] w fun e w' => e = .returned (.string kE) ∧ Fr [] w w' := id33 5 w

section
variable {w : World} {v : Value} {mN mH : Nat}
theorem headsK (hd : DagAt w v mN mH g3) : Calls Tryz.prog 62 #[v] w fun e w' => ∃ u, e = .returned u ∧ Strs w' u [kB, kC] ∧ Fr [] w w' := c1 ▸ heads34 v g3 w hd.r w3g (by decide)
theorem pastK {u : Value} (hd : DagAt w v mN mH g3) (hu : Strs w u [kB]) : Calls Tryz.prog 144 #[v, u] w fun e w' => ∃ u, e = .returned u ∧ Strs w' u [kA, kB] ∧ Fr [] w w' := c2 ▸ pastD v u [kB] g3 w hd.r w3g hu (by decide)
theorem orderK (hd : DagAt w v mN mH g3) : Calls Tryz.prog 146 #[v] w fun e w' => ∃ u, e = .returned u ∧ Strs w' u [kA, kB, kC] ∧ Fr [] w w' := c3 ▸ orderD v g3 w hd.r w3g (by decide)
theorem depthK (hd : DagAt w v mN mH g3) : Calls Tryz.prog 158 #[v, .string kC] w fun e w' => e = .returned (.int .i64 2) ∧ Fr [] w w' := by
  have := depthD v kC g3 w hd.r
  rwa [c4] at this
theorem aheadAB (hd : DagAt w v mN mH g3) : Calls Tryz.prog 72 #[v, .string kA, .string kB] w fun e w' => e = .returned (.bool true) ∧ Fr [] w w' := c5 ▸ aheadD v kA kB g3 w hd.r w3g (by decide)
theorem aheadBC (hd : DagAt w v mN mH g3) : Calls Tryz.prog 72 #[v, .string kB, .string kC] w fun e w' => e = .returned (.bool false) ∧ Fr [] w w' := c6 ▸ aheadD v kB kC g3 w hd.r w3g (by decide)
theorem aheadAA (hd : DagAt w v mN mH g3) : Calls Tryz.prog 72 #[v, .string kA, .string kA] w fun e w' => e = .returned (.bool false) ∧ Fr [] w w' := c7 ▸ aheadD v kA kA g3 w hd.r w3g (by decide)
theorem lenK3 (hd : DagAt w v mN mH g3) : Calls Tryz.prog 220 #[v] w fun e w' => e = .returned (.int .i64 3) ∧ w = w' := len30 v g3 w hd.r
theorem lenK4 (hd : DagAt w v mN mH g4) : Calls Tryz.prog 220 #[v] w fun e w' => e = .returned (.int .i64 4) ∧ w = w' := len30 v g4 w hd.r
theorem hasK (hd : DagAt w v mN mH g3) : Calls Tryz.prog 105 #[v, .string kA] w fun e w' => e = .returned (.bool true) ∧ Fr [] w w' := by
  have := has18 v kA g3 w hd.r
  rwa [c10] at this
end

end Go.Proofs.YtppgjglfoibfcaaGreat
