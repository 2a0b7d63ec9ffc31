import Derived.Test.YtoaebladjdnfjaaGreatMake
import Derived.Test.YtoaebladjdnfjaaGreatExec
import Derived.KernelRfl
set_option linter.unusedSimpArgs false
set_option linter.unusedVariables false
/-
  Chapter 16's example, plain: what the graph of the law's awake is.
-/
namespace Go.Proofs.YtoaebladjdnfjaaGreat
open Go.RowKit

def kA : BS := idOf 1
def kB : BS := idOf 2
def kC : BS := idOf 3
def kD : BS := idOf 4
def kE : BS := idOf 5
def g1 : G := [⟨kA, []⟩]
def g2 : G := [⟨kA, []⟩, ⟨kC, [kA]⟩]
def g3 : G := [⟨kA, []⟩, ⟨kC, [kA]⟩, ⟨kB, [kA]⟩]
def g4 : G := [⟨kA, []⟩, ⟨kC, [kA]⟩, ⟨kB, [kA]⟩, ⟨kD, [kB, kC]⟩]
abbrev kX : BS := ⟨#[120]⟩
theorem a1 : addE [] kA [] = 0 := by decide +kernel
theorem b1 : addG [] kA [] = g1 := addG_ok a1
theorem a2 : addE g1 kC [kA] = 0 := by decide +kernel
theorem b2 : addG g1 kC [kA] = g2 := addG_ok a2
theorem a3 : addE g2 kB [kA] = 0 := by decide +kernel
theorem b3 : addG g2 kB [kA] = g3 := addG_ok a3
theorem a4 : addE g3 kB [] = 7 := by decide +kernel
theorem b4 : addG g3 kB [] = g3 := addG_no (by rw [a4]; decide)
theorem a5 : addE g3 kD [kE] = 14 := by decide +kernel
theorem b5 : addG g3 kD [kE] = g3 := addG_no (by rw [a5]; decide)
theorem a6 : addE g3 kX [] = 1 := by decide +kernel
theorem b6 : addG g3 kX [] = g3 := addG_no (by rw [a6]; decide)
theorem a7 : addE g3 kD [kB, kC] = 0 := by decide +kernel
theorem b7 : addG g3 kD [kB, kC] = g4 := addG_ok a7
theorem w0 : Wf [] := fun i n h => by simp at h
theorem w1g : Wf g1 := b1 ▸ wf_addG w0
theorem w2g : Wf g2 := b2 ▸ wf_addG w1g
theorem w3g : Wf g3 := b3 ▸ wf_addG w2g
theorem w4g : Wf g4 := b7 ▸ wf_addG w3g
theorem c1 : heads g3 = [kB, kC] := by decide +kernel
theorem c2 : pastL g3 [kB] = [kA, kB] := by decide +kernel
theorem c3 : ordL g3 g3.length = [kA, kB, kC] := by decide +kernel
theorem c4 : depth g3 kC = 2 := by decide +kernel
theorem c5 : aheadB g3 kA kB = true := by decide +kernel
theorem c6 : aheadB g3 kB kC = false := by decide +kernel
theorem c7 : aheadB g3 kA kA = false := by decide +kernel
theorem c8 : preds g4 kD = [kB, kC] := by decide +kernel
theorem c9 : kids g3 kA = [kB, kC] := by decide +kernel
theorem c10 : decide (kA ∈ ids g3) = true := by decide +kernel
#print axioms c3
end Go.Proofs.YtoaebladjdnfjaaGreat
