import Derived.Test.YtoaebladjdnfjaaGreatAwake
import Derived.Test.YtoaebladjdnfjaaGreatAlike
set_option linter.unusedSimpArgs false
set_option linter.unusedVariables false
/-
  The law DagAdds, walked.
-/
namespace Go.Proofs.YtoaebladjdnfjaaGreat
open Go.RowKit

theorem few_take {L : List Nd} (h : Few L) (k : Nat) : (makeG (L.take k)).length ≤ 30 := by
  have := len_makeG (L.take k); have := h.1; simp at this ⊢; simp at *; omega

theorem fewT {v : Value} {L : List Nd} {w : World} (hs : Nodes w v L) (h : Few L) : Calls Tryz.prog 29 #[v] w fun e w' => e = .returned (.bool true) ∧ w = w' := by
  have := few9 v L w hs
  rwa [decide_eq_true h] at this
theorem fewF {v : Value} {L : List Nd} {w : World} (hs : Nodes w v L) (h : ¬ Few L) : Calls Tryz.prog 29 #[v] w fun e w' => e = .returned (.bool false) ∧ w = w' := by
  have := few9 v L w hs
  rwa [decide_eq_false h] at this
theorem len_takes {L : List Nd} {n k : Nat} (hn : n = L.length) (h : n ≤ 30) : (makeG (L.take k)).length ≤ 4096 := by
  have := len_makeG (L.take k); simp at this; omega

end Go.Proofs.YtoaebladjdnfjaaGreat
