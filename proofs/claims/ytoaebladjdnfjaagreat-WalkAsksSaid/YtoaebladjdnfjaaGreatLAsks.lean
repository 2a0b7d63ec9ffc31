import Derived.Test.YtoaebladjdnfjaaGreatLAdds
set_option linter.unusedSimpArgs false
set_option linter.unusedVariables false
/-
  The law DagAsks, walked.
-/
namespace Go.Proofs.YtoaebladjdnfjaaGreat
open Go.RowKit

theorem nodes_new (w : World) (pv : Value) (ps : List BS) (hp : Strs w pv ps) : Nodes (w.alloc (.cells #[.string ⟨#[]⟩, pv] 50)) (.slice (some ⟨w.heap.size, 0, none⟩) 1 1) [⟨⟨#[]⟩, ps⟩] :=
  ⟨_, Sl.new w #[.string ⟨#[]⟩, pv] 50 2 1 rfl (by omega), fun i n h => by
    cases i with
    | zero => simp at h; subst h; exact ⟨pv, rfl, rfl, hp.fr ((Fr.refl w).alloc _)⟩
    | succ i => simp at h⟩
abbrev FewA (l : List BS) : Prop := Few [⟨⟨#[]⟩, l⟩]
theorem len_makeF {L : List Nd} (h : Few L) : (makeG L).length ≤ 30 := Nat.le_trans (len_makeG L) h.1

end Go.Proofs.YtoaebladjdnfjaaGreat
