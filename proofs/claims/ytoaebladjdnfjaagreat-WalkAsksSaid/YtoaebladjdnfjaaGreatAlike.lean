import Derived.Test.YtoaebladjdnfjaaGreatCtr
set_option linter.unusedSimpArgs false
set_option linter.unusedVariables false
/-
  The law's Alike.
-/
namespace Go.Proofs.YtoaebladjdnfjaaGreat
open Go.RowKit

theorem nodup_ids {g : G} (hw : Wf g) : (ids g).Nodup := by
  rw [List.nodup_iff_pairwise_ne, List.pairwise_iff_getElem]
  intro i j hi hj hij e
  simp only [length_ids] at hi hj
  have h2 : g[i]? = some g[i] := List.getElem?_eq_getElem hi
  have h3 : g[j]? = some g[j] := List.getElem?_eq_getElem hj
  have := at_uniq hw h2 h3 (by simpa [ids] using e)
  omega
theorem length_order {g : G} (hw : Wf g) : (ordL g g.length).length = g.length := by
  have h1 := (isOrder_ordL hw)
  have hnd : (ordL g g.length).Nodup := by
    refine h1.1.imp ?_
    intro a b h e
    subst e
    rcases h with h | h
    · omega
    · exact blt_irrefl _ h.2
  have e1 := nodup_len _ _ hnd fun y hy => (h1.2 y).1 hy
  have e2 := nodup_len _ _ (nodup_ids hw) fun y hy => (h1.2 y).2 hy
  rw [length_ids] at e1 e2
  omega

end Go.Proofs.YtoaebladjdnfjaaGreat
