import Derived.Test.YtoaebladjdnfjaaGreatLAsks
set_option linter.unusedSimpArgs false
set_option linter.unusedVariables false
/-
  The law DagOrder, walked.
-/
namespace Go.Proofs.YtoaebladjdnfjaaGreat
open Go.RowKit

theorem ord_ahead {g : G} (hw : Wf g) {i : Nat} {x p : BS} (hx : (ordL g g.length)[i]? = some x) (hp : p ∈ preds g x) : p ∈ (ordL g g.length).take i := by
  obtain ⟨h1, h2⟩ := isOrder_ordL hw
  have hpo : p ∈ ordL g g.length := (h2 p).2 (preds_in hw hp)
  obtain ⟨j, hj⟩ := List.mem_iff_getElem?.1 hpo
  have hd := depth_pred hw hp
  rw [List.pairwise_iff_getElem] at h1
  obtain ⟨hi', hxi⟩ := List.getElem?_eq_some_iff.1 hx
  obtain ⟨hj', hpj⟩ := List.getElem?_eq_some_iff.1 hj
  rcases Nat.lt_trichotomy i j with h | h | h
  · have := h1 i j hi' hj' h
    rw [hxi, hpj] at this
    rcases this with h | h <;> omega
  · subst h
    have : x = p := hxi.symm.trans hpj
    subst this; omega
  · exact List.mem_of_getElem? (i := j) (by rw [List.getElem?_take_of_lt h]; exact hj)
theorem ord_once {g : G} (hw : Wf g) {i : Nat} {x : BS} (hx : (ordL g g.length)[i]? = some x) : x ∉ (ordL g g.length).take i := by
  obtain ⟨h1, h2⟩ := isOrder_ordL hw
  intro h
  obtain ⟨j, hj⟩ := List.mem_iff_getElem?.1 h
  have hji : j < i := by have := lt_of_getElem? hj; simp at this; omega
  rw [List.getElem?_take_of_lt hji] at hj
  rw [List.pairwise_iff_getElem] at h1
  obtain ⟨hi', hxi⟩ := List.getElem?_eq_some_iff.1 hx
  obtain ⟨hj', hpj⟩ := List.getElem?_eq_some_iff.1 hj
  have := h1 j i hj' hi' hji
  rw [hxi, hpj] at this
  rcases this with h | h
  · omega
  · exact blt_irrefl _ h.2
theorem ord_in {g : G} (hw : Wf g) {i : Nat} {x : BS} (hx : (ordL g g.length)[i]? = some x) : x ∈ ids g := ((isOrder_ordL hw).2 x).1 (List.mem_of_getElem? hx)
theorem hasT {v : Value} {xs : List BS} {id : BS} {w : World} (hs : Strs w v xs) (h : id ∈ xs) :
    Calls Tryz.prog 28 #[v, .string id] w fun e w' => e = .returned (.bool true) ∧ w = w' := by
  have := has04 v xs id w hs
  rwa [decide_eq_true h] at this
theorem hasF {v : Value} {xs : List BS} {id : BS} {w : World} (hs : Strs w v xs) (h : id ∉ xs) :
    Calls Tryz.prog 28 #[v, .string id] w fun e w' => e = .returned (.bool false) ∧ w = w' := by
  have := has04 v xs id w hs
  rwa [decide_eq_false h] at this
theorem hasDT {v : Value} {x : BS} {g : G} {w : World} (hd : DagR w v g) (h : x ∈ ids g) :
    Calls Tryz.prog 41 #[v, .string x] w fun e w' => e = .returned (.bool true) ∧ Fr [] w w' := by
  have := has18 v x g w hd
  rwa [decide_eq_true h] at this

end Go.Proofs.YtoaebladjdnfjaaGreat
