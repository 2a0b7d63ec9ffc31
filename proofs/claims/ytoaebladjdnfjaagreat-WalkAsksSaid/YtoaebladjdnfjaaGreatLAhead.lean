import Derived.Test.YtoaebladjdnfjaaGreatLOrder
set_option linter.unusedSimpArgs false
set_option linter.unusedVariables false
/-
  The law DagAhead, walked.
-/
namespace Go.Proofs.YtoaebladjdnfjaaGreat
open Go.RowKit

theorem ah_self (g : G) (a : BS) : aheadB g a a = false := by unfold aheadB; simp
theorem ah_depth {g : G} (hw : Wf g) {a b : BS} (h : aheadB g a b = true) : depth g a < depth g b := by
  obtain ⟨h1, h2, h3, h4⟩ := (aheadB_iff hw a b).1 h
  exact reach_depth_lt hw h4 (Ne.symm h1)
theorem ah_not {g : G} (hw : Wf g) {a b : BS} (h : aheadB g a b = true) : aheadB g b a = false := by
  cases hb : aheadB g b a with
  | false => rfl
  | true => have h1 := ah_depth hw h; have h2 := ah_depth hw hb; omega
theorem ah_trans {g : G} (hw : Wf g) {a b p : BS} (hp : p ∈ preds g b) (h : aheadB g a p = true) : aheadB g a b = true := by
  have h5 := ah_depth hw h
  have h6 := depth_pred hw hp
  obtain ⟨h1, h2, h3, h4⟩ := (aheadB_iff hw a p).1 h
  rw [aheadB_iff hw]
  refine ⟨fun e => by subst e; omega, h2, ?_, .step hp h4⟩
  obtain ⟨i, n, hi, hn, _, _⟩ := mem_preds hw hp
  exact hn ▸ List.mem_map.2 ⟨n, List.mem_of_getElem? hi, rfl⟩
theorem ah_pred {g : G} (hw : Wf g) {b p : BS} (hp : p ∈ preds g b) : aheadB g p b = true := by
  have h6 := depth_pred hw hp
  rw [aheadB_iff hw]
  refine ⟨fun e => by subst e; omega, preds_in hw hp, ?_, .step hp (.refl p)⟩
  obtain ⟨i, n, hi, hn, _, _⟩ := mem_preds hw hp
  exact hn ▸ List.mem_map.2 ⟨n, List.mem_of_getElem? hi, rfl⟩
theorem past_closed {g : G} (hw : Wf g) {l : List BS} {x p : BS} (hx : x ∈ pastL g l) (hp : p ∈ preds g x) : p ∈ pastL g l := by
  have h := (isPast_pastL hw l).2
  obtain ⟨y, hy, hyi, hr⟩ := (h x).1 hx
  exact (h p).2 ⟨y, hy, hyi, hr.snoc hp⟩
theorem past_len {g : G} (hw : Wf g) (l : List BS) : (pastL g l).length ≤ g.length := by
  rw [← length_ids]
  refine nodup_len _ _ (sorted_nodup (isPast_pastL hw l).1.2) fun x hx => ?_
  obtain ⟨y, hy, hyi, hr⟩ := ((isPast_pastL hw l).2 x).1 hx
  exact reach_in hw hr hyi
theorem aheadV {v : Value} {a b : BS} {g : G} {w : World} {r : Bool} (h : aheadB g a b = r) (hd : DagR w v g) (hw : Wf g) (hl : g.length ≤ 10000) :
    Calls Tryz.prog 26 #[v, .string a, .string b] w fun e w' => e = .returned (.bool r) ∧ Fr [] w w' := h ▸ aheadD v a b g w hd hw hl
theorem less_none {xs ys : List BS} (h : ∀ x ∈ xs, x ∈ ys) : ofL (xs.filter fun x => decide (x ∉ ys)) = [] := by
  have : xs.filter (fun x => decide (x ∉ ys)) = [] := by rw [List.filter_eq_nil_iff]; intro x hx; simp [h x hx]
  rw [this]; rfl
theorem lessE {v v2 : Value} {xs ys : List BS} {w : World} (hs : Strs w v xs) (hs2 : Strs w v2 ys) (hl : xs.length ≤ 1000000) (h : ∀ x ∈ xs, x ∈ ys) :
    Calls Tryz.prog 52 #[v, v2] w fun e w' => ∃ u, e = .returned u ∧ Strs w' u [] ∧ Fr [] w w' := by
  have := less04 v v2 xs ys w hs hs2 hl
  rwa [less_none h] at this

end Go.Proofs.YtoaebladjdnfjaaGreat
