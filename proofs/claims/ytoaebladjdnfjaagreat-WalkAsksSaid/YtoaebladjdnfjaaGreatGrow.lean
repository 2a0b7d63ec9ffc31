import Derived.Test.YtoaebladjdnfjaaGreatPast
import Derived.Test.YtoaebladjdnfjaaGreatAdd16
set_option linter.unusedSimpArgs false
set_option linter.unusedVariables false
/-
  A graph and one more node: plain.
-/
namespace Go.Proofs.YtoaebladjdnfjaaGreat

theorem ids_app (g : G) (n : Nd) : ids (g ++ [n]) = ids g ++ [n.id] := by simp [ids]
/-- What Add takes. -/
structure Takes (g : G) (id : BS) (ps : List BS) : Prop where
  right : id.size = 32
  rising : Rising ps
  new : id ∉ ids g
  inn : ∀ p ∈ ps, p ∈ ids g
  few : g.length < 4096
theorem takes_of {g : G} {id : BS} {ps : List BS} (h : addE g id ps = 0) : Takes g id ps := by
  unfold addE at h
  split at h
  · cases h
  · rename_i h1
    split at h
    · cases h
    · rename_i h2
      split at h
      · cases h
      · rename_i h3
        split at h
        · cases h
        · rename_i h4
          have h1 : id.size = 32 ∧ Rising ps := by simpa using h1
          exact ⟨h1.1, h1.2, h2, fun p hp => Decidable.byContradiction fun hn => h3 ⟨p, hp, hn⟩, by omega⟩

section
variable {g : G} {id : BS} {ps : List BS}
theorem Takes.wf (h : Takes g id ps) (hw : Wf g) : Wf (g ++ [⟨id, ps⟩]) := by
  intro i n hi
  rcases Nat.lt_or_ge i g.length with hl | hl
  · rw [List.getElem?_append_left hl] at hi
    rw [List.take_append_of_le_length (Nat.le_of_lt hl)]
    exact hw i n hi
  · have hi' : i = g.length := by have := lt_of_getElem? hi; simp at this; omega
    subst hi'
    rw [List.getElem?_append_right (Nat.le_refl _)] at hi
    simp at hi; subst hi
    rw [List.take_append_of_le_length (Nat.le_refl _), List.take_length]
    exact ⟨h.right, h.rising, h.new, h.inn⟩
theorem wf_addG (hw : Wf g) : Wf (addG g id ps) := by
  unfold addG
  split
  · rename_i h; exact (takes_of h).wf hw
  · exact hw
theorem Takes.preds_new (h : Takes g id ps) : preds (g ++ [⟨id, ps⟩]) id = ps := by
  have hn := h.new
  unfold preds
  have : g.find? (fun n => decide (n.id = id)) = none := by
    rw [List.find?_eq_none]
    intro n hm
    simp only [decide_eq_true_eq]
    exact fun e => hn (List.mem_map.2 ⟨n, hm, e⟩)
  simp [List.find?_append, this]
theorem Takes.preds_old (x : BS) (hx : x ≠ id) : preds (g ++ [⟨id, ps⟩]) x = preds g x := by
  unfold preds
  rw [List.find?_append]
  have : ([⟨id, ps⟩] : List Nd).find? (fun n => decide (n.id = x)) = none := by simp; exact fun e => hx e.symm
  rw [this, Option.or_none]
theorem Takes.kidsE (h : Takes g id ps) (x : BS) : kids (g ++ [⟨id, ps⟩]) x = if x ∈ ps then withL (kids g x) id else kids g x := by
  unfold kids
  rw [List.filter_append, List.map_append]
  by_cases hx : x ∈ ps
  · rw [if_pos hx]
    simp only [List.filter_cons, hx, decide_true, if_true, List.filter_nil, List.map_cons, List.map_nil]
    exact ofL_snoc h.right
  · rw [if_neg hx]
    simp [List.filter_cons, hx]
theorem mem_kids (hw : Wf g) {x y : BS} : y ∈ kids g x ↔ ∃ n ∈ g, n.id = y ∧ x ∈ n.preds := by
  unfold kids
  rw [mem_ofL]
  simp only [List.mem_map, List.mem_filter, decide_eq_true_eq]
  constructor
  · rintro ⟨⟨n, ⟨h1, h2⟩, h3⟩, _⟩; exact ⟨n, h1, h3, h2⟩
  · rintro ⟨n, h1, h3, h2⟩
    obtain ⟨i, hi⟩ := List.mem_iff_getElem?.1 h1
    exact ⟨⟨n, ⟨h1, h2⟩, h3⟩, h3 ▸ (hw i n hi).1⟩
theorem kids_none (hw : Wf g) {x : BS} (hx : x ∉ ids g) : kids g x = [] := by
  rw [List.eq_nil_iff_forall_not_mem]
  intro y hy
  obtain ⟨n, hn, _, hp⟩ := (mem_kids hw).1 hy
  obtain ⟨i, hi⟩ := List.mem_iff_getElem?.1 hn
  have := (hw i n hi).2.2.2 x hp
  rw [ids_take] at this
  exact hx (List.mem_of_mem_take this)
theorem sorted_kids (x : BS) : (kids g x).Pairwise BLt := sorted_ofL _
theorem length_kids (x : BS) : (kids g x).length ≤ g.length := by
  unfold kids
  have h1 := length_ofL ((g.filter fun n => decide (x ∈ n.preds)).map (·.id))
  have h2 := List.length_filter_le (fun n : Nd => decide (x ∈ n.preds)) g
  simp only [List.length_map] at h1
  omega
theorem Takes.depth_new (h : Takes g id ps) : depth (g ++ [⟨id, ps⟩]) id = maxD (deps g) ps + 1 := by
  unfold depth
  rw [deps_snoc]
  refine lookD_at (i := g.length) ?_ ?_
  · rw [List.getElem?_append_right (by rw [length_deps]; exact Nat.le_refl _), length_deps, Nat.sub_self]; rfl
  · rw [List.map_append, fst_deps, List.take_append_of_le_length (by rw [length_ids]; exact Nat.le_refl _)]
    exact fun hm => h.new (List.mem_of_mem_take hm)
theorem Takes.depth_old (h : Takes g id ps) (x : BS) (hx : x ≠ id) : depth (g ++ [⟨id, ps⟩]) x = depth g x := by
  by_cases hm : x ∈ ids g
  · unfold depth
    rw [deps_snoc]
    exact lookD_append (by rw [fst_deps]; exact hm)
  · rw [depth_no hm, depth_no]
    rw [ids_app]
    simp [hm, hx]
theorem mem_heads (hw : Wf g) (x : BS) : x ∈ heads g ↔ x ∈ ids g ∧ kids g x = [] := by
  unfold heads
  rw [mem_ofL]
  simp only [List.mem_filter, decide_eq_true_eq]
  exact ⟨fun h => h.1, fun h => ⟨h, hw.right h.1⟩⟩
theorem withL_ne (l : List BS) (x : BS) : withL l x ≠ [] := fun e => by
  have := (mem_withL l x x).2 (.inl rfl)
  rw [e] at this; cases this
theorem Takes.headsE (h : Takes g id ps) (hw : Wf g) (x : BS) : x ∈ heads (g ++ [⟨id, ps⟩]) ↔ x = id ∨ (x ∈ heads g ∧ x ∉ ps) := by
  rw [mem_heads (h.wf hw), mem_heads hw, h.kidsE, ids_app]
  have hid : id ∉ ps := fun hp => h.new (h.inn id hp)
  by_cases hx : x = id
  · subst hx
    simp [hid, kids_none hw h.new]
  · by_cases hp : x ∈ ps
    · simp [hp, hx, withL_ne]
    · simp [hp, hx]
end
end Go.Proofs.YtoaebladjdnfjaaGreat
