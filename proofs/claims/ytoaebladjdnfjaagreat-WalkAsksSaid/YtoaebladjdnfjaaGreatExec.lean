import Derived.Test.YtoaebladjdnfjaaGreatPast
set_option linter.unusedSimpArgs false
set_option linter.unusedVariables false
/-
  What is past, and ahead, as functions that can be run.
-/
namespace Go.Proofs.YtoaebladjdnfjaaGreat

def pastS (g : G) (l : List BS) : List Nd := g.foldr (fun n acc => if n.id ∈ l ∨ ∃ m ∈ acc, n.id ∈ m.preds then n :: acc else acc) []
def pastL (g : G) (l : List BS) : List BS := ofL ((pastS g l).map (·.id))
def aheadB (g : G) (a b : BS) : Bool := decide (a ≠ b ∧ a ∈ ids g ∧ b ∈ ids g ∧ a ∈ pastL g [b])

theorem pastS_cons (n : Nd) (s : G) (l : List BS) : pastS (n :: s) l = if n.id ∈ l ∨ ∃ m ∈ pastS s l, n.id ∈ m.preds then n :: pastS s l else pastS s l := rfl
theorem pastS_sound {g : G} (hw : Wf g) (l : List BS) : ∀ (s p : G), g = p ++ s → ∀ n ∈ pastS s l, n ∈ s ∧ ∃ y ∈ l, y ∈ ids g ∧ Reach g y n.id
  | [], p, _, n, hn => by simp [pastS] at hn
  | x :: s, p, hg, n, hn => by
    have ih := pastS_sound hw l s (p ++ [x]) (by rw [hg]; simp)
    have hx : g[p.length]? = some x := by rw [hg]; simp
    have hxi : x.id ∈ ids g := List.mem_map.2 ⟨x, List.mem_of_getElem? hx, rfl⟩
    rw [pastS_cons] at hn
    split at hn
    · rename_i hc
      rcases List.mem_cons.1 hn with rfl | hn
      · refine ⟨List.mem_cons_self, ?_⟩
        rcases hc with hc | ⟨m, hm, hc⟩
        · exact ⟨_, hc, hxi, .refl _⟩
        · obtain ⟨hms, y, hy, hyi, hr⟩ := ih m hm
          obtain ⟨j, hj⟩ := List.mem_iff_getElem?.1 (show m ∈ g by rw [hg]; simp [hms])
          exact ⟨y, hy, hyi, hr.snoc (by rw [preds_at hw hj]; exact hc)⟩
      · exact ⟨List.mem_cons_of_mem _ (ih n hn).1, (ih n hn).2⟩
    · exact ⟨List.mem_cons_of_mem _ (ih n hn).1, (ih n hn).2⟩
theorem pastS_full {g : G} (hw : Wf g) (l : List BS) : ∀ (s p : G), g = p ++ s → ∀ n ∈ s, (∃ y ∈ l, y ∈ ids g ∧ Reach g y n.id) → n ∈ pastS s l
  | [], p, _, n, hn, _ => by simp at hn
  | x :: s, p, hg, n, hn, hp => by
    have ih := pastS_full hw l s (p ++ [x]) (by rw [hg]; simp)
    have hx : g[p.length]? = some x := by rw [hg]; simp
    rw [pastS_cons]
    rcases List.mem_cons.1 hn with rfl | hn
    · rw [if_pos]
      · exact List.mem_cons_self
      · obtain ⟨y, hy, hyi, hr⟩ := hp
        rcases hr.last with e | ⟨z, hz, hpz⟩
        · exact .inl (by rw [e]; exact hy)
        · obtain ⟨k, m, hk, hmz, hpm, hin⟩ := mem_preds hw hpz
          obtain ⟨j, n', hjk, hj, he⟩ := mem_ids_take_iff.1 hin
          have hjp : j = p.length := at_uniq hw hj hx he
          have hms : m ∈ s := by
            rw [hg, List.getElem?_append_right (by omega)] at hk
            obtain ⟨q, hq⟩ : ∃ q, k - p.length = q + 1 := ⟨k - p.length - 1, by omega⟩
            rw [hq, List.getElem?_cons_succ] at hk
            exact List.mem_of_getElem? hk
          exact .inr ⟨m, ih m hms ⟨y, hy, hyi, by rw [hmz]; exact hz⟩, hpm⟩
    · have := ih n hn hp
      split
      · exact List.mem_cons_of_mem _ this
      · exact this
theorem isPast_pastL {g : G} (hw : Wf g) (l : List BS) : IsPast g l (pastL g l) := by
  refine ⟨rising_ofL _, fun x => ?_⟩
  unfold pastL
  rw [mem_ofL]
  constructor
  · rintro ⟨h, _⟩
    obtain ⟨n, hn, rfl⟩ := List.mem_map.1 h
    exact (pastS_sound hw l g [] rfl n hn).2
  · intro hp
    obtain ⟨y, hy, hyi, hr⟩ := hp
    have hx := reach_in hw hr hyi
    obtain ⟨n, hn, rfl⟩ := List.mem_map.1 hx
    exact ⟨List.mem_map.2 ⟨n, pastS_full hw l g [] rfl n hn ⟨y, hy, hyi, hr⟩, rfl⟩, hw.right hx⟩
theorem past_eq {g : G} (hw : Wf g) {l out : List BS} (h : IsPast g l out) : out = pastL g l := isPast_ext h (isPast_pastL hw l)
theorem aheadB_iff {g : G} (hw : Wf g) (a b : BS) : aheadB g a b = true ↔ Ahead g a b := by
  unfold aheadB
  rw [decide_eq_true_eq, ahead_iff (isPast_pastL hw [b])]
theorem says_ahead {g : G} (hw : Wf g) {a b : BS} {e : Ending} (h : Says (Ahead g a b) e) : e = .returned (.bool (aheadB g a b)) := by
  obtain ⟨r, rfl, hr⟩ := h
  have : r = aheadB g a b := by rw [Bool.eq_iff_iff, hr, aheadB_iff hw]
  rw [this]
end Go.Proofs.YtoaebladjdnfjaaGreat
