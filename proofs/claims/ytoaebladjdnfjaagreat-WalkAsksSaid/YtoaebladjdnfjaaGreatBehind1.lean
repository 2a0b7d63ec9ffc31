import Derived.Test.YtoaebladjdnfjaaGreatWalkD
set_option linter.unusedSimpArgs false
set_option linter.unusedVariables false
/-
  A queue that takes whole lists; what walk.behind hands out.
-/
namespace Go.Proofs.YtoaebladjdnfjaaGreat
open Go.RowKit

theorem Kp.of_frS {S : List Nat} {w w' : World} (h : Fr S w w') : Kp S w w' := ⟨h.os, h.tape, h.output, h.size, h.block⟩

def Qu (w : World) (g : Nat) (v : Value) (xs : List BS) : Prop := (v = .slice none 0 0 ∧ xs = []) ∨ ∃ o cap cur, v = .slice (some ⟨g, o, none⟩) xs.length cap ∧ w.heap[g]? = some (.cells cur 9 (0, 0)) ∧ xs.length ≤ cap ∧ cap ≤ maxLen ∧
  (0 < cap → o + cap ≤ cur.size) ∧ ∀ (j : Nat) (x : BS), xs[j]? = some x → cur[o + j]? = some (Value.string x)

theorem Qu.kp {T : List Nat} {w w' : World} {g : Nat} {v : Value} {xs : List BS} (h : Qu w g v xs) (k : Kp T w w') (hg : g ∉ T) : Qu w' g v xs := by
  rcases h with h | ⟨o, cap, cur, e, h2, r⟩
  · exact .inl h
  · exact .inr ⟨o, cap, cur, e, k.row h2 hg, r⟩
theorem Qu.fr {S : List Nat} {w w' : World} {g : Nat} {v : Value} {xs : List BS} (h : Qu w g v xs) (hf : Fr S w w') : Qu w' g v xs := by
  rcases h with h | ⟨o, cap, cur, e, h2, r⟩
  · exact .inl h
  · exact .inr ⟨o, cap, cur, e, hf.row h2, r⟩
theorem Qu.strs {w : World} {g : Nat} {v : Value} {xs : List BS} (h : Qu w g v xs) (hn : xs.length ≤ 140737488355328) : Strs w v xs := by
  rcases h with ⟨rfl, rfl⟩ | ⟨o, cap, cur, rfl, h2, h3, h4, h5, h6⟩
  · exact ⟨by simp, by simp, none, 0, rfl, by simp, by decide, fun _ => rfl, fun h => by simp at h⟩
  · refine ⟨by simp, hn, _, cap, rfl, h3, h4, fun e => (by cases e), fun _ => ⟨g, o, rfl, fun j x hx => ?_⟩⟩
    rw [List.getElem?_map, Option.map_eq_some_iff] at hx
    obtain ⟨y, hy, rfl⟩ := hx
    simp [World.cell?, h2, h6 j y hy]
theorem Qu.of_own {w : World} {base : Nat} {v : Value} {xs : List BS} (h : w.ownsRow base 9 1 v xs.length (xs.map .string)) (b : Nat) (hb : b < w.heap.size) : ∃ g, Qu w g v xs ∧ (base ≤ g ∨ (g = b ∧ xs = [])) ∧ g < w.heap.size := by
  rcases h.2 with ⟨rfl, h0⟩ | ⟨g, cap, cur, rfl, hb, hg, h1, h2, h3, h4⟩
  · exact ⟨b, .inl ⟨rfl, List.eq_nil_of_length_eq_zero h0⟩, .inr ⟨rfl, List.eq_nil_of_length_eq_zero h0⟩, hb⟩
  · refine ⟨g, .inr ⟨0, cap, cur, rfl, hg, h1, h2, fun _ => by omega, fun j x hx => ?_⟩, .inl hb, row_lt hg⟩
    have hj := lt_of_getElem? hx
    have e : (cur.toList.take (xs.length * 1))[j]? = some (.string x) := by rw [h4, List.getElem?_map, hx]; rfl
    rw [List.getElem?_take_of_lt (by omega), Array.getElem?_toList] at e
    rwa [Nat.zero_add]
theorem Qu.cut {P : Program} {w : World} {g : Nat} {v : Value} {x : BS} {xs : List BS} (h : Qu w g v (x :: xs)) (t : TypeId) (ht : P.underlying t = some (.slice 9)) (hs : ∀ W, (sizeOf 9).run P W = .ok 1 W) :
    ∃ v', Qu w g v' xs ∧ ∀ W, (Instr.slice t v (some (.int .i64 1)) none none).run P W = .ok v' W := by
  rcases h with ⟨_, h⟩ | ⟨o, cap, cur, rfl, h2, h3, h4, h5, h6⟩
  · cases h
  · have hq : Que w 0 (.slice (some ⟨g, o, none⟩) (x :: xs).length cap) (x :: xs) := ⟨g, o, cap, cur, rfl, Nat.zero_le _, h2, h3, h4, h5, h6⟩
    simp only [List.length_cons] at h3
    have he : P.elem t = 9 := by unfold Program.elem; rw [ht]
    have ht' : P.underlying t = some (.slice (P.elem t)) := by rw [ht, he]
    have hrun : ∀ W, (Instr.slice t (.slice (some ⟨g, o, none⟩) (xs.length + 1) cap) (some (.int .i64 1)) none none).run P W = .ok (.slice (if cap = 1 then some ⟨g, o, none⟩ else (some (⟨g, o, none⟩ : Addr)).map (·.add (1 * 1))) (xs.length + 1 - 1) (cap - 1)) W := fun W => by
      have := run_slice_l (P := P) W t (some ⟨g, o, none⟩) (xs.length + 1) cap ht' .i64 1 (by omega) (by omega)
      rw [this]
      simp [he, hs, Result.andThen, sliced]
    by_cases hc : cap = 1
    · refine ⟨_, ?_, hrun⟩
      rw [if_pos hc]
      have : xs = [] := List.eq_nil_of_length_eq_zero (by omega)
      subst this
      exact .inr ⟨o, cap - 1, cur, rfl, h2, by simp, by omega, fun h => by omega, fun j y hy => by simp at hy⟩
    · refine ⟨_, ?_, hrun⟩
      rw [if_neg hc]
      refine .inr ⟨o + 1, cap - 1, cur, by simp [Addr.add_lit], h2, by omega, by omega, fun h => by have := h5 (by omega); omega, fun j y hy => ?_⟩
      have := h6 (j + 1) y (by simpa using hy)
      rw [← this]; congr 1; omega

/-- .. and a whole list at its end. -/
theorem Qu.app {w : World} {g : Nat} {v : Value} {xs : List BS} (h : Qu w g v xs) (hg : g < w.heap.size) (u : Value) (ys : List BS) (hu : Strs w u ys) (hn : xs.length + ys.length ≤ 5000000) (ty : TypeId) :
    ∃ v' w' g', (Builtin.append_ #[23, 23] ty #[v, u]).run Tryz.prog w = .ok v' w' ∧ Qu w' g' v' (xs ++ ys) ∧ g' < w'.heap.size ∧ (g' = g ∨ w.heap.size ≤ g') ∧ Kp [g] w w' := by
  obtain ⟨i, hi, hz, hsize, hby⟩ := info_parts infoStr
  obtain ⟨_, hu2, ua, uc, rfl, hu4, hu5, hu6, hu7⟩ := hu
  by_cases hy0 : ys = []
  · subst hy0
    refine ⟨v, w, g, ?_, by simpa using h, hg, .inl rfl, .refl _ _⟩
    rcases h with ⟨rfl, rfl⟩ | ⟨o, cap, cur, rfl, h2, h3, h4, h5, h6⟩
    · cases ua <;> simp [Builtin.append_, run_underlying Tryz.underlying23, sizeOf, typeInfo, hi, hsize, Builtin.lenOf, Builtin.firstCells, loadCells, loadCellsFrom, storeCells]
    · cases ua <;> simp [Builtin.append_, run_underlying Tryz.underlying23, sizeOf, typeInfo, hi, hsize, Builtin.lenOf, Builtin.firstCells, loadCells, loadCellsFrom, storeCells, h3]
  have hyp : 0 < ys.length := List.length_pos_iff.2 hy0
  obtain ⟨ub, uo, rfl, hcell⟩ := hu7 hyp
  have hnews : ∀ j z, (ys.map Value.string)[j]? = some z → w.cell? ((⟨ub, uo, none⟩ : Addr).add j) = some z := fun j z hz => by
    rw [Addr.add_lit]; exact hcell j z hz
  rcases h with ⟨rfl, rfl⟩ | ⟨o, cap, cur, rfl, h2, h3, h4, h5, h6⟩
  · have hr := run_append_nil (P := Tryz.prog) w 23 ty 9 i (.string ⟨#[]⟩) Tryz.underlying23 hi hz ⟨ub, uo, none⟩ ys.length uc (ys.map .string) (by simp [hsize]) hnews hyp (by omega) (by rw [hby]; simp at hn; omega)
    have hge := grownCap_ge w ys.length 0 9
    refine ⟨_, _, _, hr, .inr ⟨0, _, _, by simp, (MapKept.heap_alloc w.drew _).1, by simpa using hge, grownCap_le_maxLen w ys.length 0 9 (by simp [maxLen]; simp at hn; omega), fun _ => ?_, fun j x hx => ?_⟩, by simp, .inr (Nat.le_refl _), Kp.of_grown (g := g) ⟨rfl, rfl, rfl, by simp, fun k hk _ => (MapKept.heap_alloc w.drew _).2 k hk⟩ (by simp)⟩
    · simp [size_zeroCells, Value.cells]; omega
    · rw [List.nil_append] at hx
      have hj := lt_of_getElem? hx
      rw [Nat.zero_add, Array.getElem?_append_left (by simpa using hj)]
      simp [hx]
  by_cases hroom : xs.length + ys.length ≤ cap
  · have hfit := h5 (by omega)
    have hf := run_firstCells_some (P := Tryz.prog) w 1 ys.length ⟨ub, uo, none⟩ ys.length uc (ys.map .string) (by simp) hnews
    have hst := run_storeCells_at Tryz.prog g (o + xs.length) 9 (ys.map .string) 0 cur w h2 (by simp; omega) (by simp [Value.oneCell'])
    have hr : (Builtin.append_ #[23, 23] ty #[.slice (some ⟨g, o, none⟩) xs.length cap, .slice (some ⟨ub, uo, none⟩) ys.length uc]).run Tryz.prog w = .ok (.slice (some ⟨g, o, none⟩) (xs.length + ys.length) cap) (w.setRow g (cur.toList.take (o + xs.length + 0) ++ ys.map Value.string ++ cur.toList.drop (o + xs.length + 0 + (ys.map Value.string).length)).toArray) := by
      simp [Builtin.append_, run_underlying Tryz.underlying23, sizeOf, typeInfo, hi, hsize, Builtin.lenOf, hroom, hf, Addr.add_lit]
      simp at hst
      simp [hst]
    have hsr := setRow_heap w g cur (cur.toList.take (o + xs.length + 0) ++ ys.map Value.string ++ cur.toList.drop (o + xs.length + 0 + (ys.map Value.string).length)).toArray 9 _ h2
    refine ⟨_, _, g, hr, .inr ⟨o, cap, _, by simp, hsr, by simpa using hroom, h4, fun h => by simp; omega, fun j x hx => ?_⟩, row_lt hsr, .inl rfl, Kp.of_grown (g := g) ⟨rfl, rfl, rfl, by simp, fun k _ hk => setRow_other w g k _ (fun e => hk (by rw [e]))⟩ (by simp)⟩
    have hj := lt_of_getElem? hx
    simp at hj
    rw [List.getElem?_toArray, Nat.add_zero, List.append_assoc]
    rcases Nat.lt_or_ge j xs.length with hlt | hge
    · rw [List.getElem?_append_left (by simp; omega), List.getElem?_take_of_lt (by omega), Array.getElem?_toList]
      rw [List.getElem?_append_left hlt] at hx
      exact h6 j x hx
    · rw [List.getElem?_append_right hge] at hx
      rw [List.getElem?_append_right (by simp; omega)]
      simp only [List.length_take, Array.length_toList]
      rw [Nat.min_eq_left (by omega), List.getElem?_append_left (by simp; omega), List.getElem?_map, show o + j - (o + xs.length) = j - xs.length by omega, hx]; rfl
  · have holds : ∀ j u, (xs.map Value.string)[j]? = some u → w.cell? ((⟨g, o, none⟩ : Addr).add j) = some u := fun j u hu => by
      rw [List.getElem?_map, Option.map_eq_some_iff] at hu
      obtain ⟨x, hx, rfl⟩ := hu
      rw [Addr.add_lit]
      simp [World.cell?, h2, h6 j x hx]
    have hr := run_append_grow (P := Tryz.prog) w 23 ty 9 i (.string ⟨#[]⟩) Tryz.underlying23 hi hz ⟨g, o, none⟩ xs.length cap (xs.map Value.string) (by simp [hsize]) holds ⟨ub, uo, none⟩ ys.length uc (ys.map .string) (by simp [hsize]) hnews (by omega) (by omega) (growslice_fits (by omega) (by rw [hby]; omega))
    have hge := grownCap_ge w (xs.length + ys.length) cap 9
    refine ⟨_, _, _, hr, .inr ⟨0, _, _, by simp, (MapKept.heap_alloc w.drew _).1, by simpa using hge, grownCap_le_maxLen w (xs.length + ys.length) cap 9 (by simp [maxLen]; omega), fun _ => ?_, fun j x hx => ?_⟩, by simp, .inr (Nat.le_refl _), Kp.of_grown (g := g) ⟨rfl, rfl, rfl, by simp, fun k hk _ => (MapKept.heap_alloc w.drew _).2 k hk⟩ (by simp)⟩
    · simp [size_zeroCells, Value.cells]; omega
    · have hj := lt_of_getElem? hx
      simp at hj
      rw [Nat.zero_add, Array.getElem?_append_left (by simp; omega)]
      have e : ((xs.map Value.string).toArray ++ (ys.map Value.string).toArray) = ((xs ++ ys).map Value.string).toArray := by simp
      rw [e, List.getElem?_toArray, List.getElem?_map, hx]; rfl

/-- While the iterator goes. -/
structure Sp (g : G) (l Q : List BS) (M : Ents) (pre : List BS) : Prop where
  marks : Marks M
  mem : ∀ z, z ∈ pre ↔ z ∈ keysL M
  len : pre.length = M.length
  far : ∀ z ∈ keysL M, z ∈ ids g ∧ ∃ a ∈ l, a ∈ ids g ∧ Reach g z a
  q : ∀ z ∈ Q, z ∈ l ∨ ∃ a ∈ l, a ∈ ids g ∧ Reach g z a
  done : ∀ z, (z ∈ l ∨ ∃ y ∈ keysL M, z ∈ kids g y) → z ∈ ids g → z ∈ Q ∨ z ∈ keysL M
theorem Sp.start (g : G) (l : List BS) : Sp g l l [] [] where
  marks := Marks.nil
  mem z := by simp [keysL]
  len := rfl
  far z h := by simp [keysL] at h
  q z h := .inl h
  done z h _ := by
    rcases h with h | ⟨y, hy, _⟩
    · exact .inl h
    · simp [keysL] at hy
theorem Sp.skip {g : G} {l Q pre : List BS} {x : BS} {M : Ents} (h : Sp g l (x :: Q) M pre) (hx : x ∈ keysL M ∨ x ∉ ids g) : Sp g l Q M pre where
  marks := h.marks
  mem := h.mem
  len := h.len
  far := h.far
  q z hz := h.q z (by simp [hz])
  done z hz hi := by
    rcases h.done z hz hi with h1 | h1
    · rcases List.mem_cons.1 h1 with rfl | h1
      · exact .inr (hx.resolve_right fun k => k hi)
      · exact .inl h1
    · exact .inr h1
theorem preds_kid {g : G} (hw : Wf g) {x y : BS} (h : y ∈ kids g x) : y ∈ ids g ∧ x ∈ preds g y := by
  obtain ⟨n, hn, rfl, hx⟩ := (mem_kids hw).1 h
  obtain ⟨i, hi⟩ := List.mem_iff_getElem?.1 hn
  exact ⟨List.mem_map_of_mem hn, by rw [preds_at hw hi]; exact hx⟩
theorem kid_preds {g : G} (hw : Wf g) {x y : BS} (h : x ∈ preds g y) : y ∈ kids g x := by
  obtain ⟨i, n, h1, h2, h3, _⟩ := mem_preds hw h
  exact (mem_kids hw).2 ⟨n, List.mem_of_getElem? h1, h2, h3⟩
theorem Sp.next {g : G} (hw : Wf g) {l Q pre : List BS} {x : BS} {M : Ents} (h : Sp g l (x :: Q) M pre) (hi : x ∈ ids g) (hm : x ∉ keysL M) : Sp g l (Q ++ kids g x) (up M x (.int .i64 1)) (pre ++ [x]) := by
  have hfx : ∃ a ∈ l, a ∈ ids g ∧ Reach g x a := by
    rcases h.q x (by simp) with h1 | h1
    · exact ⟨x, h1, hi, .refl x⟩
    · exact h1
  refine ⟨h.marks.up x, fun z => ?_, ?_, fun z hz => ?_, fun z hz => ?_, fun z hz hzi => ?_⟩
  · rw [keys_up, List.mem_append, List.mem_singleton, h.mem]; exact Or.comm
  · rw [len_up, if_neg hm]; simp [h.len]
  · rcases (keys_up _ _ _ _).1 hz with rfl | hz
    · exact ⟨hi, hfx⟩
    · exact h.far z hz
  · rcases List.mem_append.1 hz with hz | hz
    · exact h.q z (by simp [hz])
    · obtain ⟨a, h1, h2, h3⟩ := hfx
      exact .inr ⟨a, h1, h2, .step (preds_kid hw hz).2 h3⟩
  · by_cases hzx : z = x
    · exact .inr ((keys_up _ _ _ _).2 (.inl hzx))
    · have key : (z ∈ l ∨ ∃ y ∈ keysL M, z ∈ kids g y) → z ∈ Q ++ kids g x ∨ z ∈ keysL (up M x (.int .i64 1)) := fun k => by
        rcases h.done z k hzi with h1 | h1
        · exact .inl (List.mem_append_left _ ((List.mem_cons.1 h1).resolve_left hzx))
        · exact .inr ((keys_up _ _ _ _).2 (.inr h1))
      rcases hz with hz | ⟨y, hy, hzy⟩
      · exact key (.inl hz)
      · rcases (keys_up _ _ _ _).1 hy with rfl | hy
        · exact .inl (List.mem_append_right _ hzy)
        · exact key (.inr ⟨y, hy, hzy⟩)
theorem Sp.fits {g : G} {l Q pre : List BS} {M : Ents} (h : Sp g l Q M pre) (hn : (keysL M).Nodup) : M.length ≤ g.length := by
  have := nodup_len (keysL M) (ids g) hn (fun z hz => (h.far z hz).1)
  rw [length_ids] at this
  simpa [keysL] using this
theorem Sp.more {g : G} {l Q pre : List BS} {M : Ents} {x : BS} (h : Sp g l Q M pre) (hn : (keysL M).Nodup) (hm : x ∉ keysL M) (hi : x ∈ ids g) : M.length + 1 ≤ g.length := by
  have := nodup_len (x :: keysL M) (ids g) (List.nodup_cons.2 ⟨hm, hn⟩) (fun z hz => by
    rcases List.mem_cons.1 hz with rfl | hz
    · exact hi
    · exact (h.far z hz).1)
  rw [length_ids] at this
  simpa [keysL] using this
theorem mem_spreadL {g : G} (hw : Wf g) (l : List BS) (x : BS) : x ∈ spreadL g l ↔ x ∈ ids g ∧ ∃ a ∈ l, a ∈ ids g ∧ Reach g x a := by
  unfold spreadL
  rw [mem_ofL]
  simp only [List.mem_filter, Bool.or_eq_true, decide_eq_true_eq, List.any_eq_true, aheadB_iff hw]
  constructor
  · rintro ⟨⟨hx, (h | ⟨a, h1, h2, h3, h4, h5⟩)⟩, _⟩
    · exact ⟨hx, x, h, hx, .refl x⟩
    · exact ⟨hx, a, h1, h3, h5⟩
  · rintro ⟨hx, a, h1, h2, h3⟩
    refine ⟨⟨hx, ?_⟩, hw.right hx⟩
    by_cases e : a = x
    · exact .inl (e ▸ h1)
    · exact .inr ⟨a, h1, e, h2, hx, h3⟩
theorem Sp.all {g : G} (hw : Wf g) {l pre : List BS} {M : Ents} (h : Sp g l [] M pre) (x : BS) : x ∈ pre ↔ x ∈ spreadL g l := by
  rw [mem_spreadL hw, h.mem]
  refine ⟨h.far x, ?_⟩
  rintro ⟨hx, a, h1, h2, h3⟩
  have key : ∀ {y z : BS}, Reach g y z → z = a → y ∈ ids g → y ∈ keysL M := by
    intro y z r
    induction r with
    | refl z =>
      intro e hy
      subst e
      exact (h.done _ (.inl h1) hy).resolve_left (by simp)
    | @step y p z hp r ih =>
      intro e hy
      exact (h.done y (.inr ⟨p, ih e (preds_in hw hp), kid_preds hw hp⟩) hy).resolve_left (by simp)
  exact key h3 rfl hx
end Go.Proofs.YtoaebladjdnfjaaGreat
