import Derived.Test.YtoaebladjdnfjaaGreatRef04b
set_option linter.unusedSimpArgs false
set_option linter.unusedVariables false
/-
  A queue of texts: a slice of the call's own that is cut at its front and grows at its end.
-/
namespace Go.Proofs.YtoaebladjdnfjaaGreat
open Go.RowKit

def Que (w : World) (base : Nat) (v : Value) (xs : List BS) : Prop := ∃ g o cap cur, v = .slice (some ⟨g, o, none⟩) xs.length cap ∧ base ≤ g ∧ w.heap[g]? = some (.cells cur 9 (0, 0)) ∧ xs.length ≤ cap ∧ cap ≤ maxLen ∧
  (0 < cap → o + cap ≤ cur.size) ∧ ∀ (j : Nat) (x : BS), xs[j]? = some x → cur[o + j]? = some (Value.string x)

theorem Que.fr {S : List Nat} {w w' : World} {base : Nat} {v : Value} {xs : List BS} (h : Que w base v xs) (hf : Fr S w w') : Que w' base v xs := by
  obtain ⟨g, o, cap, cur, e, h1, h2, r⟩ := h
  exact ⟨g, o, cap, cur, e, h1, hf.row h2, r⟩
theorem Que.strs {w : World} {base : Nat} {v : Value} {xs : List BS} (h : Que w base v xs) (hn : xs.length ≤ 140737488355328) : Strs w v xs := by
  obtain ⟨g, o, cap, cur, rfl, h1, h2, h3, h4, h5, h6⟩ := h
  refine ⟨by simp, hn, _, cap, rfl, h3, h4, fun e => (by cases e), fun _ => ⟨g, o, rfl, fun j x hx => ?_⟩⟩
  rw [List.getElem?_map, Option.map_eq_some_iff] at hx
  obtain ⟨y, hy, rfl⟩ := hx
  simp [World.cell?, h2, h6 j y hy]
theorem Que.one (w : World) (base : Nat) (hb : base ≤ w.heap.size) (x : BS) : Que (w.alloc (.cells #[.string x] 9)) base (.slice (some ⟨w.heap.size, 0, none⟩) 1 1) [x] := by
  refine ⟨w.heap.size, 0, 1, #[.string x], rfl, hb, (MapKept.heap_alloc w _).1, by simp, by decide, fun _ => by simp, fun j y hy => ?_⟩
  have := lt_of_getElem? hy
  simp at this; subst this
  simp at hy; subst hy; rfl
/-- Cut at the front. -/
theorem Que.cut {P : Program} {w : World} {base : Nat} {v : Value} {x : BS} {xs : List BS} (h : Que w base v (x :: xs)) (t : TypeId) (ht : P.underlying t = some (.slice 9)) (hs : ∀ W, (sizeOf 9).run P W = .ok 1 W) :
    ∃ v', Que w base v' xs ∧ ∀ W, (Instr.slice t v (some (.int .i64 1)) none none).run P W = .ok v' W := by
  obtain ⟨g, o, cap, cur, rfl, h1, h2, h3, h4, h5, h6⟩ := h
  simp only [List.length_cons] at h3
  have he : P.elem t = 9 := by unfold Program.elem; rw [ht]
  have ht' : P.underlying t = some (.slice (P.elem t)) := by rw [ht, he]
  have hrun : ∀ W, (Instr.slice t (.slice (some ⟨g, o, none⟩) (xs.length + 1) cap) (some (.int .i64 1)) none none).run P W = .ok (.slice (if cap = 1 then some ⟨g, o, none⟩ else (some (⟨g, o, none⟩ : Addr)).map (·.add (1 * 1))) (xs.length + 1 - 1) (cap - 1)) W := fun W => by
    have := run_slice_l (P := P) W t (some ⟨g, o, none⟩) (xs.length + 1) cap ht' .i64 1 (by omega) (by omega)
    rw [this]
    simp [he, hs, Result.andThen, sliced]
  by_cases hc : cap = 1
  · refine ⟨_, ?_, hrun⟩
    rw [if_pos hc]
    have : xs = [] := List.eq_nil_of_length_eq_zero (by omega)
    subst this
    exact ⟨g, o, cap - 1, cur, rfl, h1, h2, by simp, by omega, fun h => by omega, fun j y hy => by simp at hy⟩
  · refine ⟨_, ?_, hrun⟩
    rw [if_neg hc]
    refine ⟨g, o + 1, cap - 1, cur, by simp [Addr.add_lit], h1, h2, by omega, by omega, fun h => by have := h5 (by omega); omega, fun j y hy => ?_⟩
    have := h6 (j + 1) y (by simpa using hy)
    rw [← this]; congr 1; omega

/-- .. and one more at its end. -/
theorem Que.app {w : World} {base : Nat} {v : Value} {xs : List BS} (h : Que w base v xs) (y : BS) (vb : Nat) (hv : w.cell? ⟨vb, 0, none⟩ = some (.string y)) (hn : xs.length ≤ 1000000) (hb : base ≤ w.heap.size) (ty : TypeId) :
    ∃ v' w', (Builtin.append_ #[23, 23] ty #[v, .slice (some ⟨vb, 0, none⟩) 1 1]).run Tryz.prog w = .ok v' w' ∧ Que w' base v' (xs ++ [y]) ∧ ∃ g, base ≤ g ∧ ¬ IsMp w g ∧ w.grownBy w' (some g) := by
  obtain ⟨g, o, cap, cur, rfl, h1, h2, h3, h4, h5, h6⟩ := h
  have hno : ¬ IsMp w g := fun ⟨es, c, h⟩ => by rw [h2] at h; cases h
  obtain ⟨i, hi, hz, hsize, hby⟩ := info_parts infoStr
  have hnews : ∀ j u, [Value.string y][j]? = some u → w.cell? ((⟨vb, 0, none⟩ : Addr).add j) = some u := fun j u hu => by
    have := lt_of_getElem? hu
    simp at this; subst this
    simp at hu; subst hu
    rw [Addr.add_lit]; exact hv
  by_cases hroom : xs.length + 1 ≤ cap
  · have hfit := h5 (by omega)
    have hf := run_firstCells_some (P := Tryz.prog) w 1 1 ⟨vb, 0, none⟩ 1 1 [.string y] rfl hnews
    have hst := run_storeCells_at Tryz.prog g (o + xs.length) 9 [.string y] 0 cur w h2 (by simp; omega) (by simp [Value.oneCell'])
    have hr : (Builtin.append_ #[23, 23] ty #[.slice (some ⟨g, o, none⟩) xs.length cap, .slice (some ⟨vb, 0, none⟩) 1 1]).run Tryz.prog w = .ok (.slice (some ⟨g, o, none⟩) (xs.length + 1) cap) (w.setRow g (cur.toList.take (o + xs.length + 0) ++ [Value.string y] ++ cur.toList.drop (o + xs.length + 0 + 1)).toArray) := by
      simp only [List.length_singleton] at hst
      simp [Builtin.append_, run_underlying Tryz.underlying23, sizeOf, typeInfo, hi, hsize, Builtin.lenOf, hroom, hf, Addr.add_lit, hst]
    refine ⟨_, _, hr, ?_, ?_⟩
    · refine ⟨g, o, cap, _, by simp, h1, setRow_heap w g cur _ 9 _ h2, by simpa using hroom, h4, fun h => by simp; omega, fun j x hx => ?_⟩
      have hj := lt_of_getElem? hx
      simp at hj
      rw [List.getElem?_toArray, Nat.add_zero, List.append_assoc]
      rcases Nat.lt_or_ge j xs.length with hlt | hge
      · rw [List.getElem?_append_left (by simp; omega), List.getElem?_take_of_lt (by omega), Array.getElem?_toList]
        rw [List.getElem?_append_left hlt] at hx
        exact h6 j x hx
      · have : j = xs.length := by omega
        subst this
        simp at hx; subst hx
        rw [List.getElem?_append_right (by simp; omega)]
        simp only [List.length_take, Array.length_toList]
        rw [Nat.min_eq_left (by omega), Nat.sub_self]; rfl
    · exact ⟨g, h1, hno, ⟨rfl, rfl, rfl, by simp, fun k _ hk => setRow_other w g k _ (fun e => hk (by rw [e]))⟩⟩
  · have holds : ∀ j u, (xs.map Value.string)[j]? = some u → w.cell? ((⟨g, o, none⟩ : Addr).add j) = some u := fun j u hu => by
      rw [List.getElem?_map, Option.map_eq_some_iff] at hu
      obtain ⟨x, hx, rfl⟩ := hu
      rw [Addr.add_lit]
      simp [World.cell?, h2, h6 j x hx]
    have hr := run_append_grow (P := Tryz.prog) w 23 ty 9 i (.string ⟨#[]⟩) Tryz.underlying23 hi hz ⟨g, o, none⟩ xs.length cap (xs.map Value.string) (by simp [hsize]) holds ⟨vb, 0, none⟩ 1 1 [.string y] (by simp [hsize]) hnews (by omega) (by omega) (growslice_fits (by omega) (by rw [hby]; omega))
    have hge := grownCap_ge w (xs.length + 1) cap 9
    refine ⟨_, _, hr, ?_, g, h1, hno, ⟨rfl, rfl, rfl, by simp, fun k hk _ => (MapKept.heap_alloc w.drew _).2 k hk⟩⟩
    refine ⟨w.heap.size, 0, _, _, by simp, hb, (MapKept.heap_alloc w.drew _).1, by simpa using hge, grownCap_le_maxLen w (xs.length + 1) cap 9 (by simp [maxLen]; omega), fun _ => ?_, fun j x hx => ?_⟩
    · simp [size_zeroCells, Value.cells]; omega
    · have hj := lt_of_getElem? hx
      simp at hj
      rw [Nat.zero_add, Array.append_assoc]
      rcases Nat.lt_or_ge j xs.length with hlt | hge'
      · rw [Array.getElem?_append_left (by simpa using hlt)]
        rw [List.getElem?_append_left hlt] at hx
        simp [hx]
      · have : j = xs.length := by omega
        subst this
        simp at hx; subst hx
        rw [Array.getElem?_append_right (by simp)]
        simp [Array.getElem?_append]
end Go.Proofs.YtoaebladjdnfjaaGreat
