import Derived.Test.YtppgjglfoibfcaaGreatRef04b
import Derived.Test.YtppgjglfoibfcaaGreatDagPast
import Derived.Deep.LoopGhost
import Derived.WalkMore
set_option linter.unusedSimpArgs false
set_option linter.unusedVariables false
/-
  A queue of texts: a slice of the call's own that is cut at its front and grows at its end.
-/
namespace Go.Proofs.YtppgjglfoibfcaaGreat
open Go.RowKit

def Que (w : World) (base : Nat) (v : Value) (xs : List BS) : Prop := ∃ g o cap cur, v = .slice (some ⟨g, o, none⟩) xs.length cap ∧ base ≤ g ∧ w.heap[g]? = some (.cells cur 9 (0, 0)) ∧ xs.length ≤ cap ∧ cap ≤ maxLen ∧
  (0 < cap → o + cap ≤ cur.size) ∧ ∀ (j : Nat) (x : BS), xs[j]? = some x → cur[o + j]? = some (Value.string x)

theorem Que.fr {S : List Nat} {w w' : World} {base : Nat} {v : Value} {xs : List BS} (h : Que w base v xs) (hf : Fr S w w') : Que w' base v xs := by
  obtain ⟨g, o, cap, cur, e, h1, h2, r⟩ := h
  exact ⟨g, o, cap, cur, e, h1, hf.row h2, r⟩
theorem Que.strs {w : World} {base : Nat} {v : Value} {xs : List BS} (h : Que w base v xs) (hn : xs.length ≤ 140737488355328) : Strs w v xs := by
  obtain ⟨g, o, cap, cur, rfl, h1, h2, h3, h4, h5, h6⟩ := h
  refine ⟨by simp, hn, _, cap, rfl, h3, h4, fun e => (by cases e), fun _ => ⟨g, o, rfl, fun j x hx => ?_⟩⟩
  rw [List.getElem?_map, Option.map_eq_some_iff] at hx
  obtain ⟨y, hy, rfl⟩ := hx
  simp [World.cell?, h2, h6 j y hy]
theorem Que.one (w : World) (base : Nat) (hb : base ≤ w.heap.size) (x : BS) : Que (w.alloc (.cells #[.string x] 9)) base (.slice (some ⟨w.heap.size, 0, none⟩) 1 1) [x] := by
  refine ⟨w.heap.size, 0, 1, #[.string x], rfl, hb, (MapKept.heap_alloc w _).1, by simp, by decide, fun _ => by simp, fun j y hy => ?_⟩
  have := lt_of_getElem? hy
  simp at this; subst this
  simp at hy; subst hy; rfl
/-- Cut at the front. -/
theorem Que.cut {P : Program} {w : World} {base : Nat} {v : Value} {x : BS} {xs : List BS} (h : Que w base v (x :: xs)) (t : TypeId) (ht : P.underlying t = some (.slice 9)) (hs : ∀ W, (sizeOf 9).run P W = .ok 1 W) :
    ∃ v', Que w base v' xs ∧ ∀ W, (Instr.slice t v (some (.int .i64 1)) none none).run P W = .ok v' W := by
  obtain ⟨g, o, cap, cur, rfl, h1, h2, h3, h4, h5, h6⟩ := h
  simp only [List.length_cons] at h3
  have he : P.elem t = 9 := by unfold Program.elem; rw [ht]
  have ht' : P.underlying t = some (.slice (P.elem t)) := by rw [ht, he]
  have hrun : ∀ W, (Instr.slice t (.slice (some ⟨g, o, none⟩) (xs.length + 1) cap) (some (.int .i64 1)) none none).run P W = .ok (.slice (if cap = 1 then some ⟨g, o, none⟩ else (some (⟨g, o, none⟩ : Addr)).map (·.add (1 * 1))) (xs.length + 1 - 1) (cap - 1)) W := fun W => by
    have := run_slice_l (P := P) W t (some ⟨g, o, none⟩) (xs.length + 1) cap ht' .i64 1 (by omega) (by omega)
    rw [this]
    simp [he, hs, Result.andThen, sliced]
  by_cases hc : cap = 1
  · refine ⟨_, ?_, hrun⟩
    rw [if_pos hc]
    have : xs = [] := List.eq_nil_of_length_eq_zero (by omega)
    subst this
    exact ⟨g, o, cap - 1, cur, rfl, h1, h2, by simp, by omega, fun h => by omega, fun j y hy => by simp at hy⟩
  · refine ⟨_, ?_, hrun⟩
    rw [if_neg hc]
    refine ⟨g, o + 1, cap - 1, cur, by simp [Addr.add_lit], h1, h2, by omega, by omega, fun h => by have := h5 (by omega); omega, fun j y hy => ?_⟩
    have := h6 (j + 1) y (by simpa using hy)
    rw [← this]; congr 1; omega

/-- .. and one more at its end. -/
theorem Que.app {w : World} {base : Nat} {v : Value} {xs : List BS} (h : Que w base v xs) (y : BS) (vb : Nat) (hv : w.cell? ⟨vb, 0, none⟩ = some (.string y)) (hn : xs.length ≤ 1000000) (hb : base ≤ w.heap.size) (ty : TypeId) :
    ∃ v' w', (Builtin.append_ #[51, 51] ty #[v, .slice (some ⟨vb, 0, none⟩) 1 1]).run Tryz.prog w = .ok v' w' ∧ Que w' base v' (xs ++ [y]) ∧ ∃ g, base ≤ g ∧ ¬ IsMp w g ∧ w.grownBy w' (some g) := by
  obtain ⟨g, o, cap, cur, rfl, h1, h2, h3, h4, h5, h6⟩ := h
  have hno : ¬ IsMp w g := fun ⟨es, c, h⟩ => by rw [h2] at h; cases h
  obtain ⟨i, hi, hz, hsize, hby⟩ := info_parts infoStr
  have hnews : ∀ j u, [Value.string y][j]? = some u → w.cell? ((⟨vb, 0, none⟩ : Addr).add j) = some u := fun j u hu => by
    have := lt_of_getElem? hu
    simp at this; subst this
    simp at hu; subst hu
    rw [Addr.add_lit]; exact hv
  by_cases hroom : xs.length + 1 ≤ cap
  · have hfit := h5 (by omega)
    have hf := run_firstCells_some (P := Tryz.prog) w 1 1 ⟨vb, 0, none⟩ 1 1 [.string y] rfl hnews
    have hst := run_storeCells_at Tryz.prog g (o + xs.length) 9 [.string y] 0 cur w h2 (by simp; omega) (by simp [Value.oneCell'])
    have hr : (Builtin.append_ #[51, 51] ty #[.slice (some ⟨g, o, none⟩) xs.length cap, .slice (some ⟨vb, 0, none⟩) 1 1]).run Tryz.prog w = .ok (.slice (some ⟨g, o, none⟩) (xs.length + 1) cap) (w.setRow g (cur.toList.take (o + xs.length + 0) ++ [Value.string y] ++ cur.toList.drop (o + xs.length + 0 + 1)).toArray) := by
      simp only [List.length_singleton] at hst
      simp [Builtin.append_, run_underlying Tryz.underlying51, sizeOf, typeInfo, hi, hsize, Builtin.lenOf, hroom, hf, Addr.add_lit, hst]
    refine ⟨_, _, hr, ?_, ?_⟩
    · refine ⟨g, o, cap, _, by simp, h1, setRow_heap w g cur _ 9 _ h2, by simpa using hroom, h4, fun h => by simp; omega, fun j x hx => ?_⟩
      have hj := lt_of_getElem? hx
      simp at hj
      rw [List.getElem?_toArray, Nat.add_zero, List.append_assoc]
      rcases Nat.lt_or_ge j xs.length with hlt | hge
      · rw [List.getElem?_append_left (by simp; omega), List.getElem?_take_of_lt (by omega), Array.getElem?_toList]
        rw [List.getElem?_append_left hlt] at hx
        exact h6 j x hx
      · have : j = xs.length := by omega
        subst this
        simp at hx; subst hx
        rw [List.getElem?_append_right (by simp; omega)]
        simp only [List.length_take, Array.length_toList]
        rw [Nat.min_eq_left (by omega), Nat.sub_self]; rfl
    · exact ⟨g, h1, hno, ⟨rfl, rfl, rfl, by simp, fun k _ hk => setRow_other w g k _ (fun e => hk (by rw [e]))⟩⟩
  · have holds : ∀ j u, (xs.map Value.string)[j]? = some u → w.cell? ((⟨g, o, none⟩ : Addr).add j) = some u := fun j u hu => by
      rw [List.getElem?_map, Option.map_eq_some_iff] at hu
      obtain ⟨x, hx, rfl⟩ := hu
      rw [Addr.add_lit]
      simp [World.cell?, h2, h6 j x hx]
    have hr := run_append_grow (P := Tryz.prog) w 51 ty 9 i (.string ⟨#[]⟩) Tryz.underlying51 hi hz ⟨g, o, none⟩ xs.length cap (xs.map Value.string) (by simp [hsize]) holds ⟨vb, 0, none⟩ 1 1 [.string y] (by simp [hsize]) hnews (by omega) (by omega) (growslice_fits (by omega) (by rw [hby]; omega))
    have hge := grownCap_ge w (xs.length + 1) cap 9
    refine ⟨_, _, hr, ?_, g, h1, hno, ⟨rfl, rfl, rfl, by simp, fun k hk _ => (MapKept.heap_alloc w.drew _).2 k hk⟩⟩
    refine ⟨w.heap.size, 0, _, _, by simp, hb, (MapKept.heap_alloc w.drew _).1, by simpa using hge, grownCap_le_maxLen w (xs.length + 1) cap 9 (by simp [maxLen]; omega), fun _ => ?_, fun j x hx => ?_⟩
    · simp [size_zeroCells, Value.cells]; omega
    · have hj := lt_of_getElem? hx
      simp at hj
      rw [Nat.zero_add, Array.append_assoc]
      rcases Nat.lt_or_ge j xs.length with hlt | hge'
      · rw [Array.getElem?_append_left (by simpa using hlt)]
        rw [List.getElem?_append_left hlt] at hx
        simp [hx]
      · have : j = xs.length := by omega
        subst this
        simp at hx; subst hx
        rw [Array.getElem?_append_right (by simp)]
        simp [Array.getElem?_append]
end Go.Proofs.YtppgjglfoibfcaaGreat

set_option linter.unusedSimpArgs false
set_option linter.unusedVariables false
/-
  Ahead.
-/
namespace Go.Proofs.YtppgjglfoibfcaaGreat
open Go.RowKit

theorem foldl_max_le (m : List (BS × Nat)) : ∀ (l : List BS) (a : Nat), a ≤ l.foldl (fun a p => max a (lookD m p)) a
  | [], a => Nat.le_refl _
  | x :: l, a => Nat.le_trans (Nat.le_max_left _ _) (foldl_max_le m l _)
theorem le_foldl_max (m : List (BS × Nat)) {p : BS} : ∀ (l : List BS) (a : Nat), p ∈ l → lookD m p ≤ l.foldl (fun a p => max a (lookD m p)) a
  | x :: l, a, h => by
    rw [List.foldl_cons]
    rcases List.mem_cons.1 h with rfl | h
    · exact Nat.le_trans (Nat.le_max_right _ _) (foldl_max_le m l _)
    · exact le_foldl_max m l _ h
theorem depth_pred {g : G} (hw : Wf g) {z p : BS} (h : p ∈ preds g z) : depth g p < depth g z := by
  obtain ⟨i, n, h1, rfl, h3, h4⟩ := mem_preds hw h
  have h5 : depth g n.id = maxD (deps (g.take i)) n.preds + 1 := by
    rw [← depth_take (k := i + 1) (by rw [mem_ids_take h1]; exact .inr rfl), deps_take h1]
    have hlt := lt_of_getElem? h1
    have hlen : (deps (g.take i)).length = i := by rw [length_deps]; simp; omega
    refine lookD_at (i := i) ?_ ?_
    · rw [List.getElem?_append_right (by omega), hlen, Nat.sub_self]; rfl
    · rw [List.map_append, fst_deps, List.take_append_of_le_length (by rw [length_ids]; simp; omega)]
      exact fun hm => (hw i n h1).2.2.1 (List.mem_of_mem_take hm)
  rw [h5, ← depth_take h4]
  exact Nat.lt_succ_of_le (le_foldl_max _ _ _ h3)
theorem reach_depth {g : G} (hw : Wf g) {y x : BS} (h : Reach g y x) : depth g x ≤ depth g y := by
  induction h with
  | refl => exact Nat.le_refl _
  | step hp _ ih => exact Nat.le_trans ih (Nat.le_of_lt (depth_pred hw hp))
theorem reach_depth_lt {g : G} (hw : Wf g) {y x : BS} (h : Reach g y x) (hne : y ≠ x) : depth g x < depth g y := by
  cases h with
  | refl => exact absurd rfl hne
  | step hp r => exact Nat.lt_of_le_of_lt (reach_depth hw r) (depth_pred hw hp)
theorem reach_src {g : G} {y x : BS} (h : Reach g y x) (hne : y ≠ x) : y ∈ ids g := by
  cases h with
  | refl => exact absurd rfl hne
  | step hp _ =>
    refine Decidable.byContradiction fun hn => ?_
    rw [preds_none hn] at hp; cases hp

/-- While the search goes: x (if any) is under way, the first of its predecessors (l) are done. -/
structure Bfs (g : G) (a b : BS) (Q : List BS) (M : Ents) (x : Option BS) (l : List BS) : Prop where
  marks : Marks M
  far : ∀ z ∈ keysL M, z ∈ ids g ∧ Reach g b z ∧ depth g a < depth g z
  q : ∀ z ∈ Q, z = b ∨ z ∈ keysL M
  done : ∀ z, (z = b ∨ z ∈ keysL M) → z ∈ Q ∨ some z = x ∨ ∀ p ∈ preds g z, p ≠ a ∧ (depth g a < depth g p → p ∈ keysL M)
  cur : ∀ z, some z = x → z = b ∨ z ∈ keysL M
  part : ∀ p ∈ l, p ≠ a ∧ (depth g a < depth g p → p ∈ keysL M)
theorem Bfs.start (g : G) (a b : BS) : Bfs g a b [b] [] none [] where
  marks := Marks.nil
  far z h := by simp [keysL] at h
  q z h := .inl (by simpa using h)
  done z h := .inl (by rcases h with rfl | h; simp; simp [keysL] at h)
  cur z h := by cases h
  part p h := by cases h
theorem Bfs.pop {g : G} {a b x : BS} {Q : List BS} {M : Ents} (h : Bfs g a b (x :: Q) M none []) : Bfs g a b Q M (some x) [] where
  marks := h.marks
  far := h.far
  q z hz := h.q z (by simp [hz])
  done z hz := by
    rcases h.done z hz with h1 | h1 | h1
    · rcases List.mem_cons.1 h1 with rfl | h1
      · exact .inr (.inl rfl)
      · exact .inl h1
    · cases h1
    · exact .inr (.inr h1)
  cur z hz := by cases hz; exact h.q x (by simp)
  part := h.part
theorem Bfs.reach {g : G} {a b x : BS} {Q : List BS} {M : Ents} {l : List BS} (h : Bfs g a b Q M (some x) l) : Reach g b x := by
  rcases h.cur x rfl with rfl | h1
  · exact .refl _
  · exact (h.far x h1).2.1
theorem Bfs.skip {g : G} {a b x p : BS} {Q : List BS} {M : Ents} {l : List BS} (h : Bfs g a b Q M (some x) l) (hp : p ≠ a) (hm : p ∈ keysL M ∨ ¬ depth g a < depth g p) : Bfs g a b Q M (some x) (l ++ [p]) where
  marks := h.marks
  far := h.far
  q := h.q
  done := h.done
  cur := h.cur
  part y hy := by
    rw [List.mem_append, List.mem_singleton] at hy
    rcases hy with hy | rfl
    · exact h.part y hy
    · exact ⟨hp, fun hd => hm.elim _root_.id fun hn => absurd hd hn⟩
theorem Bfs.push {g : G} (hw : Wf g) {a b x p : BS} {Q : List BS} {M : Ents} {l : List BS} (h : Bfs g a b Q M (some x) l) (hx : p ∈ preds g x) (hp : p ≠ a) (hd : depth g a < depth g p) : Bfs g a b (Q ++ [p]) (up M p (.int .i64 1)) (some x) (l ++ [p]) where
  marks := h.marks.up p
  far z hz := by
    rcases (keys_up _ _ _ _).1 hz with rfl | hz
    · exact ⟨preds_in hw hx, h.reach.snoc hx, hd⟩
    · exact h.far z hz
  q z hz := by
    rw [List.mem_append, List.mem_singleton] at hz
    rcases hz with hz | rfl
    · exact (h.q z hz).imp_right fun k => (keys_up _ _ _ _).2 (.inr k)
    · exact .inr ((keys_up _ _ _ _).2 (.inl rfl))
  done z hz := by
    by_cases hzp : z = p
    · exact .inl (by simp [hzp])
    · have hz' : z = b ∨ z ∈ keysL M := hz.imp_right fun k => ((keys_up _ _ _ _).1 k).resolve_left hzp
      rcases h.done z hz' with h1 | h1 | h1
      · exact .inl (by simp [h1])
      · exact .inr (.inl h1)
      · exact .inr (.inr fun y hy => ⟨(h1 y hy).1, fun k => (keys_up _ _ _ _).2 (.inr ((h1 y hy).2 k))⟩)
  cur z hz := (h.cur z hz).imp_right fun k => (keys_up _ _ _ _).2 (.inr k)
  part y hy := by
    rw [List.mem_append, List.mem_singleton] at hy
    rcases hy with hy | rfl
    · exact ⟨(h.part y hy).1, fun k => (keys_up _ _ _ _).2 (.inr ((h.part y hy).2 k))⟩
    · exact ⟨hp, fun _ => (keys_up _ _ _ _).2 (.inl rfl)⟩
theorem Bfs.next {g : G} {a b x : BS} {Q : List BS} {M : Ents} (h : Bfs g a b Q M (some x) (preds g x)) : Bfs g a b Q M none [] where
  marks := h.marks
  far := h.far
  q := h.q
  done z hz := by
    rcases h.done z hz with h1 | h1 | h1
    · exact .inl h1
    · cases h1; exact .inr (.inr h.part)
    · exact .inr (.inr h1)
  cur z hz := by cases hz
  part p hp := by cases hp
theorem Bfs.not_in {g : G} {a b : BS} {Q : List BS} {M : Ents} {x : Option BS} {l : List BS} (h : Bfs g a b Q M x l) : a ∉ keysL M := fun ha => Nat.lt_irrefl _ (h.far a ha).2.2
theorem Bfs.found {g : G} (hw : Wf g) {a b x : BS} {Q : List BS} {M : Ents} {l : List BS} (h : Bfs g a b Q M (some x) l) (ha : a ∈ preds g x) : Ahead g a b := by
  have hr := h.reach.snoc ha
  have hlt := Nat.lt_of_lt_of_le (depth_pred hw ha) (reach_depth hw h.reach)
  have hne : b ≠ a := fun e => by subst e; exact Nat.lt_irrefl _ hlt
  exact ⟨fun e => hne e.symm, preds_in hw ha, reach_src hr hne, hr⟩
theorem Bfs.none {g : G} (hw : Wf g) {a b : BS} {M : Ents} (h : Bfs g a b [] M none []) : ¬ Ahead g a b := by
  rintro ⟨hne, _, _, hr⟩
  have key : ∀ {y x : BS}, Reach g y x → x = a → (y = b ∨ y ∈ keysL M) → y = a := by
    intro y x r
    induction r with
    | refl => exact fun e _ => e
    | @step y p x hp r ih =>
      intro e hy
      subst e
      rcases h.done y hy with h1 | h1 | h1
      · cases h1
      · cases h1
      · obtain ⟨k1, k2⟩ := h1 p hp
        have := ih rfl (.inr (k2 (reach_depth_lt hw r k1)))
        exact absurd this k1
  exact hne (key hr rfl (.inl rfl)).symm
theorem Bfs.len {g : G} {a b : BS} {Q : List BS} {M : Ents} {x : Option BS} {l : List BS} (h : Bfs g a b Q M x l) (hn : (keysL M).Nodup) : M.length ≤ g.length := by
  have := nodup_len (keysL M) (ids g) hn (fun z hz => (h.far z hz).1)
  rw [length_ids] at this
  simpa [keysL] using this

def mapSize (w : World) (b : Nat) : Nat := match w.heap[b]? with
  | some (.map es _) => es.size
  | _ => 0
theorem Mp.size {w : World} {b : Nat} {l : Ents} (h : Mp w b l) : mapSize w b = l.length := by
  obtain ⟨es, c, hb, _, he⟩ := h
  have := ents_len he
  unfold mapSize
  rw [hb]
  simpa using this
def lenV : Value → Nat
  | .slice _ n _ => n
  | _ => 0
theorem Que.lenV {w : World} {base : Nat} {v : Value} {xs : List BS} (h : Que w base v xs) : lenV v = xs.length := by
  obtain ⟨g, o, cap, cur, rfl, _⟩ := h; rfl

theorem wpList_que {w : World} {ops : Array Oper} {rest : List Oper} {o : Oper} {a : Act} {Q : Exit → Act → World → Prop} (hgd : o.guard = none) (s x : Operand)
    (ho : o.op = .call { callee := .builtin .append, args := #[s, x], argTypes := #[51, 51] })
    (base : Nat) (v : Value) (xs : List BS) (hs : a.eval s = v) (hown : Que w base v xs) (vb : Nat) (y : BS) (hx : a.eval x = .slice (some ⟨vb, 0, none⟩) 1 1) (hv : w.cell? ⟨vb, 0, none⟩ = some (.string y)) (hn : xs.length ≤ 1000000) (hb : base ≤ w.heap.size)
    (h : ∀ v' w', Que w' base v' (xs ++ [y]) → (∃ g, base ≤ g ∧ ¬ IsMp w g ∧ w.grownBy w' (some g)) → wpList Tryz.prog ops Q rest (a.put o.dst v') w') :
    wpList Tryz.prog ops Q (o :: rest) a w := by
  refine wpList_plain hgd fun K hK => ?_
  obtain ⟨v', w', hr, h2, h3⟩ := hown.app y vb hv hn hb o.type
  unfold Oper.wp execOp
  simp only [ho, resolve, invoke, builtin, Sem.run_bind, Sem.run_pure, Result.andThen_ok, List.map_toArray, List.map_cons, List.map_nil, hs, hx, hr]
  exact hK _ _ (h v' w' h2 h3)

set_option maxRecDepth 100000 in
set_option maxHeartbeats 4000000 in
theorem ahead26 (v : Value) (a b : BS) (g : G) (w : World) (hd : DagR w v g) (hw : Wf g) (hl : g.length ≤ 10000) :
    Calls Tryz.prog 72 #[v, .string a, .string b] w fun e w' => (∃ r, e = .returned (.bool r) ∧ (r = true ↔ Ahead g a b)) ∧ Fr [] w w' := by
  have R1 := depth20 v a g w hd
  by_cases h0 : depth g a = 0
  · rw [h0] at R1
    go_enter Tryz.func72, Tryz.ntmps72
    go_wp2
    go_step3
    go_wp2_with (go_at_call 158; refine R1.mono ?_; rintro e w1 ⟨rfl, f1⟩)
    (try rw [Exit.noGoto_ret])
    go_ret
    refine ⟨⟨false, rfl, ?_⟩, f1.fr⟩
    constructor
    · intro h; cases h
    · rintro ⟨_, ha, _⟩
      have := depth_pos ha
      omega
  · have hpos : 0 < depth g a := by omega
    have hdl := depth_le g a
    obtain ⟨du, hdu⟩ : ∃ du, du = depth g a := ⟨_, rfl⟩
    rw [← hdu] at R1 h0 hpos hdl
    have Hdu := Lib.hid hdu; clear hdu
    have Hw := Lib.hid hw; clear hw
    have hq0 : ((du : Int) == 0) = false := by simpa using h0
    have hmm := @run_makeMap Tryz.prog
    have Hl := Lib.hid hl; clear hl
    have Hdl := Lib.hid hdl; clear hdl
    clear h0
    go_enter Tryz.func72, Tryz.ntmps72
    go_wp2
    go_step3
    go_wp2_with (go_at_call 158; refine R1.mono ?_; rintro e w1 ⟨rfl, f1⟩)
    go_step3
    go_wp2
    have fm := (Fr.refl w1).alloc (.map #[] 0)
    have fq := (Fr.refl (w1.alloc (.map #[] 0))).alloc (.cells #[.string b] 9)
    have hM0 := (Mp.made w1).fr fq (by simp)
    have hQ0 := Que.one (w1.alloc (.map #[] 0)) w1.heap.size (by simp) b
    have F2 := (fm.then fq)
    rw [World.size_alloc] at hQ0
    obtain ⟨mk, hmk⟩ : ∃ mk, mk = w1.heap.size := ⟨_, rfl⟩
    obtain ⟨G0, hG0⟩ : ∃ n, n = g.length := ⟨_, rfl⟩
    have HG := Lib.hid hG0; clear hG0
    generalize (w1.alloc (.map #[] 0)).alloc (.cells #[.string b] 9) = wS at hM0 hQ0 F2 ⊢
    have hmp : ∀ k, k ∈ [mk] → IsMp wS k := fun k hk => by simp at hk; rw [hk, hmk]; exact hM0.isMp
    rw [← hmk] at hM0 hQ0 ⊢
    have Hmk := Lib.hid hmk; clear hmk
    clear fm fq
    go_loopg [9] (G0 + 1) (fun k q9 wr => ∃ (Q : List BS) (M : Ents), k + M.length = G0 + Q.length ∧ k ≤ G0 + 1 ∧ Que wr mk q9 Q ∧ Mp wr mk M ∧ Bfs g a b Q M none [] ∧ Fr [] w1 wr)
    case atStart => exact ⟨[b], [], by simp, Nat.le_refl _, hQ0, hM0, Bfs.start g a b, F2⟩
    case round =>
      obtain ⟨Q, M, hkM, hkG, hQ, hM, hB, hf⟩ := hrel
      have F0 : Fr [] w wr := f1.fr.then hf
      obtain ⟨wo, rfl⟩ : ∃ wo : World, wo = wr := ⟨_, rfl⟩
      have hbs : mk ≤ wo.heap.size := by have := hM.lt; omega
      have HB := Lib.hid hB; clear hB
      cases Q with
      | nil =>
        obtain ⟨qg, qo, qc, qcur, rfl, hqr⟩ := hQ
        have Hqr := Lib.hid hqr; clear hqr
        have hlk := hM.lookI a
        rw [HB.out.marks.get a, if_neg HB.out.not_in] at hlk
        simp only [List.length_nil] at hkM ⊢
        go_wp2
        (try rw [Exit.noGoto_ret])
        go_ret
        exact ⟨⟨false, rfl, ⟨fun h => (by cases h), fun h => absurd h (HB.out.none Hw.out)⟩⟩, F0⟩
      | cons x Q =>
        have hQl : (x :: Q).length ≤ 1000000 := by have := HB.out.len hM.nodup; have := Hl.out; have := HG.out; omega
        have hs := hQ.strs (by omega)
        obtain ⟨q1, hQ1, hcut⟩ := hQ.cut 51 Tryz.underlying51 Tryz.sizeOf9
        obtain ⟨qa, qc, hqe, _⟩ := hs.form
        subst hqe
        obtain ⟨b0, o0, hidx, hcell⟩ := hs.at_ rfl 51 9 Tryz.underlying51 Tryz.sizeOf9 0 x rfl
        obtain ⟨qn, hqn⟩ : ∃ qn, qn = (x :: Q).length := ⟨_, rfl⟩
        have hqpos : 0 < qn := by rw [hqn]; simp
        rw [← hqn] at hidx hcut ⊢
        have Hqn := Lib.hid hqn; clear hqn
        have hidx0 : ∀ W, (Instr.indexAt 51 (.slice qa qn qc) (.int .i64 0)).run Tryz.prog W = .ok (.pointer (some ⟨b0, o0, none⟩)) W := hidx
        clear hidx
        have hfd := fld0
        have RO := of44b v x g w wo hd F0
        have hdec : decide (0 < qn) = true := decide_eq_true hqpos
        have hdec2 : decide ((0 : Int) < (qn : Int)) = true := decide_eq_true (by omega)
        go_wp2_with (go_at_call 159; refine RO.mono ?_; rintro e w3 ⟨u, rfl, hu, g3⟩; obtain ⟨pa, pc, ka, kc, rfl, hp, hkk⟩ := hu.form; obtain ⟨n, hn⟩ : ∃ n, n = (preds g x).length := ⟨_, rfl⟩; rw [← hn] at hp ⊢; have Hn := Lib.hid hn; clear hn)
        have fw3 := hf.then g3.fr
        have hM3 := hM.fr g3.fr (by simp)
        have hQ3 := hQ1.fr g3.fr
        obtain ⟨gko, rfl⟩ : ∃ n, n = gk := ⟨_, rfl⟩
        have hnb : n ≤ 140737488355328 := by rw [Hn.out]; exact hp.2.1
        have hsz : gko + M.length = G0 + 1 + Q.length := by rw [hkM, List.length_cons]; omega
        clear hQ hcell hcut hidx0 hdec hdec2 hs hQ1 RO
        go_loopg [9, 34] n (fun k2 q9 i wr => ∃ (j : Nat) (Q2 : List BS) (M2 : Ents), j + k2 = n ∧ i = .int .i64 j ∧ Que wr mk q9 Q2 ∧ Mp wr mk M2 ∧ Bfs g a b Q2 M2 (some x) ((preds g x).take j) ∧ Fr [] w1 wr ∧ gko + M2.length = G0 + 1 + Q2.length)
        case atStart => exact ⟨0, Q, M, by omega, rfl, hQ3, hM3, HB.out.pop, fw3, hsz⟩
        case round =>
          obtain ⟨j, Q2, M2, hj, rfl, hQ2, hM2, hB2, hf2, hsz2⟩ := hrel
          have HB2 := Lib.hid hB2; clear hB2
          have F02 : Fr [] w wr := f1.fr.then hf2
          have hp2 := hp.fr F02
          have hbs2 : mk ≤ wr.heap.size := by have := hM2.lt; omega
          have hM2l := HB2.out.len hM2.nodup
          have hQ2l : Q2.length ≤ 1000000 := by have := Hl.out; have := HG.out; omega
          by_cases hlt : j < n
          · obtain ⟨p, hpj⟩ : ∃ p, (preds g x)[j]? = some p := ⟨_, List.getElem?_eq_getElem (Hn.out ▸ hlt)⟩
            obtain ⟨b1, o1, hidx1, hcell1⟩ := hp2.at_ Hn.out 51 9 Tryz.underlying51 Tryz.sizeOf9 j p hpj
            have Hpj := Lib.hid hpj; clear hpj
            by_cases hpa : p = a
            · subst hpa
              have hbq := beq_tt (rfl : p = p)
              have hlk := hM2.lookI p
              rw [HB2.out.marks.get p, if_neg HB2.out.not_in] at hlk
              obtain ⟨w5, hput, hM5, f5⟩ := hM2.put Tryz.underlying224 Tryz.underlying9 p (.int .i64 1)
              have hlk5 := hM5.lookI p
              rw [lk_up, if_pos rfl] at hlk5
              simp only [Option.getD_some] at hlk5
              have F5 : Fr [] w w5 := F02.drop f5 (fun k hk => by simp at hk; have := F2.size; have := f1.fr.size; rw [hk, Hmk.out]; omega)
              go_wp2
              (try rw [Exit.noGoto_ret])
              go_ret
              exact ⟨⟨true, rfl, ⟨fun _ => HB2.out.found Hw.out (List.mem_of_getElem? Hpj.out), fun _ => rfl⟩⟩, F5⟩
            · have hbq := beq_ff hpa
              have hlk := hM2.lookI p
              rw [HB2.out.marks.get p] at hlk
              have Hpa := Lib.hid hpa; clear hpa
              by_cases hpm : p ∈ keysL M2
              · rw [if_pos hpm] at hlk
                have Hpm := Lib.hid hpm; clear hpm
                go_wp2
                go_roundg (gk - 1)
                case measure => omega
                case rel =>
                  refine ⟨j + 1, Q2, M2, by omega, by go_num, hQ2, hM2, ?_, hf2, hsz2⟩
                  rw [take_snoc Hpj.out]
                  exact HB2.out.skip Hpa.out (.inl Hpm.out)
              · rw [if_neg hpm] at hlk
                have Hpm := Lib.hid hpm; clear hpm
                have RD := depth20 v p g wr (hd.fr F02)
                obtain ⟨dp, hdp⟩ : ∃ d, d = depth g p := ⟨_, rfl⟩
                rw [← hdp] at RD
                have Hdp := Lib.hid hdp; clear hdp
                by_cases hfar : du < dp
                · have hd1 : decide (du < dp) = true := decide_eq_true hfar
                  have hd2 : decide ((du : Int) < (dp : Int)) = true := decide_eq_true (by omega)
                  have Hfar := Lib.hid hfar; clear hfar
                  go_wp2_with (first
                    | (go_at_call 158; refine RD.mono ?_; rintro e w5 ⟨rfl, f5⟩; have hM5 := hM2.fr f5.fr (by simp); have hQ5 := hQ2.fr f5.fr; have hlk5 := hM5.lookI p; rw [HB2.out.marks.get p, if_neg Hpm.out] at hlk5; obtain ⟨w6, hput, hM6, f6⟩ := hM5.put Tryz.underlying224 Tryz.underlying9 p (.int .i64 1); have f7 := (Fr.refl w6).alloc (.cells #[.string p] 9); have hQ7 := (hQ5.fr f6).fr f7; have hM7 := hM6.fr f7 (by simp); have hy7 := World.cell?_alloc_new w6 #[.string p] 9 0; have hbs7 : mk ≤ (w6.alloc (.cells #[.string p] 9)).heap.size := by have := hM7.lt; omega)
                    | (at_builtin; refine wpList_que rfl _ _ rfl mk _ Q2 rfl hQ7 w6.heap.size p rfl hy7 hQ2l hbs7 ?_; intro v8 w8 hQ8 hfr8))
                  go_roundg (gk - 1)
                  case measure => omega
                  case rel =>
                    obtain ⟨gq, q1, q2, q3⟩ := hfr8
                    have F6 : Fr [] w1 w6 := (hf2.then f5.fr).drop f6 (fun k hk => by simp at hk; rw [hk, Hmk.out]; exact Nat.le_refl _)
                    have F8 : Fr [] w1 w8 := (F6.then f7).grown q3 (fun k hk => by cases hk; have := Hmk.out; omega)
                    have hM8 : Mp w8 mk (up M2 p (.int .i64 1)) := by
                      have hne : gq ≠ mk := fun e => q2 (e ▸ hM7.isMp)
                      obtain ⟨es, c, hb, r⟩ := hM7
                      exact ⟨es, c, (q3.block mk (Array.getElem?_eq_some_iff.1 hb).1 (fun e => hne (by injection e with e; exact e.symm))).trans hb, r⟩
                    refine ⟨j + 1, Q2 ++ [p], up M2 p (.int .i64 1), by omega, by go_num, hQ8, hM8, ?_, F8, ?_⟩
                    · rw [take_snoc Hpj.out]
                      exact HB2.out.push Hw.out (List.mem_of_getElem? Hpj.out) Hpa.out (by rw [← Hdu.out, ← Hdp.out]; exact Hfar.out)
                    · rw [len_up, if_neg Hpm.out]; simp; omega
                · have hd1 : decide (du < dp) = false := decide_eq_false hfar
                  have hd2 : decide ((du : Int) < (dp : Int)) = false := decide_eq_false (by omega)
                  have Hfar := Lib.hid hfar; clear hfar
                  go_wp2_with (go_at_call 158; refine RD.mono ?_; rintro e w5 ⟨rfl, f5⟩)
                  go_roundg (gk - 1)
                  case measure => omega
                  case rel =>
                    refine ⟨j + 1, Q2, M2, by omega, by go_num, hQ2.fr f5.fr, hM2.fr f5.fr (by simp), ?_, hf2.then f5.fr, hsz2⟩
                    rw [take_snoc Hpj.out]
                    exact HB2.out.skip Hpa.out (.inr (by rw [← Hdu.out, ← Hdp.out]; exact Hfar.out))
          · have hg1 : 1 ≤ gko := by have := HG.out; omega
            go_wp2
            go_roundg (gko - 1)
            case measure => omega
            case rel =>
              have hB3 := HB2.out
              rw [List.take_of_length_le (by have := Hn.out; omega)] at hB3
              have := HG.out
              have := hB3.len hM2.nodup
              exact ⟨Q2, M2, by omega, by omega, hQ2, hM2, hB3.next, hf2⟩
end Go.Proofs.YtppgjglfoibfcaaGreat
