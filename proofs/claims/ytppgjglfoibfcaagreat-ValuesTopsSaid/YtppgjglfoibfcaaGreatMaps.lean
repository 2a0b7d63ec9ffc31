import Derived.Test.YtppgjglfoibfcaaGreatLaws
import Derived.Maps.OwnSet
set_option linter.unusedSimpArgs false
set_option linter.unusedVariables false
/-
  Maps with texts as keys: what a block holds, as a list of pairs in the order of the entries.
-/
namespace Go.Proofs.YtppgjglfoibfcaaGreat
open Go.RowKit Go.MapKept Go.ChangeMaps

abbrev Ents := List (BS × Value)
def keysL (l : Ents) : List BS := l.map (·.1)
def lk : Ents → BS → Option Value
  | [], _ => none
  | p :: l, x => if p.1 = x then some p.2 else lk l x
def up (l : Ents) (x : BS) (v : Value) : Ents := if x ∈ keysL l then l.map (fun p => if p.1 = x then (x, v) else p) else l ++ [(x, v)]
def rm (l : Ents) (x : BS) : Ents := l.filter fun p => decide (p.1 ≠ x)

def entsOf (l : Ents) : List (Value × Value) := l.map fun p => (Value.string p.1, p.2)
/-- Block b is a map that holds these. -/
def Mp (w : World) (b : Nat) (l : Ents) : Prop := ∃ es clock, w.heap[b]? = some (.map es clock) ∧ Stamped es clock ∧ es.toList.map (fun e => (e.key, e.val)) = entsOf l

theorem Mp.isMp {w : World} {b : Nat} {l : Ents} (h : Mp w b l) : IsMp w b := by obtain ⟨es, c, h, _⟩ := h; exact ⟨es, c, h⟩
theorem Mp.lt {w : World} {b : Nat} {l : Ents} (h : Mp w b l) : b < w.heap.size := h.isMp.lt
theorem Mp.fr {S : List Nat} {w w' : World} {b : Nat} {l : Ents} (h : Mp w b l) (hf : Fr S w w') (hS : b ∉ S) : Mp w' b l := by
  have hl := h.lt
  obtain ⟨es, c, hb, r⟩ := h
  exact ⟨es, c, (hf.block b hl hS).trans hb, r⟩
theorem Mp.nodup {w : World} {b : Nat} {l : Ents} (h : Mp w b l) : (keysL l).Nodup := by
  obtain ⟨es, c, _, ⟨_, _, hn⟩, he⟩ := h
  have e1 : es.toList.map (·.key) = (keysL l).map Value.string := by
    have := congrArg (List.map Prod.fst) he
    simpa [entsOf, keysL, Function.comp_def] using this
  rw [e1] at hn
  exact List.Pairwise.of_map Value.string (fun a b h e => h (by rw [e])) hn
theorem Mp.made (w : World) : Mp (w.alloc (.map #[] 0)) w.heap.size [] := ⟨#[], 0, (MapKept.heap_alloc w _).1, stamped_empty 0, rfl⟩

theorem lk_none {l : Ents} {x : BS} (h : x ∉ keysL l) : lk l x = none := by
  induction l with
  | nil => rfl
  | cons p l ih =>
    simp [keysL] at h
    rw [lk, if_neg (fun e => h.1 e.symm)]
    exact ih (by simpa [keysL] using h.2)
theorem lk_some {l : Ents} {x : BS} (h : x ∈ keysL l) : ∃ v, lk l x = some v ∧ (x, v) ∈ l := by
  induction l with
  | nil => simp [keysL] at h
  | cons p l ih =>
    rw [lk]
    by_cases hp : p.1 = x
    · exact ⟨p.2, by rw [if_pos hp], by rw [← hp]; exact List.mem_cons_self⟩
    · rw [if_neg hp]
      obtain ⟨v, h1, h2⟩ := ih (by simp [keysL] at h ⊢; rcases h with h | h; exact absurd h.symm hp; exact h)
      exact ⟨v, h1, List.mem_cons_of_mem _ h2⟩
theorem lk_at {l : Ents} {j : Nat} {p : BS × Value} (hn : (keysL l).Nodup) (h : l[j]? = some p) : lk l p.1 = some p.2 := by
  induction l generalizing j with
  | nil => simp at h
  | cons q l ih =>
    simp only [keysL, List.map_cons, List.nodup_cons] at hn
    cases j with
    | zero => simp at h; subst h; rw [lk, if_pos rfl]
    | succ j =>
      simp at h
      have : q.1 ≠ p.1 := fun e => hn.1 (by rw [e]; exact List.mem_map.2 ⟨p, List.mem_of_getElem? h, rfl⟩)
      rw [lk, if_neg this]; exact ih hn.2 h

theorem ents_key {es : List MapEntry} {l : Ents} (h : es.map (fun e => (e.key, e.val)) = entsOf l) {j : Nat} {e : MapEntry} (he : es[j]? = some e) : ∃ p, l[j]? = some p ∧ e.key = .string p.1 ∧ e.val = p.2 := by
  have h1 : (es.map (fun e => (e.key, e.val)))[j]? = (entsOf l)[j]? := by rw [h]
  rw [List.getElem?_map, he] at h1
  simp only [entsOf, List.getElem?_map, Option.map_some] at h1
  cases hp : l[j]? with
  | none => rw [hp] at h1; simp at h1
  | some p => rw [hp] at h1; simp at h1; exact ⟨p, rfl, h1.1, h1.2⟩
theorem ents_len {es : List MapEntry} {l : Ents} (h : es.map (fun e => (e.key, e.val)) = entsOf l) : es.length = l.length := by
  have := congrArg List.length h
  simpa [entsOf] using this

/-- The search, both ways. -/
theorem find_ents {es : List MapEntry} {l : Ents} (h : es.map (fun e => (e.key, e.val)) = entsOf l) (x : BS) :
    (x ∉ keysL l ∧ Instr.findNow .string (.string x) es 0 = some none) ∨ ∃ j e p, es[j]? = some e ∧ l[j]? = some p ∧ p.1 = x ∧ e.key = .string x ∧ e.val = p.2 ∧ Instr.findNow .string (.string x) es 0 = some (some (j, e.val)) := by
  have hk : ∀ e ∈ es, IsKey .string e.key := fun e he => by
    obtain ⟨j, hj⟩ := List.mem_iff_getElem?.1 he
    obtain ⟨p, _, hp, _⟩ := ents_key h hj
    rw [hp]; trivial
  rcases findNow_spec (d := .string) (k := .string x) trivial es 0 hk with ⟨h1, h2⟩ | ⟨j, e, h1, h2, h3⟩
  · refine .inl ⟨fun hx => ?_, h1⟩
    obtain ⟨p, hp, rfl⟩ := List.mem_map.1 hx
    obtain ⟨j, hj⟩ := List.mem_iff_getElem?.1 hp
    have hlt := lt_of_getElem? hj
    rw [← ents_len h] at hlt
    obtain ⟨p', hp', hk', _⟩ := ents_key h (List.getElem?_eq_getElem hlt)
    rw [hj] at hp'; cases hp'
    exact h2 _ (List.getElem_mem hlt) hk'
  · obtain ⟨p, hp, hk', hv⟩ := ents_key h h2
    rw [h3] at hk'
    injection hk' with hk'
    exact .inr ⟨j, e, p, h2, hp, hk'.symm, h3, hv, by simpa using h1⟩

section
variable {P : Program} {w : World} {b : Nat} {l : Ents} {t k e : TypeId}

theorem Mp.look (h : Mp w b l) (ht : P.underlying t = some (.map k e)) (hk : P.underlying k = some .string) {z : Value} (hz : (zeroValue e).run P w = .ok z w) (x : BS) (c : Bool) :
    (Instr.lookup t (.map (some b)) (.string x) c).run P w = .ok (if c then .tuple #[(lk l x).getD z, .bool (decide (x ∈ keysL l))] else (lk l x).getD z) w := by
  have hn := h.nodup
  obtain ⟨es, clock, hb, _, he⟩ := h
  have hc := fun em n => run_checkKey (P := P) (w := w) hk (k := .string x) trivial em n
  rcases find_ents he x with ⟨h1, h2⟩ | ⟨j, e0, p, h1, h2, rfl, h3, h4, h5⟩
  · have hf := run_findKey (P := P) (w := w) hk h2
    have e1 : decide (x ∈ keysL l) = false := decide_eq_false h1
    simp [Instr.lookup, run_underlying ht, MapKept.run_getObj_map hb, hc, hf, hz, Result.andThen, lk_none h1, h1]
  · have hf := run_findKey (P := P) (w := w) hk h5
    have hm : p.1 ∈ keysL l := List.mem_map.2 ⟨p, List.mem_of_getElem? h2, rfl⟩
    simp [Instr.lookup, run_underlying ht, MapKept.run_getObj_map hb, hc, hf, hz, Result.andThen, lk_at hn h2, hm, h4]

theorem Mp.len (h : Mp w b l) (ht : P.underlying t = some (.map k e)) (ty : TypeId) : (Builtin.len_ #[t] ty #[.map (some b)]).run P w = .ok (.int .i64 (l.length : Nat)) w := by
  obtain ⟨es, clock, hb, _, he⟩ := h
  have := ents_len he
  simp [Builtin.len_, run_underlying ht, MapKept.run_getObj_map hb, goInt, Result.andThen, ← this]

theorem map_at {l : Ents} (hn : (keysL l).Nodup) {j : Nat} {p : BS × Value} (h : l[j]? = some p) (i : Nat) (q : BS × Value) (hq : l[i]? = some q) : q.1 = p.1 ↔ i = j := by
  constructor
  · intro e
    have h1 : (keysL l)[i]? = some p.1 := by simp [keysL, hq, e]
    have h2 : (keysL l)[j]? = some p.1 := by simp [keysL, h]
    exact (List.getElem?_inj (lt_of_getElem? h1) hn).1 (h1.trans h2.symm)
  · rintro rfl; rw [hq] at h; cases h; rfl

theorem Mp.put (h : Mp w b l) (ht : P.underlying t = some (.map k e)) (hk : P.underlying k = some .string) (x : BS) (v : Value) :
    ∃ w', (Instr.mapUpdate t (.map (some b)) (.string x) v).run P w = .ok () w' ∧ Mp w' b (up l x v) ∧ Fr [b] w w' := by
  have hn := h.nodup
  have hl := h.lt
  obtain ⟨es, clock, hb, hs, he⟩ := h
  have hc := fun em n => run_checkKey (P := P) (w := w) hk (k := .string x) trivial em n
  have hfr : ∀ es' clock', Fr [b] w (setBlock w b (.map es' clock')) := fun es' clock' =>
    ⟨rfl, rfl, rfl, by simp [setBlock], fun k _ hk => heap_setBlock_other hb _ (fun e => hk (by simp [e])), fun k hk => by simp at hk; subst hk; exact ⟨_, _, hb⟩, fun k hk => by simp at hk; subst hk; exact ⟨_, _, heap_setBlock_same hb _⟩⟩
  rcases find_ents he x with ⟨h1, h2⟩ | ⟨j, e0, p, h1, h2, rfl, h3, h4, h5⟩
  · have hf := run_findKey (P := P) (w := w) hk h2
    refine ⟨setBlock w b (.map (es.push { key := .string x, val := v, born := clock }) (clock + 1)), ?_, ⟨_, _, heap_setBlock_same hb _, stamped_push hs (fun e hm heq => ?_), ?_⟩, hfr _ _⟩
    · simp [Instr.mapUpdate, run_underlying ht, MapKept.run_getObj_map hb, hc, hf, Result.andThen, MapKept.run_setObj_map _ hb, setBlock]
    · obtain ⟨j, hj⟩ := List.mem_iff_getElem?.1 hm
      obtain ⟨p, hp, hpk, _⟩ := ents_key he hj
      rw [heq] at hpk; injection hpk with hpk
      exact h1 (List.mem_map.2 ⟨p, List.mem_of_getElem? hp, hpk.symm⟩)
    · rw [up, if_neg h1]
      simp only [Array.toList_push, List.map_append, he, entsOf, List.map_cons, List.map_nil]
  · have hf := run_findKey (P := P) (w := w) hk h5
    have hm : p.1 ∈ keysL l := List.mem_map.2 ⟨p, List.mem_of_getElem? h2, rfl⟩
    have hkey : Instr.keyThatStays (((es[j]?).map (·.key)).getD (.string p.1)) (.string p.1) = pure (.string p.1) := by
      have : es[j]? = some e0 := by simpa using h1
      rw [this]
      simp [Instr.keyThatStays, h3, Instr.sameBits]
    refine ⟨setBlock w b (.map (es.modify j fun e => { e with key := .string p.1, val := v }) clock), ?_, ⟨_, _, heap_setBlock_same hb _, stamped_modify hs j _ (fun _ _ => rfl) (fun e _ hj => ?_), ?_⟩, hfr _ _⟩
    · simp [Instr.mapUpdate, run_underlying ht, MapKept.run_getObj_map hb, hc, hf, Result.andThen, MapKept.run_setObj_map _ hb, setBlock, hkey]
    · have : es[j]? = some e0 := by simpa using h1
      rw [this] at hj; cases hj; exact h3.symm
    · rw [up, if_pos hm]
      apply List.ext_getElem?
      intro i
      simp only [entsOf, List.getElem?_map, Array.getElem?_toList, Array.getElem?_modify]
      cases hi : l[i]? with
      | none =>
        have : es[i]? = none := by
          have := ents_len he
          simp at this hi ⊢; omega
        by_cases hij : j = i <;> simp [hij, this]
      | some q =>
        have hlt := lt_of_getElem? hi
        have hlt' : i < es.toList.length := by rw [ents_len he]; exact hlt
        obtain ⟨q', hq', hk', hv'⟩ := ents_key he (List.getElem?_eq_getElem hlt')
        rw [hi] at hq'; cases hq'
        have hei : es[i]? = some es.toList[i] := by rw [← Array.getElem?_toList]; exact List.getElem?_eq_getElem hlt'
        by_cases hij : j = i
        · subst hij
          rw [h2] at hi; cases hi
          simp [hei]
        · have : ¬ q.1 = p.1 := fun e => hij ((map_at hn h2 i q hi).1 e).symm
          rw [if_neg hij, hei]
          simp only [Option.map_some, if_neg this, hk', hv']

theorem map_erase {α β : Type} (f : α → β) : ∀ (l : List α) (j : Nat), (l.eraseIdx j).map f = (l.map f).eraseIdx j
  | [], j => rfl
  | x :: l, 0 => rfl
  | x :: l, j + 1 => by simp only [List.eraseIdx_cons_succ, List.map_cons, map_erase f l j]
theorem rm_erase {l : Ents} (hn : (keysL l).Nodup) {j : Nat} {p : BS × Value} (h : l[j]? = some p) : l.eraseIdx j = rm l p.1 := by
  induction l generalizing j with
  | nil => simp at h
  | cons q l ih =>
    simp only [keysL, List.map_cons, List.nodup_cons] at hn
    cases j with
    | zero =>
      simp at h; subst h
      simp only [List.eraseIdx_cons_zero, rm, List.filter_cons, ne_eq, not_true_eq_false, decide_false]
      refine (List.filter_eq_self.2 fun r hr => ?_).symm
      simp only [decide_eq_true_eq]
      exact fun e => hn.1 (by rw [← e]; exact List.mem_map.2 ⟨r, hr, rfl⟩)
    | succ j =>
      simp at h
      have : q.1 ≠ p.1 := fun e => hn.1 (by rw [e]; exact List.mem_map.2 ⟨p, List.mem_of_getElem? h, rfl⟩)
      rw [List.eraseIdx_cons_succ, ih hn.2 h]
      simp [rm, List.filter_cons, this]
theorem rm_none {l : Ents} {x : BS} (h : x ∉ keysL l) : rm l x = l := List.filter_eq_self.2 fun r hr => by
  simp only [decide_eq_true_eq]
  exact fun e => h (by rw [← e]; exact List.mem_map.2 ⟨r, hr, rfl⟩)

theorem Mp.del (h : Mp w b l) (ht : P.underlying t = some (.map k e)) (hk : P.underlying k = some .string) (x : BS) (ty : TypeId) :
    ∃ w', (Builtin.delete_ #[t, k] ty #[.map (some b), .string x]).run P w = .ok (.tuple #[]) w' ∧ Mp w' b (rm l x) ∧ Fr [b] w w' := by
  have hn := h.nodup
  have hl := h.lt
  obtain ⟨es, clock, hb, hs, he⟩ := h
  have hc := fun em n => run_checkKey (P := P) (w := w) hk (k := .string x) trivial em n
  have hfr : ∀ es' clock', Fr [b] w (setBlock w b (.map es' clock')) := fun es' clock' =>
    ⟨rfl, rfl, rfl, by simp [setBlock], fun k _ hk => heap_setBlock_other hb _ (fun e => hk (by simp [e])), fun k hk => by simp at hk; subst hk; exact ⟨_, _, hb⟩, fun k hk => by simp at hk; subst hk; exact ⟨_, _, heap_setBlock_same hb _⟩⟩
  rcases find_ents he x with ⟨h1, h2⟩ | ⟨j, e0, p, h1, h2, rfl, h3, h4, h5⟩
  · have hf := run_findKey (P := P) (w := w) hk h2
    refine ⟨setBlock w b (.map es clock), ?_, ⟨_, _, heap_setBlock_same hb _, hs, by rw [rm_none h1]; exact he⟩, hfr _ _⟩
    simp [Builtin.delete_, run_underlying ht, MapKept.run_getObj_map hb, hc, hf, Result.andThen, MapKept.run_setObj_map _ hb, setBlock]
  · have hf := run_findKey (P := P) (w := w) hk h5
    refine ⟨setBlock w b (.map (es.eraseIdxIfInBounds j) clock), ?_, ⟨_, _, heap_setBlock_same hb _, stamped_erase hs j, ?_⟩, hfr _ _⟩
    · simp [Builtin.delete_, run_underlying ht, MapKept.run_getObj_map hb, hc, hf, Result.andThen, MapKept.run_setObj_map _ hb, setBlock]
    · have hj : j < es.size := by have := lt_of_getElem? h1; simpa using this
      rw [← rm_erase hn h2]
      simp only [Array.eraseIdxIfInBounds, dif_pos hj, Array.toList_eraseIdx]
      rw [map_erase, he]
      simp only [entsOf, map_erase]
end

theorem keys_up (l : Ents) (x : BS) (v : Value) (y : BS) : y ∈ keysL (up l x v) ↔ y = x ∨ y ∈ keysL l := by
  unfold up
  split
  · rename_i h
    have e : keysL (l.map fun p => if p.1 = x then (x, v) else p) = keysL l := by
      simp only [keysL, List.map_map]
      refine List.map_congr_left fun p _ => ?_
      simp only [Function.comp]
      split
      · rename_i h; exact h.symm
      · rfl
    rw [e]
    exact ⟨.inr, fun h' => h'.elim (fun e => e ▸ h) _root_.id⟩
  · simp [keysL, or_comm]
theorem lk_up (l : Ents) (x : BS) (v : Value) (y : BS) : lk (up l x v) y = if y = x then some v else lk l y := by
  have h1 : ∀ l : Ents, lk (l ++ [(x, v)]) y = (lk l y).or (if x = y then some v else none) := by
    intro l
    induction l with
    | nil => simp [lk]
    | cons p l ih =>
      simp only [List.cons_append, lk]
      split
      · simp
      · exact ih
  have h2 : ∀ l : Ents, lk (l.map fun p => if p.1 = x then (x, v) else p) y = if y = x ∧ x ∈ keysL l then some v else lk l y := by
    intro l
    induction l with
    | nil => simp [lk, keysL]
    | cons p l ih =>
      simp only [List.map_cons, lk, ih]
      by_cases hp : p.1 = x
      · by_cases hy : y = x
        · subst hy; simp [hp, keysL]
        · have : ¬ x = y := fun e => hy e.symm
          simp [hp, hy, this]
      · by_cases hy : y = x
        · subst hy
          have : ¬ y = p.1 := fun e => hp e.symm
          simp only [hp, if_false, keysL, List.map_cons, List.mem_cons, this, false_or]
        · simp [hp, hy]
  unfold up
  split
  · rename_i h; rw [h2]; simp [h]
  · rename_i h
    rw [h1]
    by_cases hy : y = x
    · subst hy; simp [lk_none h]
    · have : ¬ x = y := fun e => hy e.symm
      simp [this, hy]
theorem keys_rm (l : Ents) (x y : BS) : y ∈ keysL (rm l x) ↔ y ≠ x ∧ y ∈ keysL l := by
  simp only [keysL, rm, List.mem_map, List.mem_filter, decide_eq_true_eq]
  constructor
  · rintro ⟨p, ⟨h1, h2⟩, rfl⟩; exact ⟨h2, p, h1, rfl⟩
  · rintro ⟨h, p, h1, rfl⟩; exact ⟨p, ⟨h1, h⟩, rfl⟩
theorem lk_rm (l : Ents) (x y : BS) : lk (rm l x) y = if y = x then none else lk l y := by
  split
  · rename_i h; exact lk_none (fun hm => ((keys_rm l x y).1 hm).1 h)
  · rename_i h
    induction l with
    | nil => rfl
    | cons p l ih =>
      by_cases hp : p.1 = x
      · have : rm (p :: l) x = rm l x := by simp [rm, List.filter_cons, hp]
        rw [this, ih, lk, if_neg (fun e => h (e.symm.trans hp))]
      · have : rm (p :: l) x = p :: rm l x := by simp [rm, List.filter_cons, hp]
        rw [this, lk, lk, ih]
theorem len_up (l : Ents) (x : BS) (v : Value) : (up l x v).length = if x ∈ keysL l then l.length else l.length + 1 := by
  unfold up; split <;> simp
theorem len_rm (l : Ents) (x : BS) : (rm l x).length ≤ l.length := List.length_filter_le _ _
end Go.Proofs.YtppgjglfoibfcaaGreat
