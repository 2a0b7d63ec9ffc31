import Derived.Test.YtoaebladjdnfjaaGreatRef04b
import Derived.StillTailTactics
import Derived.Deep.Cut
import Derived.Deep.RegionWith
/-
  What the reference's functions on graphs come to.
-/
set_option linter.unusedSimpArgs false
set_option linter.unusedVariables false
namespace Go.Proofs.YtoaebladjdnfjaaGreat
open Go.RowKit

/-- A slice of nodes (an ID, predecessors). -/
def Nodes (w : World) (v : Value) (g : G) : Prop :=
  ∃ cs, Sl w v g.length 2 cs ∧ ∀ i n, g[i]? = some n → ∃ pv, cs[i * 2]? = some (.string n.id) ∧ cs[i * 2 + 1]? = some pv ∧ Strs w pv n.preds
theorem Nodes.fr {S : List Nat} {w w' : World} {v : Value} {g : G} (h : Nodes w v g) (hf : Fr S w w') : Nodes w' v g := by
  obtain ⟨cs, h1, h2⟩ := h
  exact ⟨cs, h1.fr hf, fun i n hn => by obtain ⟨pv, h3, h4, h5⟩ := h2 i n hn; exact ⟨pv, h3, h4, h5.fr hf⟩⟩
theorem Nodes.nil (w : World) : Nodes w (.slice none 0 0) [] := ⟨[], Sl.nil w 2, fun i n h => by simp at h⟩
theorem Nodes.form {w : World} {v : Value} {g : G} (h : Nodes w v g) : ∃ a c, v = .slice a g.length c ∧ g.length ≤ c ∧ c ≤ maxLen ∧ g.length ≤ 140737488355328 := by
  obtain ⟨cs, h1, _⟩ := h; exact h1.form
theorem Nodes.at_ {P : Program} {w : World} {a : Option Addr} {n c : Nat} {g : G} (h : Nodes w (.slice a n c) g) (hn : n = g.length) (t e : TypeId)
    (ht : P.underlying t = some (.slice e)) (hs : ∀ W, (sizeOf e).run P W = .ok 2 W) (k : Nat) (x : Nd) (hx : g[k]? = some x) :
    ∃ b o pv, (∀ W, (Instr.indexAt t (.slice a n c) (.int .i64 (k : Int))).run P W = .ok (.pointer (some ⟨b, o, none⟩)) W) ∧ w.cell? ⟨b, o, none⟩ = some (.string x.id) ∧
      w.cell? ⟨b, o + 1, none⟩ = some pv ∧ Strs w pv x.preds := by
  subst hn
  obtain ⟨cs, h1, h2⟩ := h
  obtain ⟨pv, h3, h4, h5⟩ := h2 k x hx
  obtain ⟨b, o, h6, h7⟩ := Sl.at_ (P := P) h1 t e ht hs k (lt_of_getElem? hx)
  refine ⟨b, o + k * 2, pv, h6, ?_, ?_, h5⟩
  · have := h7 0 _ (by omega) h3; simpa using this
  · exact h7 1 _ (by omega) h4

theorem ids_take (g : G) (k : Nat) : ids (g.take k) = (ids g).take k := by simp [ids, List.map_take]
theorem mem_ids_take {g : G} {k : Nat} {n : Nd} (hx : g[k]? = some n) (y : BS) : y ∈ ids (g.take (k + 1)) ↔ y ∈ ids (g.take k) ∨ y = n.id := by
  rw [take_snoc hx]; simp [ids]

/-- What find answers. -/
def fnd (g : G) (x : BS) (r : Int) : Prop := (r = -1 ∧ x ∉ ids g) ∨ ∃ i n, r = (i : Nat) ∧ g[i]? = some n ∧ n.id = x ∧ x ∉ ids (g.take i)

set_option maxHeartbeats 1000000 in
theorem find16 (v : Value) (g : G) (id : BS) (w : World) (hs : Nodes w v g) :
    Calls Tryz.prog 73 #[.agg #[v], .string id] w fun e w' => ∃ r, e = .returned (.int .i64 r) ∧ fnd g id r ∧ Fr [] w w' := by
  obtain ⟨a, c, rfl, hc, hm, hn⟩ := hs.form
  obtain ⟨n, hnx⟩ : ∃ n, n = g.length := ⟨_, rfl⟩
  rw [← hnx] at hs hc hn ⊢
  have Hn := Lib.hid hnx; clear hnx
  have f0 := (Fr.refl w).alloc (.cells #[.slice a n c] 29)
  have hs := hs.fr f0
  go_enter Tryz.func73, Tryz.ntmps73
  go_wp2
  go_loop [5] (fun i => ∃ k : Nat, k ≤ n ∧ i = .int .i64 k ∧ id ∉ ids (g.take k)) (fun i => n - (intOf i).toNat)
  case atStart => exact ⟨0, Nat.zero_le _, rfl, by simp [ids]⟩
  case round =>
    obtain ⟨k, hk, rfl, hno⟩ := hrel
    have Hno := Lib.hid hno; clear hno
    by_cases hlt : k < n
    · obtain ⟨x, hx⟩ : ∃ x, g[k]? = some x := ⟨_, List.getElem?_eq_getElem (Hn.out ▸ hlt)⟩
      obtain ⟨b, o, pv, hidx, hcell, _, _⟩ := hs.at_ Hn.out 27 71 Tryz.underlying27 Tryz.sizeOf71 k x hx
      have Hx := Lib.hid hx; clear hx
      by_cases hq : x.id = id
      · have hb := beq_tt hq
        have Hq := Lib.hid hq; clear hq
        go_wp2
        go_ret
        exact ⟨k, rfl, .inr ⟨k, x, rfl, Hx.out, Hq.out, Hno.out⟩, f0⟩
      · have hb := beq_ff hq
        have Hq := Lib.hid hq; clear hq
        go_wp2
        go_round
        case rel => exact ⟨k + 1, by omega, by go_num, fun h => by rcases (mem_ids_take Hx.out id).1 h with h | h; exact Hno.out h; exact Hq.out h.symm⟩
        case measure => simp [intOf]; omega
    · go_wp2
      go_ret
      have h1 := Hno.out
      rw [List.take_of_length_le (by have := Hn.out; omega)] at h1
      exact ⟨-1, rfl, .inl ⟨rfl, h1⟩, f0⟩

theorem fnd_has {g : G} {x : BS} {r : Int} (h : fnd g x r) : (decide (0 ≤ r) = decide (x ∈ ids g)) := by
  rcases h with ⟨rfl, h⟩ | ⟨i, n, rfl, h1, h2, _⟩
  · simp [h]
  · have : x ∈ ids g := List.mem_map.2 ⟨n, List.mem_of_getElem? h1, h2⟩
    simp [this]

set_option maxHeartbeats 1000000 in
theorem has16 (v : Value) (g : G) (id : BS) (w : World) (hs : Nodes w v g) :
    Calls Tryz.prog 42 #[.agg #[v], .string id] w fun e w' => e = .returned (.bool (decide (id ∈ ids g))) ∧ Fr [] w w' := by
  have f0 := (Fr.refl w).alloc (.cells #[v] 29)
  have hs := hs.fr f0
  go_enter Tryz.func42, Tryz.ntmps42
  go_wp2_with (go_at_call 73; refine (find16 _ _ _ _ hs).mono ?_; rintro e w' ⟨r, rfl, hr, hf⟩)
  go_ret
  exact ⟨ret_bool (fnd_has hr), f0.then hf⟩

theorem find_preds {g : G} {x : BS} {i : Nat} {n : Nd} (h1 : g[i]? = some n) (h2 : n.id = x) (h3 : x ∉ ids (g.take i)) : preds g x = n.preds := by
  induction g generalizing i with
  | nil => simp at h1
  | cons m g ih =>
    cases i with
    | zero =>
      obtain rfl : m = n := by simpa using h1
      simp [preds, List.find?_cons, h2]
    | succ i =>
      have hm : m.id ≠ x := fun e => h3 (by simp [ids, e])
      have := ih (i := i) (by simpa using h1) (fun h => h3 (by simp only [List.take_succ_cons, ids, List.map_cons, List.mem_cons]; exact .inr h))
      rw [← this]
      simp [preds, List.find?_cons, hm]
theorem preds_none {g : G} {x : BS} (h : x ∉ ids g) : preds g x = [] := by
  have : g.find? (fun n => decide (n.id = x)) = none := by
    rw [List.find?_eq_none]
    intro n hn e
    exact h (List.mem_map.2 ⟨n, hn, by simpa using e⟩)
  simp [preds, this]

set_option maxHeartbeats 1000000 in
theorem preds16 (v : Value) (g : G) (id : BS) (w : World) (hs : Nodes w v g) :
    Calls Tryz.prog 53 #[.agg #[v], .string id] w fun e w' => ∃ u, e = .returned u ∧ Strs w' u (preds g id) ∧ Fr [] w w' := by
  obtain ⟨a, c, rfl, hc, hm, hn⟩ := hs.form
  obtain ⟨n, hnx⟩ : ∃ n, n = g.length := ⟨_, rfl⟩
  rw [← hnx] at hs hc hn ⊢
  have Hn := Lib.hid hnx; clear hnx
  have f0 := (Fr.refl w).alloc (.cells #[.slice a n c] 29)
  have hs := hs.fr f0
  go_enter Tryz.func53, Tryz.ntmps53
  go_upto_region 2 with (go_at_call 73; refine (find16 _ _ _ _ hs).mono ?_; rintro e w' ⟨r, rfl, hr, hf⟩)
  have hc1 := hf.cell (World.cell?_alloc_new (w := w) #[.slice a n c] 29 0)
  have hs := hs.fr hf
  have Hr := Lib.hid hr; clear hr
  by_cases h0 : r < 0
  · have hb : decide (r < 0) = true := by simpa using h0
    go_wp2
    go_ret
    refine ⟨_, rfl, ?_, f0.then hf⟩
    rcases Hr.out with ⟨_, h⟩ | ⟨i, n', hi, _⟩
    · rw [preds_none h]; exact Strs.nil _
    · omega
  · have hb : decide (r < 0) = false := by simpa using h0
    obtain ⟨k, hk⟩ : ∃ k : Nat, (k : Int) = r := ⟨r.toNat, by omega⟩
    subst hk
    obtain ⟨x, hx, hx1, hx2⟩ : ∃ x, g[k]? = some x ∧ x.id = id ∧ id ∉ ids (g.take k) := by
      rcases Hr.out with ⟨h, _⟩ | ⟨i, n', hi, h1, h2, h3⟩
      · omega
      · obtain rfl : i = k := by omega
        exact ⟨n', h1, h2, h3⟩
    obtain ⟨b, o, pv, hidx, _, hcell, hp⟩ := hs.at_ Hn.out 27 71 Tryz.underlying27 Tryz.sizeOf71 k x hx
    have hkn : k < n := by have := lt_of_getElem? hx; have := Hn.out; omega
    have fin := find_preds hx hx1 hx2
    have Fin := Lib.hid fin; clear fin hx hx1
    go_wp2
    go_ret
    exact ⟨_, rfl, by rw [Fin.out]; exact hp, f0.then hf⟩

theorem kids_snoc {g : G} {k : Nat} {n : Nd} {id : BS} (hx : g[k]? = some n) :
    ((g.take (k + 1)).filter fun n => decide (id ∈ n.preds)).map (·.id) = ((g.take k).filter fun n => decide (id ∈ n.preds)).map (·.id) ++ if id ∈ n.preds then [n.id] else [] := by
  rw [take_snoc hx, List.filter_append, List.map_append]
  split <;> simp [*]

theorem ids_snoc {g : G} {k : Nat} {n : Nd} (hx : g[k]? = some n) : ids (g.take (k + 1)) = ids (g.take k) ++ [n.id] := by rw [take_snoc hx]; simp [ids]
theorem length_ids (g : G) : (ids g).length = g.length := by simp [ids]

end Go.Proofs.YtoaebladjdnfjaaGreat
