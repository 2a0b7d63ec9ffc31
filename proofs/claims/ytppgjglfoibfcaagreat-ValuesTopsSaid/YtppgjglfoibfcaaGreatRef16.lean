import Derived.Test.YtppgjglfoibfcaaGreatRef04b
import Derived.StillTailTactics
import Derived.Deep.Cut
import Derived.Deep.RegionWith
/-
  What the reference's functions on graphs come to.
-/
set_option linter.unusedSimpArgs false
set_option linter.unusedVariables false
namespace Go.Proofs.YtppgjglfoibfcaaGreat
open Go.RowKit

/-- A slice of nodes (an ID, predecessors). -/
def Nodes (w : World) (v : Value) (g : G) : Prop :=
  ∃ cs, Sl w v g.length 2 cs ∧ ∀ i n, g[i]? = some n → ∃ pv, cs[i * 2]? = some (.string n.id) ∧ cs[i * 2 + 1]? = some pv ∧ Strs w pv n.preds
theorem Nodes.fr {S : List Nat} {w w' : World} {v : Value} {g : G} (h : Nodes w v g) (hf : Fr S w w') : Nodes w' v g := by
  obtain ⟨cs, h1, h2⟩ := h
  exact ⟨cs, h1.fr hf, fun i n hn => by obtain ⟨pv, h3, h4, h5⟩ := h2 i n hn; exact ⟨pv, h3, h4, h5.fr hf⟩⟩
theorem Nodes.nil (w : World) : Nodes w (.slice none 0 0) [] := ⟨[], Sl.nil w 2, fun i n h => by simp at h⟩
theorem Nodes.form {w : World} {v : Value} {g : G} (h : Nodes w v g) : ∃ a c, v = .slice a g.length c ∧ g.length ≤ c ∧ c ≤ maxLen ∧ g.length ≤ 140737488355328 := by
  obtain ⟨cs, h1, _⟩ := h; exact h1.form
theorem Nodes.at_ {P : Program} {w : World} {a : Option Addr} {n c : Nat} {g : G} (h : Nodes w (.slice a n c) g) (hn : n = g.length) (t e : TypeId)
    (ht : P.underlying t = some (.slice e)) (hs : ∀ W, (sizeOf e).run P W = .ok 2 W) (k : Nat) (x : Nd) (hx : g[k]? = some x) :
    ∃ b o pv, (∀ W, (Instr.indexAt t (.slice a n c) (.int .i64 (k : Int))).run P W = .ok (.pointer (some ⟨b, o, none⟩)) W) ∧ w.cell? ⟨b, o, none⟩ = some (.string x.id) ∧
      w.cell? ⟨b, o + 1, none⟩ = some pv ∧ Strs w pv x.preds := by
  subst hn
  obtain ⟨cs, h1, h2⟩ := h
  obtain ⟨pv, h3, h4, h5⟩ := h2 k x hx
  obtain ⟨b, o, h6, h7⟩ := Sl.at_ (P := P) h1 t e ht hs k (lt_of_getElem? hx)
  refine ⟨b, o + k * 2, pv, h6, ?_, ?_, h5⟩
  · have := h7 0 _ (by omega) h3; simpa using this
  · exact h7 1 _ (by omega) h4

theorem ids_take (g : G) (k : Nat) : ids (g.take k) = (ids g).take k := by simp [ids, List.map_take]
theorem mem_ids_take {g : G} {k : Nat} {n : Nd} (hx : g[k]? = some n) (y : BS) : y ∈ ids (g.take (k + 1)) ↔ y ∈ ids (g.take k) ∨ y = n.id := by
  rw [take_snoc hx]; simp [ids]

/-- What find answers. -/
def fnd (g : G) (x : BS) (r : Int) : Prop := (r = -1 ∧ x ∉ ids g) ∨ ∃ i n, r = (i : Nat) ∧ g[i]? = some n ∧ n.id = x ∧ x ∉ ids (g.take i)

set_option maxHeartbeats 1000000 in
theorem find16 (v : Value) (g : G) (id : BS) (w : World) (hs : Nodes w v g) :
    Calls Tryz.prog 124 #[.agg #[v], .string id] w fun e w' => ∃ r, e = .returned (.int .i64 r) ∧ fnd g id r ∧ Fr [] w w' := by
  obtain ⟨a, c, rfl, hc, hm, hn⟩ := hs.form
  obtain ⟨n, hnx⟩ : ∃ n, n = g.length := ⟨_, rfl⟩
  rw [← hnx] at hs hc hn ⊢
  have Hn := Lib.hid hnx; clear hnx
  have f0 := (Fr.refl w).alloc (.cells #[.slice a n c] 30)
  have hs := hs.fr f0
  go_enter Tryz.func124, Tryz.ntmps124
  go_wp2
  go_loop [5] (fun i => ∃ k : Nat, k ≤ n ∧ i = .int .i64 k ∧ id ∉ ids (g.take k)) (fun i => n - (intOf i).toNat)
  case atStart => exact ⟨0, Nat.zero_le _, rfl, by simp [ids]⟩
  case round =>
    obtain ⟨k, hk, rfl, hno⟩ := hrel
    have Hno := Lib.hid hno; clear hno
    by_cases hlt : k < n
    · obtain ⟨x, hx⟩ : ∃ x, g[k]? = some x := ⟨_, List.getElem?_eq_getElem (Hn.out ▸ hlt)⟩
      obtain ⟨b, o, pv, hidx, hcell, _, _⟩ := hs.at_ Hn.out 28 200 Tryz.underlying28 Tryz.sizeOf200 k x hx
      have Hx := Lib.hid hx; clear hx
      by_cases hq : x.id = id
      · have hb := beq_tt hq
        have Hq := Lib.hid hq; clear hq
        go_wp2
        go_ret
        exact ⟨k, rfl, .inr ⟨k, x, rfl, Hx.out, Hq.out, Hno.out⟩, f0⟩
      · have hb := beq_ff hq
        have Hq := Lib.hid hq; clear hq
        go_wp2
        go_round
        case rel => exact ⟨k + 1, by omega, by go_num, fun h => by rcases (mem_ids_take Hx.out id).1 h with h | h; exact Hno.out h; exact Hq.out h.symm⟩
        case measure => simp [intOf]; omega
    · go_wp2
      go_ret
      have h1 := Hno.out
      rw [List.take_of_length_le (by have := Hn.out; omega)] at h1
      exact ⟨-1, rfl, .inl ⟨rfl, h1⟩, f0⟩

theorem fnd_has {g : G} {x : BS} {r : Int} (h : fnd g x r) : (decide (0 ≤ r) = decide (x ∈ ids g)) := by
  rcases h with ⟨rfl, h⟩ | ⟨i, n, rfl, h1, h2, _⟩
  · simp [h]
  · have : x ∈ ids g := List.mem_map.2 ⟨n, List.mem_of_getElem? h1, h2⟩
    simp [this]

set_option maxHeartbeats 1000000 in
theorem has16 (v : Value) (g : G) (id : BS) (w : World) (hs : Nodes w v g) :
    Calls Tryz.prog 83 #[.agg #[v], .string id] w fun e w' => e = .returned (.bool (decide (id ∈ ids g))) ∧ Fr [] w w' := by
  have f0 := (Fr.refl w).alloc (.cells #[v] 30)
  have hs := hs.fr f0
  go_enter Tryz.func83, Tryz.ntmps83
  go_wp2_with (go_at_call 124; refine (find16 _ _ _ _ hs).mono ?_; rintro e w' ⟨r, rfl, hr, hf⟩)
  go_ret
  exact ⟨ret_bool (fnd_has hr), f0.then hf⟩

theorem find_preds {g : G} {x : BS} {i : Nat} {n : Nd} (h1 : g[i]? = some n) (h2 : n.id = x) (h3 : x ∉ ids (g.take i)) : preds g x = n.preds := by
  induction g generalizing i with
  | nil => simp at h1
  | cons m g ih =>
    cases i with
    | zero =>
      obtain rfl : m = n := by simpa using h1
      simp [preds, List.find?_cons, h2]
    | succ i =>
      have hm : m.id ≠ x := fun e => h3 (by simp [ids, e])
      have := ih (i := i) (by simpa using h1) (fun h => h3 (by simp only [List.take_succ_cons, ids, List.map_cons, List.mem_cons]; exact .inr h))
      rw [← this]
      simp [preds, List.find?_cons, hm]
theorem preds_none {g : G} {x : BS} (h : x ∉ ids g) : preds g x = [] := by
  have : g.find? (fun n => decide (n.id = x)) = none := by
    rw [List.find?_eq_none]
    intro n hn e
    exact h (List.mem_map.2 ⟨n, hn, by simpa using e⟩)
  simp [preds, this]

set_option maxHeartbeats 1000000 in
theorem preds16 (v : Value) (g : G) (id : BS) (w : World) (hs : Nodes w v g) :
    Calls Tryz.prog 48 #[.agg #[v], .string id] w fun e w' => ∃ u, e = .returned u ∧ Strs w' u (preds g id) ∧ Fr [] w w' := by
  obtain ⟨a, c, rfl, hc, hm, hn⟩ := hs.form
  obtain ⟨n, hnx⟩ : ∃ n, n = g.length := ⟨_, rfl⟩
  rw [← hnx] at hs hc hn ⊢
  have Hn := Lib.hid hnx; clear hnx
  have f0 := (Fr.refl w).alloc (.cells #[.slice a n c] 30)
  have hs := hs.fr f0
  go_enter Tryz.func48, Tryz.ntmps48
  go_upto_region 2 with (go_at_call 124; refine (find16 _ _ _ _ hs).mono ?_; rintro e w' ⟨r, rfl, hr, hf⟩)
  have hc1 := hf.cell (World.cell?_alloc_new (w := w) #[.slice a n c] 30 0)
  have hs := hs.fr hf
  have Hr := Lib.hid hr; clear hr
  by_cases h0 : r < 0
  · have hb : decide (r < 0) = true := by simpa using h0
    go_wp2
    go_ret
    refine ⟨_, rfl, ?_, f0.then hf⟩
    rcases Hr.out with ⟨_, h⟩ | ⟨i, n', hi, _⟩
    · rw [preds_none h]; exact Strs.nil _
    · omega
  · have hb : decide (r < 0) = false := by simpa using h0
    obtain ⟨k, hk⟩ : ∃ k : Nat, (k : Int) = r := ⟨r.toNat, by omega⟩
    subst hk
    obtain ⟨x, hx, hx1, hx2⟩ : ∃ x, g[k]? = some x ∧ x.id = id ∧ id ∉ ids (g.take k) := by
      rcases Hr.out with ⟨h, _⟩ | ⟨i, n', hi, h1, h2, h3⟩
      · omega
      · obtain rfl : i = k := by omega
        exact ⟨n', h1, h2, h3⟩
    obtain ⟨b, o, pv, hidx, _, hcell, hp⟩ := hs.at_ Hn.out 28 200 Tryz.underlying28 Tryz.sizeOf200 k x hx
    have hkn : k < n := by have := lt_of_getElem? hx; have := Hn.out; omega
    have fin := find_preds hx hx1 hx2
    have Fin := Lib.hid fin; clear fin hx hx1
    go_wp2
    go_ret
    exact ⟨_, rfl, by rw [Fin.out]; exact hp, f0.then hf⟩

theorem kids_snoc {g : G} {k : Nat} {n : Nd} {id : BS} (hx : g[k]? = some n) :
    ((g.take (k + 1)).filter fun n => decide (id ∈ n.preds)).map (·.id) = ((g.take k).filter fun n => decide (id ∈ n.preds)).map (·.id) ++ if id ∈ n.preds then [n.id] else [] := by
  rw [take_snoc hx, List.filter_append, List.map_append]
  split <;> simp [*]

set_option maxHeartbeats 1000000 in
theorem kids16 (v : Value) (g : G) (id : BS) (w : World) (hs : Nodes w v g) (hl : g.length ≤ 1000000) :
    Calls Tryz.prog 211 #[.agg #[v], .string id] w fun e w' => ∃ u, e = .returned u ∧ Strs w' u (kids g id) ∧ Fr [] w w' := by
  obtain ⟨a, c, rfl, hc, hm, hn⟩ := hs.form
  obtain ⟨n, hnx⟩ : ∃ n, n = g.length := ⟨_, rfl⟩
  rw [← hnx] at hs hc hn hl ⊢
  have Hn := Lib.hid hnx; clear hnx
  have f0 := (Fr.refl w).alloc (.cells #[.slice a n c] 30)
  go_enter Tryz.func211, Tryz.ntmps211
  go_wp2
  have hs := hs.fr f0
  have hc0 := World.cell?_alloc_new (w := w) #[.slice a n c] 30 0
  go_loopw [5, 6] (fun u i wr => ∃ k : Nat, k ≤ n ∧ i = .int .i64 k ∧ wr.ownsRow (w.heap.size + 1) 9 1 u (((g.take k).filter fun n => decide (id ∈ n.preds)).map (·.id)).length ((((g.take k).filter fun n => decide (id ∈ n.preds)).map (·.id)).map .string) ∧ Fr [] (w.alloc (.cells #[.slice a n c] 30)) wr) (fun _ i _ => n - (intOf i).toNat)
  case atStart => exact ⟨0, Nat.zero_le _, rfl, World.ownsRow_nil _ _ _ _, .refl _⟩
  case round =>
    obtain ⟨k, hk, rfl, hsu, hf⟩ := hrel
    have hs := hs.fr hf
    have hc1 := hf.cell hc0
    have hlu : (((g.take k).filter fun n => decide (id ∈ n.preds)).map (·.id)).length ≤ 1000000 := by
      have := List.length_filter_le (fun n : Nd => decide (id ∈ n.preds)) (g.take k); simp only [List.length_take, List.length_map] at this ⊢; omega
    by_cases hlt : k < n
    · obtain ⟨x, hx⟩ : ∃ x, g[k]? = some x := ⟨_, List.getElem?_eq_getElem (Hn.out ▸ hlt)⟩
      obtain ⟨b, o, pv, hidx, hcell, hcell1, hp⟩ := hs.at_ Hn.out 28 200 Tryz.underlying28 Tryz.sizeOf200 k x hx
      have Hx := Lib.hid hx; clear hx
      by_cases hr : id ∈ x.preds
      · have hr' : decide (id ∈ x.preds) = true := decide_eq_true hr
        have Hr := Lib.hid hr; clear hr
        go_wp2_with (first
          | (go_at_call 55; refine (has04 _ _ _ _ hp).mono ?_; rintro e w' ⟨rfl, rfl⟩)
          | (at_builtin; refine wpList_appS rfl _ _ rfl _ _ _ rfl (own_fr hsu ((Fr.refl _).alloc _)) _ _ rfl (strs_new _ x.id) (by simp only [List.length_cons, List.length_nil]; omega) (by have := hf.size; simp at this ⊢; omega) ?_; intro v1 w1 hown1 hg1 hat1; have f1 := (hf.alloc (.cells #[.string x.id] 9)).grown hg1 (fun j hj => by have := own_base0 hsu j hj; simpa using this)))
        go_roundw
        case rel => exact ⟨k + 1, by omega, by go_num, by rw [kids_snoc Hx.out, if_pos Hr.out]; exact hown1, f1⟩
        case measure => simp [intOf]; omega
      · have hr' : decide (id ∈ x.preds) = false := decide_eq_false hr
        have Hr := Lib.hid hr; clear hr
        go_wp2_with (first
          | (go_at_call 55; refine (has04 _ _ _ _ hp).mono ?_; rintro e w' ⟨rfl, rfl⟩))
        go_roundw
        case rel => exact ⟨k + 1, by omega, by go_num, by rw [kids_snoc Hx.out, if_neg Hr.out, List.append_nil]; exact hsu, hf⟩
        case measure => simp [intOf]; omega
    · have hsu' := Strs.of_own hsu (by omega)
      go_wp2_with (first
          | (go_at_call 138; refine (of04 _ _ _ hsu' hlu).mono ?_; rintro e w' ⟨u', rfl, hsu', hf'⟩))
      go_ret
      exact ⟨_, rfl, by rw [List.take_of_length_le (by have := Hn.out; omega)] at hsu'; exact hsu', f0.then (hf.then hf')⟩

theorem ids_snoc {g : G} {k : Nat} {n : Nd} (hx : g[k]? = some n) : ids (g.take (k + 1)) = ids (g.take k) ++ [n.id] := by rw [take_snoc hx]; simp [ids]
theorem length_ids (g : G) : (ids g).length = g.length := by simp [ids]

set_option maxRecDepth 100000 in
set_option maxHeartbeats 1000000 in
theorem heads16 (v : Value) (g : G) (w : World) (hs : Nodes w v g) (hl : g.length ≤ 1000000) :
    Calls Tryz.prog 139 #[.agg #[v]] w fun e w' => ∃ u, e = .returned u ∧ Strs w' u (heads g) ∧ Fr [] w w' := by
  obtain ⟨a, c, rfl, hc, hm, hn⟩ := hs.form
  obtain ⟨n, hnx⟩ : ∃ n, n = g.length := ⟨_, rfl⟩
  have hlg := hl
  rw [← hnx] at hs hc hn hl ⊢
  have Hn := Lib.hid hnx; clear hnx
  have f0 := (Fr.refl w).alloc (.cells #[.slice a n c] 30)
  go_enter Tryz.func139, Tryz.ntmps139
  go_wp2
  have hs := hs.fr f0
  have hc0 := World.cell?_alloc_new (w := w) #[.slice a n c] 30 0
  go_loopw [3, 4] (fun u i wr => ∃ k : Nat, k ≤ n ∧ i = .int .i64 k ∧ wr.ownsRow (w.heap.size + 1) 9 1 u ((ids (g.take k)).filter fun x => decide (kids g x = [])).length (((ids (g.take k)).filter fun x => decide (kids g x = [])).map .string) ∧ Fr [] (w.alloc (.cells #[.slice a n c] 30)) wr) (fun _ i _ => n - (intOf i).toNat)
  case atStart => exact ⟨0, Nat.zero_le _, rfl, World.ownsRow_nil _ _ _ _, .refl _⟩
  case round =>
    obtain ⟨k, hk, rfl, hsu, hf⟩ := hrel
    have hs := hs.fr hf
    have hc1 := hf.cell hc0
    have hlu : ((ids (g.take k)).filter fun x => decide (kids g x = [])).length ≤ 1000000 := by
      have := List.length_filter_le (fun x => decide (kids g x = [])) (ids (g.take k)); simp only [length_ids, List.length_take] at this; omega
    by_cases hlt : k < n
    · obtain ⟨x, hx⟩ : ∃ x, g[k]? = some x := ⟨_, List.getElem?_eq_getElem (Hn.out ▸ hlt)⟩
      obtain ⟨b, o, pv, hidx, hcell, hcell1, hp⟩ := hs.at_ Hn.out 28 200 Tryz.underlying28 Tryz.sizeOf200 k x hx
      have Hx := Lib.hid hx; clear hx
      by_cases hr : (kids g x.id).length = 0
      · have hr' : (((kids g x.id).length : Int) == 0) = true := by simp; exact List.eq_nil_of_length_eq_zero hr
        have hr2 : (kids g x.id).isEmpty = true := by simp; exact List.eq_nil_of_length_eq_zero hr
        have Hr := Lib.hid hr; clear hr
        go_upto_region 5 with fail
        go_still_tail 7, (by kernel_rfl)
        change wpList _ _ _ _ _ wr.drew
        have fd := (Fr.refl wr).drew
        obtain ⟨wd, hwd⟩ : ∃ wd, wd = wr.drew := ⟨_, rfl⟩
        rw [← hwd] at fd ⊢
        clear hwd
        have hs := hs.fr fd
        have hc1 := fd.cell hc1
        have hcell := fd.cell hcell
        go_wp2_with (first
          | (go_at_call 211; refine (kids16 _ _ _ _ hs hlg).mono ?_; rintro e w' ⟨u', rfl, hsu', hf'⟩; obtain ⟨a', c', rfl, _, _, _⟩ := hsu'.form; have hf2 := hf.then (fd.then hf'); have hsu := own_fr hsu (fd.then hf'); have hc1 := hf'.cell hc1; have hcell := hf'.cell hcell; have hcell2 := ((Fr.refl w').alloc (.cells #[.string x.id] 9)).cell hcell)
          | (at_builtin; refine wpList_appS rfl _ _ rfl _ _ _ rfl (own_fr hsu ((Fr.refl _).alloc _)) _ _ rfl (strs_new _ x.id) (by simp only [List.length_cons, List.length_nil]; omega) (by have := hf2.size; simp at this ⊢; omega) ?_; intro v1 w1 hown1 hg1 hat1; have f1 := (hf2.alloc (.cells #[.string x.id] 9)).grown hg1 (fun j hj => by have := own_base0 hsu j hj; simpa using this)))
        go_roundw
        case rel => exact ⟨k + 1, by omega, by go_num, by rw [ids_snoc Hx.out, List.filter_append]; simp only [List.filter_cons, List.eq_nil_of_length_eq_zero Hr.out, decide_true, if_true, List.filter_nil]; exact hown1, f1⟩
        case measure => simp [intOf]; omega
      · have hr' : (((kids g x.id).length : Int) == 0) = false := by rw [beq_eq_false_iff_ne]; omega
        have Hr := Lib.hid hr; clear hr
        go_upto_region 5 with fail
        go_still_tail 7, (by kernel_rfl)
        change wpList _ _ _ _ _ wr.drew
        have fd := (Fr.refl wr).drew
        obtain ⟨wd, hwd⟩ : ∃ wd, wd = wr.drew := ⟨_, rfl⟩
        rw [← hwd] at fd ⊢
        clear hwd
        have hs := hs.fr fd
        have hc1 := fd.cell hc1
        have hcell := fd.cell hcell
        go_wp2_with (first
          | (go_at_call 211; refine (kids16 _ _ _ _ hs hlg).mono ?_; rintro e w' ⟨u', rfl, hsu', hf'⟩; obtain ⟨a', c', rfl, _, _, _⟩ := hsu'.form; have hf2 := hf.then (fd.then hf'); have hsu := own_fr hsu (fd.then hf'); have hc1 := hf'.cell hc1; have hcell := hf'.cell hcell; have hcell2 := ((Fr.refl w').alloc (.cells #[.string x.id] 9)).cell hcell))
        go_roundw
        case rel => exact ⟨k + 1, by omega, by go_num, by rw [ids_snoc Hx.out, List.filter_append]; simp only [List.filter_cons, show ¬ kids g x.id = [] from fun e => Hr.out (by rw [e]; rfl), decide_false, Bool.false_eq_true, if_false, List.filter_nil, List.append_nil]; exact hsu, hf2⟩
        case measure => simp [intOf]; omega
    · have hsu' := Strs.of_own hsu (by omega)
      go_wp2_with (first
          | (go_at_call 138; refine (of04 _ _ _ hsu' hlu).mono ?_; rintro e w' ⟨u', rfl, hsu', hf'⟩))
      go_ret
      exact ⟨_, rfl, by rw [List.take_of_length_le (by have := Hn.out; omega)] at hsu'; exact hsu', f0.then (hf.then hf')⟩

end Go.Proofs.YtppgjglfoibfcaaGreat
