import Derived.Test.YtppgjglfoibfcaaGreatOrder
import Derived.Deep.RegionWith
set_option linter.unusedSimpArgs false
set_option linter.unusedVariables false
/-
  What is past: the plain laws, and the reference's walk.
-/
namespace Go.Proofs.YtppgjglfoibfcaaGreat
open Go.RowKit

theorem Reach.snoc {g : G} {y z x : BS} (h : Reach g y z) (hx : x ∈ preds g z) : Reach g y x := by
  induction h with
  | refl z => exact .step hx (.refl x)
  | step hp _ ih => exact .step hp (ih hx)
theorem Reach.trans {g : G} {y z x : BS} (h : Reach g y z) (k : Reach g z x) : Reach g y x := by
  induction h with
  | refl z => exact k
  | step hp _ ih => exact .step hp (ih k)
theorem Reach.last {g : G} {y x : BS} (h : Reach g y x) : x = y ∨ ∃ z, Reach g y z ∧ x ∈ preds g z := by
  induction h with
  | refl z => exact .inl rfl
  | step hp hr ih =>
    rename_i y p x
    rcases ih with rfl | ⟨z, h1, h2⟩
    · exact .inr ⟨y, .refl y, hp⟩
    · exact .inr ⟨z, .step hp h1, h2⟩
theorem preds_at {g : G} (hw : Wf g) {i : Nat} {n : Nd} (h : g[i]? = some n) : preds g n.id = n.preds := find_preds h rfl (hw i n h).2.2.1
theorem mem_preds {g : G} (hw : Wf g) {z x : BS} (h : x ∈ preds g z) : ∃ i n, g[i]? = some n ∧ n.id = z ∧ x ∈ n.preds ∧ x ∈ ids (g.take i) := by
  by_cases hz : z ∈ ids g
  · obtain ⟨n, hn, rfl⟩ := List.mem_map.1 hz
    obtain ⟨i, hi⟩ := List.mem_iff_getElem?.1 hn
    rw [preds_at hw hi] at h
    exact ⟨i, n, hi, rfl, h, (hw i n hi).2.2.2 x h⟩
  · rw [preds_none hz] at h; simp at h
theorem preds_in {g : G} (hw : Wf g) {z x : BS} (h : x ∈ preds g z) : x ∈ ids g := by
  obtain ⟨i, n, _, _, _, h⟩ := mem_preds hw h
  rw [ids_take] at h; exact List.mem_of_mem_take h
theorem reach_in {g : G} (hw : Wf g) {y x : BS} (h : Reach g y x) (hy : y ∈ ids g) : x ∈ ids g := by
  induction h with
  | refl => exact hy
  | step hp _ ih => exact ih (preds_in hw hp)
/-- Where an ID stands. -/
theorem at_uniq {g : G} (hw : Wf g) {i j : Nat} {n m : Nd} (h : g[i]? = some n) (k : g[j]? = some m) (e : n.id = m.id) : i = j := by
  rcases Nat.lt_trichotomy i j with hl | hl | hl
  · refine absurd ?_ (hw j m k).2.2.1
    rw [← e]; exact List.mem_map.2 ⟨n, List.mem_of_getElem? (by rw [List.getElem?_take_of_lt hl]; exact h), rfl⟩
  · exact hl
  · refine absurd ?_ (hw i n h).2.2.1
    rw [e]; exact List.mem_map.2 ⟨m, List.mem_of_getElem? (by rw [List.getElem?_take_of_lt hl]; exact k), rfl⟩
theorem mem_ids_take_iff {g : G} {i : Nat} {x : BS} : x ∈ ids (g.take i) ↔ ∃ j n, j < i ∧ g[j]? = some n ∧ n.id = x := by
  constructor
  · intro h
    obtain ⟨n, hn, rfl⟩ := List.mem_map.1 h
    obtain ⟨j, hj⟩ := List.mem_iff_getElem?.1 hn
    have hlt := lt_of_getElem? hj
    have hji : j < i := by simp at hlt; omega
    exact ⟨j, n, hji, by rwa [List.getElem?_take_of_lt hji] at hj, rfl⟩
  · rintro ⟨j, n, hji, hj, rfl⟩
    exact List.mem_map.2 ⟨n, List.mem_of_getElem? (by rw [List.getElem?_take_of_lt hji]; exact hj), rfl⟩

/-- What is past l. -/
def PastP (g : G) (l : List BS) (x : BS) : Prop := ∃ y ∈ l, y ∈ ids g ∧ Reach g y x
/-- What stands from place i on, and is past. -/
def Out (g : G) (l : List BS) (i : Nat) (out : List BS) : Prop := ∀ x, x ∈ out ↔ ∃ (j : Nat) (n : Nd), i ≤ j ∧ g[j]? = some n ∧ n.id = x ∧ PastP g l x
/-- The marks: of which a follower from place i on is past. -/
def In (g : G) (l : List BS) (i : Nat) (b : List Bool) : Prop := ∀ k : Nat, b[k]? = some true ↔ ∃ (m : Nd) (j : Nat) (n : Nd), g[k]? = some m ∧ i ≤ j ∧ g[j]? = some n ∧ PastP g l n.id ∧ m.id ∈ n.preds

theorem sel_iff {g : G} (hw : Wf g) {l : List BS} {j : Nat} {n : Nd} {b : List Bool} (hn : g[j]? = some n) (hb : In g l (j + 1) b) : (b[j]? = some true ∨ n.id ∈ l) ↔ PastP g l n.id := by
  constructor
  · rintro (h | h)
    · obtain ⟨m, k, n', hm, _, hk, ⟨y, hy, hyi, hr⟩, hp⟩ := (hb j).1 h
      rw [hn] at hm; injection hm with hm; subst hm
      exact ⟨y, hy, hyi, hr.snoc (by rw [preds_at hw hk]; exact hp)⟩
    · exact ⟨n.id, h, List.mem_map.2 ⟨n, List.mem_of_getElem? hn, rfl⟩, .refl _⟩
  · rintro ⟨y, hy, hyi, hr⟩
    rcases hr.last with e | ⟨z, hz, hx⟩
    · exact .inr (e ▸ hy)
    · obtain ⟨k, n', hk, rfl, hp, ht⟩ := mem_preds hw hx
      obtain ⟨j', m, hj', hm, e⟩ := mem_ids_take_iff.1 ht
      obtain rfl := at_uniq hw hm hn e
      exact .inl ((hb j').2 ⟨n, k, n', hn, by omega, hk, ⟨y, hy, hyi, hz⟩, hp⟩)
theorem Out.step_yes {g : G} {l : List BS} {j : Nat} {n : Nd} {out : List BS} (hn : g[j]? = some n) (h : Out g l (j + 1) out) (hp : PastP g l n.id) : Out g l j (out ++ [n.id]) := by
  intro x
  rw [List.mem_append, h x, List.mem_singleton]
  constructor
  · rintro (⟨k, m, h1, h2, h3, h4⟩ | rfl)
    · exact ⟨k, m, by omega, h2, h3, h4⟩
    · exact ⟨j, n, Nat.le_refl _, hn, rfl, hp⟩
  · rintro ⟨k, m, h1, h2, h3, h4⟩
    rcases Nat.eq_or_lt_of_le h1 with e | e
    · subst e; rw [hn] at h2; injection h2 with h2; subst h2; exact .inr h3.symm
    · exact .inl ⟨k, m, e, h2, h3, h4⟩
theorem Out.step_no {g : G} {l : List BS} {j : Nat} {n : Nd} {out : List BS} (hn : g[j]? = some n) (h : Out g l (j + 1) out) (hp : ¬ PastP g l n.id) : Out g l j out := by
  intro x
  rw [h x]
  constructor
  · rintro ⟨k, m, h1, h2, h3, h4⟩; exact ⟨k, m, by omega, h2, h3, h4⟩
  · rintro ⟨k, m, h1, h2, h3, h4⟩
    rcases Nat.eq_or_lt_of_le h1 with e | e
    · subst e; rw [hn] at h2; injection h2 with h2; subst h2; subst h3; exact absurd h4 hp
    · exact ⟨k, m, e, h2, h3, h4⟩
theorem In.step_no {g : G} {l : List BS} {j : Nat} {n : Nd} {b : List Bool} (hn : g[j]? = some n) (h : In g l (j + 1) b) (hp : ¬ PastP g l n.id) : In g l j b := by
  intro k
  rw [h k]
  constructor
  · rintro ⟨m, q, n', h1, h2, h3, h4, h5⟩; exact ⟨m, q, n', h1, by omega, h3, h4, h5⟩
  · rintro ⟨m, q, n', h1, h2, h3, h4, h5⟩
    rcases Nat.eq_or_lt_of_le h2 with e | e
    · subst e; rw [hn] at h3; injection h3 with h3; subst h3; exact absurd h4 hp
    · exact ⟨m, q, n', h1, e, h3, h4, h5⟩
/-- In the midst of a node's predecessors. -/
def InQ (g : G) (b0 : List Bool) (ps : List BS) (b : List Bool) : Prop := ∀ k : Nat, b[k]? = some true ↔ b0[k]? = some true ∨ ∃ m : Nd, g[k]? = some m ∧ m.id ∈ ps
theorem InQ.done {g : G} {l : List BS} {j : Nat} {n : Nd} {b0 b : List Bool} (hn : g[j]? = some n) (h : In g l (j + 1) b0) (hp : PastP g l n.id) (hq : InQ g b0 n.preds b) : In g l j b := by
  intro k
  rw [hq k, h k]
  constructor
  · rintro (⟨m, q, n', h1, h2, h3, h4, h5⟩ | ⟨m, h1, h2⟩)
    · exact ⟨m, q, n', h1, by omega, h3, h4, h5⟩
    · exact ⟨m, j, n, h1, Nat.le_refl _, hn, hp, h2⟩
  · rintro ⟨m, q, n', h1, h2, h3, h4, h5⟩
    rcases Nat.eq_or_lt_of_le h2 with e | e
    · subst e; rw [hn] at h3; injection h3 with h3; subst h3; exact .inr ⟨m, h1, h5⟩
    · exact .inl ⟨m, q, n', h1, e, h3, h4, h5⟩
theorem InQ.step {g : G} (hw : Wf g) {b0 b : List Bool} {ps : List BS} {q k : Nat} {y : BS} {m : Nd} (h : InQ g b0 (ps.take q) b) (hy : ps[q]? = some y) (hm : g[k]? = some m) (hmy : m.id = y) (hk : k < b.length) : InQ g b0 (ps.take (q + 1)) (b.set k true) := by
  intro j
  rw [List.getElem?_set]
  by_cases hkj : k = j
  · subst hkj
    simp only [if_pos, hk]
    refine ⟨fun _ => .inr ⟨m, hm, (mem_take_succ hy).2 (.inr hmy)⟩, fun _ => trivial⟩
  · rw [if_neg hkj, h j]
    constructor
    · rintro (h1 | ⟨m', h1, h2⟩)
      · exact .inl h1
      · exact .inr ⟨m', h1, (mem_take_succ hy).2 (.inl h2)⟩
    · rintro (h1 | ⟨m', h1, h2⟩)
      · exact .inl h1
      · rcases (mem_take_succ hy).1 h2 with h2 | h2
        · exact .inr ⟨m', h1, h2⟩
        · exact absurd (at_uniq hw hm h1 (by rw [hmy, h2])) hkj
theorem isPast_of_out {g : G} (hw : Wf g) {l out : List BS} (h : Out g l 0 out) : IsPast g l (ofL out) := by
  refine ⟨rising_ofL _, fun x => ?_⟩
  rw [mem_ofL, h x]
  constructor
  · rintro ⟨⟨j, n, _, hj, rfl, hp⟩, _⟩; exact hp
  · intro hp
    obtain ⟨y, hy, hyi, hr⟩ := hp
    have hx := reach_in hw hr hyi
    obtain ⟨n, hn, rfl⟩ := List.mem_map.1 hx
    obtain ⟨j, hj⟩ := List.mem_iff_getElem?.1 hn
    exact ⟨⟨j, n, Nat.zero_le _, hj, rfl, ⟨y, hy, hyi, hr⟩⟩, hw.right hx⟩
theorem isPast_ext {g : G} {l a b : List BS} (ha : IsPast g l a) (hb : IsPast g l b) : a = b := rising_ext ha.1 hb.1 fun x => (ha.2 x).trans (hb.2 x).symm

/-- One cell of an own row. -/
theorem own_at {P : Program} {w : World} {base e n : Nat} {v : Value} {xs : List Value} (h : w.ownsRow base e 1 v n xs) (t : TypeId) (ht : P.underlying t = some (.slice e)) (hs : ∀ W, (sizeOf e).run P W = .ok 1 W) (k : Nat) (hk : k < n) :
    ∃ g, v.ownBlock = some g ∧ base ≤ g ∧ g < w.heap.size ∧ (∀ W, (Instr.indexAt t v (.int .i64 (k : Int))).run P W = .ok (.pointer (some ⟨g, k, none⟩)) W) ∧
      (∀ x, xs[k]? = some x → w.cell? ⟨g, k, none⟩ = some x) ∧ w.frozen? ⟨g, k, none⟩ = false ∧
      ∀ u, (w.setCell ⟨g, k, none⟩ u).ownsRow base e 1 v n (xs.set k u) ∧ w.grownBy (w.setCell ⟨g, k, none⟩ u) (some g) := by
  rcases h.2 with ⟨rfl, rfl⟩ | ⟨g, cap, cur, rfl, hb, hg, h1, h2, h3, h4⟩
  · omega
  · have he : P.elem t = e := by unfold Program.elem; rw [ht]
    refine ⟨g, rfl, hb, (Array.getElem?_eq_some_iff.1 hg).1, fun W => ?_, fun x hx => ?_, ?_, fun u => ⟨⟨?_, .inr ⟨g, cap, cur.setIfInBounds k u, rfl, hb, ?_, h1, h2, ?_, ?_⟩⟩, ?_⟩⟩
    · rw [run_indexAt_slice (P := P) (h := by rw [ht, he]), if_pos ⟨by omega, by omega⟩]
      simp [he, hs, Result.andThen, Addr.add_lit]
    · have := h.cells (g := g) rfl k x hx
      rwa [Addr.add_lit, Nat.zero_add] at this
    · simp [World.frozen?, hg]
    · simp [h.1]
    · simp [World.setCell, Array.getElem?_modify, hg]
    · simp [h3]
    · rw [← h4, Array.toList_setIfInBounds]
      rw [List.take_set]
    · refine ⟨rfl, rfl, rfl, by simp [World.setCell], fun j hj hne => ?_⟩
      exact Below.heap_setCell _ _ _ _ (fun e => hne (by rw [e]))
theorem own_ne {w : World} {b b' e e' s s' n n' : Nat} {v v' : Value} {xs xs' : List Value} (h : w.ownsRow b e s v n xs) (h' : w.ownsRow b' e' s' v' n' xs') (hne : e ≠ e') : v.ownBlock = none ∨ v.ownBlock ≠ v'.ownBlock := by
  rcases h.2 with ⟨rfl, _⟩ | ⟨g, cap, cur, rfl, _, hh, _⟩
  · exact .inl rfl
  · refine .inr fun hk => ?_
    rcases h'.2 with ⟨rfl, _⟩ | ⟨g', cap', cur', rfl, _, hh', _⟩
    · simp [Value.ownBlock] at hk
    · have : g = g' := by simpa [Value.ownBlock] using hk
      subst this
      rw [hh] at hh'
      injection hh' with hh'
      injection hh' with _ ht
      exact hne ht

theorem made_one (z : Value) (n : Nat) : (madeCells #[z] n).toList = List.replicate n z := by
  rw [List.eq_replicate_iff]
  refine ⟨by simp [madeCells], fun b hb => ?_⟩
  simp only [madeCells, Array.toList_map, List.mem_map] at hb
  obtain ⟨i, _, rfl⟩ := hb
  simp [Nat.mod_one]
theorem fnd_pred {g : G} {j q : Nat} {x : Nd} {y : BS} {r : Int} (hw : Wf g) (hx : g[j]? = some x) (hy : x.preds[q]? = some y) (hr : fnd g y r) : ∃ (k : Nat) (m : Nd), r = k ∧ g[k]? = some m ∧ m.id = y ∧ k < j := by
  have hin : y ∈ ids (g.take j) := (hw j x hx).2.2.2 y (List.mem_of_getElem? hy)
  rcases hr with ⟨_, h⟩ | ⟨i, n, rfl, h1, h2, h3⟩
  · exact absurd (by rw [ids_take] at hin; exact List.mem_of_mem_take hin) h
  · obtain ⟨i', m, hi', hm, e⟩ := mem_ids_take_iff.1 hin
    obtain rfl := at_uniq hw h1 hm (by rw [h2, e])
    exact ⟨i, n, rfl, h1, h2, hi'⟩
theorem infoBool : (Tryz.prog.info? 4).map (fun i => (i.zero, i.size, i.bytes)) = some (some (.bool false), 1, 1) := by kernel_rfl
theorem in_start (g : G) (l : List BS) (n : Nat) (hn : n = g.length) : In g l n (List.replicate n false) := by
  intro k
  constructor
  · intro h
    rw [List.getElem?_replicate] at h
    split at h <;> cases h
  · rintro ⟨m, j, n', _, h2, h3, _⟩
    have := lt_of_getElem? h3
    omega
theorem out_start (g : G) (l : List BS) (n : Nat) (hn : n = g.length) : Out g l n [] := by
  intro x
  constructor
  · intro h; simp at h
  · rintro ⟨j, n', h1, h2, _⟩
    have := lt_of_getElem? h2
    omega

set_option maxRecDepth 100000 in
set_option maxHeartbeats 4000000 in
theorem past16 (v lv : Value) (g : G) (l : List BS) (w : World) (hs : Nodes w v g) (hlv : Strs w lv l) (hl : g.length ≤ 1000000) (hwf : Wf g) :
    Calls Tryz.prog 54 #[.agg #[v], lv] w fun e w' => ∃ u out, e = .returned u ∧ Strs w' u out ∧ IsPast g l out ∧ Fr [] w w' := by
  obtain ⟨a, c, rfl, hc, hm, hn⟩ := hs.form
  obtain ⟨n, hnx⟩ : ∃ n, n = g.length := ⟨_, rfl⟩
  rw [← hnx] at hs hc hn hl ⊢
  have Hn := Lib.hid hnx; clear hnx
  have Hwf := Lib.hid hwf; clear hwf
  have f0 := (Fr.refl w).alloc (.cells #[.slice a n c] 30)
  have hs0 := hs.fr f0
  have hlv := hlv.fr f0
  clear hs
  obtain ⟨i0, hi, hz0, hz1, hz2⟩ := info_parts infoBool
  go_enter Tryz.func54, Tryz.ntmps54
  go_upto_region 2 with (at_make; refine wpList_make_full _ rfl _ _ 221 rfl (w.heap.size + 1) 4 i0 (.bool false) 1 Tryz.underlying221 hi hz0 hz1 _ _ _ _ n rfl rfl rfl rfl (by rw [hz2]; omega) (by simp only [maxLen]; omega) (by simp) ?_; intro w1 hin hg1)
  have f1 := (Fr.refl (w.alloc (.cells #[.slice a n c] 30))).grown hg1 (fun k hk => by cases hk)
  have hin0 : w1.ownsRow (w.heap.size + 1) 4 1 (.slice (some ⟨(w.alloc (.cells #[.slice a n c] 30)).heap.size, 0, none⟩) n n) n ((List.replicate n false).map .bool) := by
    have e : (madeCells (Value.bool false).cells (n * 1)).toList = (List.replicate n false).map .bool := by
      rw [Nat.mul_one, List.map_replicate]; exact made_one _ _
    rw [e] at hin; exact hin
  clear hin hi hz0 hz1 hz2
  have hc0 := World.cell?_alloc_new (w := w) #[.slice a n c] 30 0
  have hc1 := f1.cell hc0
  go_wp2
  simp only [World.size_alloc] at hin0
  obtain ⟨bv, hbv⟩ : ∃ bv, bv = Value.slice (some ⟨w.heap.size + 1, 0, none⟩) n n := ⟨_, rfl⟩
  rw [← hbv] at hin0
  have Hbv := Lib.hid hbv; clear hbv
  go_loopw [6, 7] (fun u i wr => ∃ (m : Nat) (z : Int) (b : List Bool) (out : List BS), i = .int .i64 z ∧ z = (m : Int) - 1 ∧ m ≤ n ∧ b.length = n ∧ out.length ≤ n - m ∧
      wr.ownsRow (w.heap.size + 1) 4 1 bv n (b.map .bool) ∧
      wr.ownsRow (w.heap.size + 1) 9 1 u out.length (out.map .string) ∧ Fr [] (w.alloc (.cells #[.slice a n c] 30)) wr ∧ In g l m b ∧ Out g l m out) (fun _ i _ => (intOf i + 1).toNat)
  case atStart => exact ⟨n, _, _, [], rfl, rfl, Nat.le_refl _, by simp, by simp, hin0, World.ownsRow_nil _ _ _ _, f1, in_start g l n Hn.out, out_start g l n Hn.out⟩
  case round =>
    obtain ⟨m, z, bs, out, rfl, hz, hmn, hbl, hol, hin, hout, hf, hIn, hOut⟩ := hrel
    obtain ⟨wo, rfl⟩ : ∃ wo : World, wo = wr := ⟨_, rfl⟩
    have HIn := Lib.hid hIn; clear hIn
    have HOut := Lib.hid hOut; clear hOut
    have Hbl := Lib.hid hbl; clear hbl
    have hlv := hlv.fr hf
    have hc1 := hf.cell hc0
    cases m with
    | zero =>
      obtain rfl : z = -1 := by omega
      clear hz
      have hout' := Strs.of_own hout (by omega)
      go_wp2_with (first
        | (go_at_call 138; refine (of04 _ _ _ hout' (by omega)).mono ?_; rintro e w2 ⟨u', rfl, hsu', hf3⟩))
      go_ret
      exact ⟨_, _, rfl, hsu', isPast_of_out Hwf.out HOut.out, f0.then (hf.then hf3)⟩
    | succ j =>
      obtain rfl : z = (j : Int) := by omega
      clear hz
      obtain ⟨x, hx⟩ : ∃ x, g[j]? = some x := ⟨_, List.getElem?_eq_getElem (by have := Hn.out; omega)⟩
      obtain ⟨b, o, pv, hidx, hcell0, hcell10, hp0⟩ := hs0.at_ Hn.out 28 200 Tryz.underlying28 Tryz.sizeOf200 j x hx
      obtain ⟨pa, pc, rfl, hpc, hpm, hpn⟩ := hp0.form
      obtain ⟨m, hmx⟩ : ∃ m, m = x.preds.length := ⟨_, rfl⟩
      rw [← hmx] at hp0 hpc hpn hcell10
      have hcell := hf.cell hcell0
      have Hm := Lib.hid hmx; clear hmx
      have Hx := Lib.hid hx; clear hx
      obtain ⟨y, hy⟩ : ∃ y, bs[j]? = some y := ⟨_, List.getElem?_eq_getElem (by have := Hbl.out; omega)⟩
      obtain ⟨gb, hgb0, hgb1, hgb2, hidxb, hcellb, hfrb, hsetb⟩ := own_at hin 221 Tryz.underlying221 Tryz.sizeOf4 j (by omega)
      obtain rfl : gb = w.heap.size + 1 := by rw [Hbv.out] at hgb0; simpa [Value.ownBlock] using hgb0.symm
      have hcellb := hcellb (.bool y) (by simp [hy])
      have Hy := Lib.hid hy; clear hy
      clear hidxb hgb0
      have sel0 := sel_iff Hwf.out (l := l) Hx.out HIn.out
      rw [Hy.out] at sel0
      have Sel := Lib.hid sel0; clear sel0
      by_cases hsel : y = true ∨ x.id ∈ l
      · have Hsel := Lib.hid hsel; clear hsel
        have hpp := Sel.out.1 (by simpa using Hsel.out)
        have Hpp := Lib.hid hpp; clear hpp
        have hcellx := ((Fr.refl wo).alloc (.cells #[.string x.id] 9)).cell hcell
        have hcase : y = true ∨ (y = false ∧ decide (x.id ∈ l) = true) := by
          cases y with
          | true => exact .inl rfl
          | false => exact .inr ⟨rfl, decide_eq_true (by simpa using Hsel.out)⟩
        have Hcase := Lib.hid hcase; clear hcase
        rcases Hcase.out with hy1 | ⟨hy1, hm1⟩
        all_goals
          subst hy1
          go_upto_region 8 with (first
            | (go_at_call 55; refine (has04 _ _ _ _ hlv).mono ?_; rintro e w' ⟨rfl, rfl⟩)
            | (at_builtin; refine wpList_appS rfl _ _ rfl _ _ _ rfl (own_fr hout ((Fr.refl _).alloc _)) _ _ rfl (strs_new _ x.id) (by simp only [List.length_cons, List.length_nil]; omega) (by have := hf.size; simp at this ⊢; omega) ?_; intro v1 w2 hown1 hg2 hat1; have g1 := (hf.alloc (.cells #[.string x.id] 9)).grown hg2 (fun j hj => by have := own_base0 hout j hj; simpa using this); have hin2 := (own_fr hin ((Fr.refl wo).alloc (.cells #[.string x.id] 9))).kept hg2 ((own_ne (own_fr hin ((Fr.refl wo).alloc (.cells #[.string x.id] 9))) (own_fr hout ((Fr.refl wo).alloc (.cells #[.string x.id] 9))) (by decide)))))
          clear hcell hcellb hsetb hcellx
          have hc1 := g1.cell hc0
          go_wp2
          go_loopw [8] (fun kq wr => ∃ (q : Nat) (b' : List Bool), kq = .int .i64 q ∧ q ≤ m ∧ b'.length = n ∧ wr.ownsRow (w.heap.size + 1) 4 1 bv n (b'.map .bool) ∧
              wr.ownsRow (w.heap.size + 1) 9 1 v1 (out ++ [x.id]).length ((out ++ [x.id]).map .string) ∧ Fr [] (w.alloc (.cells #[.slice a n c] 30)) wr ∧ InQ g bs (x.preds.take q) b') (fun kq _ => m - (intOf kq).toNat)
          case atStart => exact ⟨0, bs, rfl, Nat.zero_le _, Hbl.out, hin2, hown1, g1, fun k => by simp⟩
          case round =>
            obtain ⟨q, b', rfl, hq, hbl', hin3, hout3, hf3, hIQ⟩ := hrel
            have Hbl' := Lib.hid hbl'; clear hbl'
            have HIQ := Lib.hid hIQ; clear hIQ
            have hs := hs0.fr hf3
            have hp := hp0.fr hf3
            have hc1 := hf3.cell hc0
            have hcell1 := hf3.cell hcell10
            by_cases hlt2 : q < m
            · obtain ⟨yy, hyy⟩ : ∃ y, x.preds[q]? = some y := ⟨_, List.getElem?_eq_getElem (Hm.out ▸ hlt2)⟩
              obtain ⟨b2, o2, hidx2, hcell2⟩ := hp.at_ Hm.out 51 9 Tryz.underlying51 Tryz.sizeOf9 q yy hyy
              have Hyy := Lib.hid hyy; clear hyy
              go_upto_region 11 with fail
              refine wp_region_ordL [(0, false), (1, false), (2, false), (3, false), (4, false), (5, false), (6, false), (7, false), (8, false), (9, false), (10, false), (11, true), (12, false), (13, true)] _ (by kernel_rfl) (by kernel_rfl) (by simp only [pick, List.filterMap_cons, List.filterMap_nil, List.getElem?_cons_succ, List.getElem?_cons_zero, Option.map_some]; rfl) ?_
              have fd := (Fr.refl wr).drew
              have x1 := Ext.cell (fd.cell hc1)
              have x2 := Ext.cell (fd.cell hcell1)
              have x3 := Ext.cell (fd.cell hcell2)
              repeat (with_reducible refine wpO_q (fun K hK => ?_); go_simp; refine hK _ ?_; clear hK K)
              refine wpO_e (fun K hK => ?_)
              go_simp
              intro w4 hw4
              have g4 := fd.then hw4
              refine (find16 _ _ _ _ (hs.fr g4)).mono ?_
              rintro e w5 ⟨r, rfl, hr, hw5⟩
              have g5 := g4.then hw5
              obtain ⟨k', m', rfl, hk', hm', hlt'⟩ := fnd_pred Hwf.out Hx.out Hyy.out hr
              clear hr x1 x2 x3
              refine ⟨_, rfl, hw5, hK _ _ ?_⟩
              clear hK K
              obtain ⟨gb2, hgb20, hgb21, hgb22, hidxb2, hcellb2, hfrb2, hsetb2⟩ := own_at (own_fr hin3 g5) 221 Tryz.underlying221 Tryz.sizeOf4 k' (by omega)
              obtain rfl : gb2 = w.heap.size + 1 := by rw [Hbv.out] at hgb20; simpa [Value.ownBlock] using hgb20.symm
              clear hidxb2 hgb20 hgb22 hcellb2 hfrb2 hsetb2
              have hk'n : k' < n := by omega
              repeat (with_reducible refine wpO_q (fun K hK => ?_); go_simp; refine hK _ ?_; clear hK K)
              refine wpO_e (fun K hK => ?_)
              go_simp
              intro w6 hw6
              have g6 := g5.then hw6
              obtain ⟨gb2, hgb20, hgb21, hgb22, hidxb2, hcellb2, hfrb2, hsetb2⟩ := own_at (own_fr hin3 g6) 221 Tryz.underlying221 Tryz.sizeOf4 k' (by omega)
              obtain rfl : gb2 = w.heap.size + 1 := by rw [Hbv.out] at hgb20; simpa [Value.ownBlock] using hgb20.symm
              obtain ⟨z, hz⟩ : ∃ z, b'[k']? = some z := ⟨_, List.getElem?_eq_getElem (by have := Hbl'.out; omega)⟩
              have hcellb3 := hcellb2 (.bool z) (by simp [hz])
              have hgbv : bv.ownBlock = some (w.heap.size + 1) := by rw [Hbv.out]; rfl
              have Hgbv := Lib.hid hgbv
              clear hcellb2 hidxb2 hgb20 hgbv
              go_simp
              refine hK _ _ ?_
              clear hK K hcellb3
              have hin5 := (hsetb2 (.bool true)).1
              have hout5 := (own_fr hout3 g6).kept (hsetb2 (.bool true)).2 (by rw [← Hgbv.out]; exact own_ne (own_fr hout3 g6) (own_fr hin3 g6) (by decide))
              have hf5 := (hf3.then g6).grown (hsetb2 (.bool true)).2 (fun x hx => by cases hx; simp)
              clear hsetb2 hfrb2
              refine wpO_nil (fun w7 hw7 => ?_)
              have hin7 := own_fr hin5 hw7
              have hout7 := own_fr hout5 hw7
              have hf7 := hf5.then hw7
              go_wp2
              go_roundw
              case rel => exact ⟨q + 1, b'.set k' true, by go_num, by omega, by simp [Hbl'.out], by rw [List.map_set]; exact hin7, hout7, hf7, HIQ.out.step Hwf.out Hyy.out hk' hm' (by have := Hbl'.out; omega)⟩
              case measure => simp [intOf]; omega
            · have hIQ2 := HIQ.out
              rw [List.take_of_length_le (by have := Hm.out; omega)] at hIQ2
              have HIQ2 := Lib.hid hIQ2; clear hIQ2
              go_wp2
              go_roundw
              case rel => exact ⟨j, _, b', out ++ [x.id], rfl, by omega, by omega, Hbl'.out, by simp only [List.length_append, List.length_cons, List.length_nil]; omega, hin3, hout3, hf3, InQ.done Hx.out HIn.out Hpp.out HIQ2.out, HOut.out.step_yes Hx.out Hpp.out⟩
              case measure => simp [intOf]
      · have hy0 : y = false := by cases y <;> simp_all
        have hm0 : decide (x.id ∈ l) = false := decide_eq_false (fun h => hsel (.inr h))
        subst hy0
        clear hsetb
        go_wp2_with (first
          | (go_at_call 55; refine (has04 _ _ _ _ hlv).mono ?_; rintro e w' ⟨rfl, rfl⟩))
        go_roundw
        case rel => exact ⟨j, _, bs, out, rfl, by omega, by omega, Hbl.out, by omega, hin, hout, hf, HIn.out.step_no Hx.out (fun h => hsel (by simpa using Sel.out.2 h)), HOut.out.step_no Hx.out (fun h => hsel (by simpa using Sel.out.2 h))⟩
        case measure => simp [intOf]

theorem ahead_iff {g : G} {a b : BS} {out : List BS} (hp : IsPast g [b] out) : Ahead g a b ↔ a ≠ b ∧ a ∈ ids g ∧ b ∈ ids g ∧ a ∈ out := by
  unfold Ahead
  constructor
  · rintro ⟨h1, h2, h3, h4⟩; exact ⟨h1, h2, h3, (hp.2 a).2 ⟨b, by simp, h3, h4⟩⟩
  · rintro ⟨h1, h2, h3, h4⟩
    obtain ⟨y, hy, _, hr⟩ := (hp.2 a).1 h4
    simp at hy; subst hy
    exact ⟨h1, h2, h3, hr⟩

/-- A bool that says p. -/
def Says (p : Prop) (e : Ending) : Prop := ∃ r : Bool, e = .returned (.bool r) ∧ (r = true ↔ p)

set_option maxRecDepth 100000 in
set_option maxHeartbeats 1000000 in
theorem ahead16 (v : Value) (g : G) (a b : BS) (w : World) (hs : Nodes w v g) (hl : g.length ≤ 1000000) (hwf : Wf g) :
    Calls Tryz.prog 31 #[.agg #[v], .string a, .string b] w fun e w' => Says (Ahead g a b) e ∧ Fr [] w w' := by
  have Hwf := Lib.hid hwf; clear hwf
  have f0 := (Fr.refl w).alloc (.cells #[v] 30)
  have hc0 := World.cell?_alloc_new (w := w) #[v] 30 0
  have hs := hs.fr f0
  by_cases hab : a = b
  · have hb := beq_tt hab
    have Hab := Lib.hid hab; clear hab
    go_enter Tryz.func31, Tryz.ntmps31
    go_wp2
    go_ret
    exact ⟨⟨false, rfl, by simp only [Bool.false_eq_true, false_iff]; exact fun h => h.1 Hab.out⟩, f0⟩
  have hb := beq_ff hab
  have Hab := Lib.hid hab; clear hab
  by_cases ha : a ∈ ids g
  · have ha' : decide (a ∈ ids g) = true := decide_eq_true ha
    have Ha := Lib.hid ha; clear ha
    by_cases hbb : b ∈ ids g
    · have hb' : decide (b ∈ ids g) = true := decide_eq_true hbb
      have Hb := Lib.hid hbb; clear hbb
      go_enter Tryz.func31, Tryz.ntmps31
      go_wp2_with fail
      refine (has16 _ _ _ _ hs).mono ?_
      rintro e w1 ⟨rfl, hf1⟩
      have hc1 := hf1.cell hc0
      go_wp2_with fail
      refine (has16 _ _ _ _ (hs.fr hf1)).mono ?_
      rintro e w2 ⟨rfl, hf2⟩
      have hc1 := hf2.cell hc1
      have hf12 := (hf1.then hf2)
      go_wp2_with fail
      refine (past16 _ _ _ _ _ (hs.fr (hf12.alloc _)) (strs_new w2 b) hl Hwf.out).mono ?_
      rintro e w3 ⟨u, out, rfl, hu, hp, hf3⟩
      go_wp2_with fail
      refine (has04 _ _ _ _ hu).mono ?_
      rintro e w4 ⟨rfl, rfl⟩
      go_wp2
      go_ret
      refine ⟨⟨_, rfl, ?_⟩, f0.then ((hf12.alloc _).then hf3)⟩
      rw [ahead_iff hp]
      simp [Hab.out, Ha.out, Hb.out]
    · have hb' : decide (b ∈ ids g) = false := decide_eq_false hbb
      have Hb := Lib.hid hbb; clear hbb
      go_enter Tryz.func31, Tryz.ntmps31
      go_wp2_with fail
      refine (has16 _ _ _ _ hs).mono ?_
      rintro e w1 ⟨rfl, hf1⟩
      have hc1 := hf1.cell hc0
      go_wp2_with fail
      refine (has16 _ _ _ _ (hs.fr hf1)).mono ?_
      rintro e w2 ⟨rfl, hf2⟩
      go_wp2
      go_ret
      exact ⟨⟨false, rfl, by simp only [Bool.false_eq_true, false_iff]; exact fun h => Hb.out h.2.2.1⟩, f0.then (hf1.then hf2)⟩
  · have ha' : decide (a ∈ ids g) = false := decide_eq_false ha
    have Ha := Lib.hid ha; clear ha
    go_enter Tryz.func31, Tryz.ntmps31
    go_wp2_with fail
    refine (has16 _ _ _ _ hs).mono ?_
    rintro e w1 ⟨rfl, hf1⟩
    go_wp2
    go_ret
    exact ⟨⟨false, rfl, by simp only [Bool.false_eq_true, false_iff]; exact fun h => Ha.out h.2.1⟩, f0.then hf1⟩

end Go.Proofs.YtppgjglfoibfcaaGreat
