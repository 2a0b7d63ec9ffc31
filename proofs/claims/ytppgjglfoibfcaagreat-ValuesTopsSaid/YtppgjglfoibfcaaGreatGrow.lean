import Derived.Test.YtppgjglfoibfcaaGreatDag
import Derived.Test.YtppgjglfoibfcaaGreatIds
import Derived.Test.YtppgjglfoibfcaaGreatPast
import Derived.Test.YtppgjglfoibfcaaGreatAdd16
set_option linter.unusedSimpArgs false
set_option linter.unusedVariables false
/-
  What Add refuses.
-/
namespace Go.Proofs.YtppgjglfoibfcaaGreat
open Go.RowKit

set_option maxRecDepth 100000 in
theorem refuse61 (v : Value) (x : BS) (g : G) (b : Nat) (w : World) (hd : DagR w v g) (hc : w.cell? ⟨b, 0, none⟩ = some v) :
    Calls Tryz.prog 219 #[.string x, .pointer (some ⟨b, 0, none⟩)] w fun e w' => e = .returned (.bool (!decide (x ∈ ids g))) ∧ Fr [] w w' := by
  go_enter Tryz.func219, Tryz.ntmps219
  go_wp2_with (go_at_call 105; refine (has18 _ _ _ _ hd).mono ?_; rintro e w1 ⟨rfl, h1⟩)
  go_ret
  exact ⟨rfl, h1⟩

set_option maxRecDepth 100000 in
set_option maxHeartbeats 1000000 in
theorem index75 (v pv : Value) (ps : List BS) (g : G) (b : Nat) (w : World) (hd : DagR w v g) (hc : w.cell? ⟨b, 0, none⟩ = some v) (hp : Strs w pv ps) :
    Calls Tryz.prog 206 #[pv, .func (.func 219) #[] #[.pointer (some ⟨b, 0, none⟩)]] w fun e w' => ∃ r : Int, e = .returned (.int .i64 r) ∧ (decide (0 ≤ r) = decide (∃ p ∈ ps, p ∉ ids g)) ∧ Fr [] w w' := by
  obtain ⟨a, c, rfl, hc', hm, hn⟩ := hp.form
  obtain ⟨n, hnx⟩ : ∃ n, n = ps.length := ⟨_, rfl⟩
  rw [← hnx] at hp hc' hn ⊢
  have Hn := Lib.hid hnx; clear hnx
  go_enter Tryz.func206, Tryz.ntmps206
  go_wp2
  go_loopw [8] (fun i wr => ∃ k : Nat, k ≤ n ∧ i = .int .i64 k ∧ (∀ p ∈ ps.take k, p ∈ ids g) ∧ Fr [] w wr) (fun i _ => n - (intOf i).toNat)
  case atStart => exact ⟨0, Nat.zero_le _, rfl, by simp, .refl w⟩
  case round =>
    obtain ⟨k, hk, rfl, hno, hf⟩ := hrel
    have hp := hp.fr hf
    have hd := hd.fr hf
    have hc := hf.cell hc
    have Hno := Lib.hid hno; clear hno
    by_cases hlt : k < n
    · obtain ⟨s, hx⟩ : ∃ s, ps[k]? = some s := ⟨_, List.getElem?_eq_getElem (Hn.out ▸ hlt)⟩
      obtain ⟨b', o, hidx, hcell⟩ := hp.at_ Hn.out 51 9 Tryz.underlying51 Tryz.sizeOf9 k s hx
      have Hx := Lib.hid hx; clear hx
      have R := refuse61 v s g b wr hd hc
      by_cases hm : s ∈ ids g
      · rw [decide_eq_true hm] at R
        have Hm := Lib.hid hm; clear hm
        simp only [Bool.not_true] at R
        go_wp2_with (go_at_call 219; refine R.mono ?_; rintro e w' ⟨rfl, hf2⟩)
        go_roundw
        case rel =>
          refine ⟨k + 1, by omega, by go_num, fun p hp => ?_, hf.then hf2⟩
          rw [take_snoc Hx.out, List.mem_append] at hp
          rcases hp with hp | hp
          · exact Hno.out p hp
          · rw [List.mem_singleton.1 hp]; exact Hm.out
        case measure => simp [intOf]; omega
      · rw [decide_eq_false hm] at R
        have Hm := Lib.hid hm; clear hm
        simp only [Bool.not_false] at R
        go_wp2_with (go_at_call 219; refine R.mono ?_; rintro e w' ⟨rfl, hf2⟩)
        go_ret
        refine ⟨k, rfl, ?_, hf.then hf2⟩
        rw [decide_eq_true (show (0 : Int) ≤ (k : Int) by omega), decide_eq_true ⟨s, List.mem_of_getElem? Hx.out, Hm.out⟩]
    · go_wp2
      go_ret
      refine ⟨-1, rfl, ?_, hf⟩
      have h1 := Hno.out
      rw [List.take_of_length_le (by have := Hn.out; omega)] at h1
      rw [decide_eq_false (show ¬ (0 : Int) ≤ -1 by omega), decide_eq_false (fun ⟨p, hp, hq⟩ => hq (h1 p hp))]

set_option maxRecDepth 100000 in
theorem contains60 (v pv : Value) (ps : List BS) (g : G) (b : Nat) (w : World) (hd : DagR w v g) (hc : w.cell? ⟨b, 0, none⟩ = some v) (hp : Strs w pv ps) :
    Calls Tryz.prog 132 #[pv, .func (.func 219) #[] #[.pointer (some ⟨b, 0, none⟩)]] w fun e w' => e = .returned (.bool (decide (∃ p ∈ ps, p ∉ ids g))) ∧ Fr [] w w' := by
  go_enter Tryz.func132, Tryz.ntmps132
  go_wp2_with (go_at_call 206; refine (index75 _ _ _ _ _ _ hd hc hp).mono ?_; rintro e w1 ⟨r, rfl, hr, h1⟩)
  go_ret
  exact ⟨rfl, h1⟩

set_option maxRecDepth 100000 in
set_option maxHeartbeats 2000000 in
theorem refuse37 (mN mH : Nat) (v pv : Value) (id : BS) (ps : List BS) (g : G) (w : World) (hd : DagAt w v mN mH g) (hp : Strs w pv ps) (hl : g.length ≤ 1000000) :
    Calls Tryz.prog 150 #[v, .string id, pv] w fun e w' => e = .returned (.int .i64 (addE g id ps)) ∧ Fr [] w w' := by
  obtain ⟨bD, lN, lH, rfl, hi⟩ := hd
  have hd0 : DagR w (.pointer (some ⟨bD, 0, none⟩)) g := .inr ⟨mN, mH, bD, lN, lH, rfl, hi⟩
  clear hi
  have f0 := (Fr.refl w).alloc (.cells #[.pointer (some ⟨bD, 0, none⟩)] 27)
  have hd1 := hd0.fr f0
  have hp1 := hp.fr f0
  have hc1 : (w.alloc (.cells #[.pointer (some ⟨bD, 0, none⟩)] 27)).cell? ⟨w.heap.size, 0, none⟩ = some (.pointer (some ⟨bD, 0, none⟩)) := by simp
  obtain ⟨n, hn⟩ : ∃ n, n = g.length := ⟨_, rfl⟩
  rw [← hn] at hl
  have Hn := Lib.hid hn; clear hn
  go_enter Tryz.func150, Tryz.ntmps150
  go_upto_region 1 with fail
  generalize w.alloc (.cells #[.pointer (some ⟨bD, 0, none⟩)] 27) = w0 at f0 hd1 hp1 hc1 ⊢
  have R1 := right58 id w0
  have R2 := rising59 _ ps w0 hp1
  by_cases h1 : id.size = 32
  · rw [decide_eq_true h1] at R1
    have H1 := Lib.hid h1; clear h1
    by_cases h2 : Rising ps
    · rw [decide_eq_true h2] at R2
      have H2 := Lib.hid h2; clear h2
      go_upto_region 5 with (first
        | (go_at_call 156; refine R1.mono ?_; rintro e w' ⟨rfl, rfl⟩)
        | (go_at_call 181; refine R2.mono ?_; rintro e w1 ⟨rfl, hq⟩; have f1 := f0.then hq.fr; have hd2 := hd1.fr hq.fr; have hp2 := hp1.fr hq.fr; have hc2 := hq.fr.cell hc1; clear hd1 hp1 hc1; have R3 := has18 _ id g w1 hd2))
      by_cases h3 : id ∈ ids g
      · rw [decide_eq_true h3] at R3
        have H3 := Lib.hid h3; clear h3
        go_wp2_with (go_at_call 105; refine R3.mono ?_; rintro e w2 ⟨rfl, hf2⟩)
        go_ret
        exact ⟨by rw [addE_twice ⟨H1.out, H2.out⟩ H3.out]; rfl, f1.then hf2⟩
      · rw [decide_eq_false h3] at R3
        have H3 := Lib.hid h3; clear h3
        go_upto_region 7 with (go_at_call 105; refine R3.mono ?_; rintro e w2 ⟨rfl, hf2⟩; have hd3 := hd2.fr hf2; have hp3 := hp2.fr hf2; have hc3 := hf2.cell hc2; have R4 := contains60 _ _ ps g _ w2 hd3 hc3 hp3)
        by_cases h4 : ∃ p ∈ ps, p ∉ ids g
        · rw [decide_eq_true h4] at R4
          have H4 := Lib.hid h4; clear h4
          go_wp2_with (go_at_call 132; refine R4.mono ?_; rintro e w3 ⟨rfl, hf3⟩)
          go_ret
          exact ⟨by rw [addE_pred ⟨H1.out, H2.out⟩ H3.out H4.out]; rfl, (f1.then hf2).then hf3⟩
        · rw [decide_eq_false h4] at R4
          have H4 := Lib.hid h4; clear h4
          go_upto_region 9 with (go_at_call 132; refine R4.mono ?_; rintro e w3 ⟨rfl, hf3⟩; have hd4 := hd3.fr hf3; have hc4 := hf3.cell hc3; have R5 := len30 _ g w3 hd4; rw [← Hn.out] at R5)
          by_cases h5 : 4096 ≤ n
          · go_wp2_with (go_at_call 220; refine R5.mono ?_; rintro e w4 ⟨rfl, rfl⟩)
            go_ret
            exact ⟨by rw [addE_full ⟨H1.out, H2.out⟩ H3.out H4.out (by rw [← Hn.out]; exact h5)]; rfl, (f1.then hf2).then hf3⟩
          · go_wp2_with (go_at_call 220; refine R5.mono ?_; rintro e w4 ⟨rfl, rfl⟩)
            go_ret
            exact ⟨by rw [addE_ok ⟨H1.out, H2.out⟩ H3.out H4.out (by rw [← Hn.out]; exact h5)]; rfl, (f1.then hf2).then hf3⟩
    · rw [decide_eq_false h2] at R2
      have H2 := Lib.hid h2; clear h2
      go_wp2_with (first
        | (go_at_call 156; refine R1.mono ?_; rintro e w' ⟨rfl, rfl⟩)
        | (go_at_call 181; refine R2.mono ?_; rintro e w1 ⟨rfl, hq⟩))
      go_ret
      exact ⟨by rw [addE_arg (fun h => H2.out h.2)]; rfl, f0.then hq.fr⟩
  · rw [decide_eq_false h1] at R1
    have H1 := Lib.hid h1; clear h1
    go_wp2_with (go_at_call 156; refine R1.mono ?_; rintro e w' ⟨rfl, rfl⟩)
    go_ret
    exact ⟨by rw [addE_arg (fun h => H1.out h.1)]; rfl, f0⟩
end Go.Proofs.YtppgjglfoibfcaaGreat

set_option linter.unusedSimpArgs false
set_option linter.unusedVariables false
/-
  A graph and one more node: plain.
-/
namespace Go.Proofs.YtppgjglfoibfcaaGreat

theorem ids_app (g : G) (n : Nd) : ids (g ++ [n]) = ids g ++ [n.id] := by simp [ids]
/-- What Add takes. -/
structure Takes (g : G) (id : BS) (ps : List BS) : Prop where
  right : id.size = 32
  rising : Rising ps
  new : id ∉ ids g
  inn : ∀ p ∈ ps, p ∈ ids g
  few : g.length < 4096
theorem takes_of {g : G} {id : BS} {ps : List BS} (h : addE g id ps = 0) : Takes g id ps := by
  unfold addE at h
  split at h
  · cases h
  · rename_i h1
    split at h
    · cases h
    · rename_i h2
      split at h
      · cases h
      · rename_i h3
        split at h
        · cases h
        · rename_i h4
          have h1 : id.size = 32 ∧ Rising ps := by simpa using h1
          exact ⟨h1.1, h1.2, h2, fun p hp => Decidable.byContradiction fun hn => h3 ⟨p, hp, hn⟩, by omega⟩

section
variable {g : G} {id : BS} {ps : List BS}
theorem Takes.wf (h : Takes g id ps) (hw : Wf g) : Wf (g ++ [⟨id, ps⟩]) := by
  intro i n hi
  rcases Nat.lt_or_ge i g.length with hl | hl
  · rw [List.getElem?_append_left hl] at hi
    rw [List.take_append_of_le_length (Nat.le_of_lt hl)]
    exact hw i n hi
  · have hi' : i = g.length := by have := lt_of_getElem? hi; simp at this; omega
    subst hi'
    rw [List.getElem?_append_right (Nat.le_refl _)] at hi
    simp at hi; subst hi
    rw [List.take_append_of_le_length (Nat.le_refl _), List.take_length]
    exact ⟨h.right, h.rising, h.new, h.inn⟩
theorem wf_addG (hw : Wf g) : Wf (addG g id ps) := by
  unfold addG
  split
  · rename_i h; exact (takes_of h).wf hw
  · exact hw
theorem Takes.preds_new (h : Takes g id ps) : preds (g ++ [⟨id, ps⟩]) id = ps := by
  have hn := h.new
  unfold preds
  have : g.find? (fun n => decide (n.id = id)) = none := by
    rw [List.find?_eq_none]
    intro n hm
    simp only [decide_eq_true_eq]
    exact fun e => hn (List.mem_map.2 ⟨n, hm, e⟩)
  simp [List.find?_append, this]
theorem Takes.preds_old (x : BS) (hx : x ≠ id) : preds (g ++ [⟨id, ps⟩]) x = preds g x := by
  unfold preds
  rw [List.find?_append]
  have : ([⟨id, ps⟩] : List Nd).find? (fun n => decide (n.id = x)) = none := by simp; exact fun e => hx e.symm
  rw [this, Option.or_none]
theorem Takes.kidsE (h : Takes g id ps) (x : BS) : kids (g ++ [⟨id, ps⟩]) x = if x ∈ ps then withL (kids g x) id else kids g x := by
  unfold kids
  rw [List.filter_append, List.map_append]
  by_cases hx : x ∈ ps
  · rw [if_pos hx]
    simp only [List.filter_cons, hx, decide_true, if_true, List.filter_nil, List.map_cons, List.map_nil]
    exact ofL_snoc h.right
  · rw [if_neg hx]
    simp [List.filter_cons, hx]
theorem mem_kids (hw : Wf g) {x y : BS} : y ∈ kids g x ↔ ∃ n ∈ g, n.id = y ∧ x ∈ n.preds := by
  unfold kids
  rw [mem_ofL]
  simp only [List.mem_map, List.mem_filter, decide_eq_true_eq]
  constructor
  · rintro ⟨⟨n, ⟨h1, h2⟩, h3⟩, _⟩; exact ⟨n, h1, h3, h2⟩
  · rintro ⟨n, h1, h3, h2⟩
    obtain ⟨i, hi⟩ := List.mem_iff_getElem?.1 h1
    exact ⟨⟨n, ⟨h1, h2⟩, h3⟩, h3 ▸ (hw i n hi).1⟩
theorem kids_none (hw : Wf g) {x : BS} (hx : x ∉ ids g) : kids g x = [] := by
  rw [List.eq_nil_iff_forall_not_mem]
  intro y hy
  obtain ⟨n, hn, _, hp⟩ := (mem_kids hw).1 hy
  obtain ⟨i, hi⟩ := List.mem_iff_getElem?.1 hn
  have := (hw i n hi).2.2.2 x hp
  rw [ids_take] at this
  exact hx (List.mem_of_mem_take this)
theorem sorted_kids (x : BS) : (kids g x).Pairwise BLt := sorted_ofL _
theorem length_kids (x : BS) : (kids g x).length ≤ g.length := by
  unfold kids
  have h1 := length_ofL ((g.filter fun n => decide (x ∈ n.preds)).map (·.id))
  have h2 := List.length_filter_le (fun n : Nd => decide (x ∈ n.preds)) g
  simp only [List.length_map] at h1
  omega
theorem Takes.depth_new (h : Takes g id ps) : depth (g ++ [⟨id, ps⟩]) id = maxD (deps g) ps + 1 := by
  unfold depth
  rw [deps_snoc]
  refine lookD_at (i := g.length) ?_ ?_
  · rw [List.getElem?_append_right (by rw [length_deps]; exact Nat.le_refl _), length_deps, Nat.sub_self]; rfl
  · rw [List.map_append, fst_deps, List.take_append_of_le_length (by rw [length_ids]; exact Nat.le_refl _)]
    exact fun hm => h.new (List.mem_of_mem_take hm)
theorem Takes.depth_old (h : Takes g id ps) (x : BS) (hx : x ≠ id) : depth (g ++ [⟨id, ps⟩]) x = depth g x := by
  by_cases hm : x ∈ ids g
  · unfold depth
    rw [deps_snoc]
    exact lookD_append (by rw [fst_deps]; exact hm)
  · rw [depth_no hm, depth_no]
    rw [ids_app]
    simp [hm, hx]
theorem mem_heads (hw : Wf g) (x : BS) : x ∈ heads g ↔ x ∈ ids g ∧ kids g x = [] := by
  unfold heads
  rw [mem_ofL]
  simp only [List.mem_filter, decide_eq_true_eq]
  exact ⟨fun h => h.1, fun h => ⟨h, hw.right h.1⟩⟩
theorem withL_ne (l : List BS) (x : BS) : withL l x ≠ [] := fun e => by
  have := (mem_withL l x x).2 (.inl rfl)
  rw [e] at this; cases this
theorem Takes.headsE (h : Takes g id ps) (hw : Wf g) (x : BS) : x ∈ heads (g ++ [⟨id, ps⟩]) ↔ x = id ∨ (x ∈ heads g ∧ x ∉ ps) := by
  rw [mem_heads (h.wf hw), mem_heads hw, h.kidsE, ids_app]
  have hid : id ∉ ps := fun hp => h.new (h.inn id hp)
  by_cases hx : x = id
  · subst hx
    simp [hid, kids_none hw h.new]
  · by_cases hp : x ∈ ps
    · simp [hp, hx, withL_ne]
    · simp [hp, hx]
end
end Go.Proofs.YtppgjglfoibfcaaGreat
