import Derived.Test.YtppgjglfoibfcaaGreatPast
set_option linter.unusedSimpArgs false
set_option linter.unusedVariables false
/-
  The reference's Add.
-/
namespace Go.Proofs.YtppgjglfoibfcaaGreat
open Go.RowKit

theorem cell_lt {w : World} {a : Addr} {v : Value} (h : w.cell? a = some v) : a.block < w.heap.size := by
  apply Decidable.byContradiction
  intro hn
  rw [World.cell?, Array.getElem?_eq_none (by omega)] at h
  cases h
theorem Strs.one {w : World} {v : Value} {xs : List BS} (h : Strs w v xs) : v.oneCell' = true := by
  obtain ⟨a, c, rfl, _⟩ := h.form; rfl
theorem Nodes.cells {w : World} {v : Value} {g : G} (h : Nodes w v g) : ∃ cs, Sl w v g.length 2 cs ∧ (∀ u ∈ cs, u.oneCell' = true) ∧
    ∀ i n, g[i]? = some n → ∃ pv, cs[i * 2]? = some (.string n.id) ∧ cs[i * 2 + 1]? = some pv ∧ Strs w pv n.preds := by
  obtain ⟨cs, h1, h2⟩ := h
  refine ⟨cs, h1, fun u hu => ?_, h2⟩
  obtain ⟨j, hj⟩ := List.mem_iff_getElem?.1 hu
  have hlt := lt_of_getElem? hj
  have hl := h1.1
  have hi : j / 2 < g.length := by omega
  obtain ⟨pv, h3, h4, h5⟩ := h2 (j / 2) _ (List.getElem?_eq_getElem hi)
  rcases Nat.mod_two_eq_zero_or_one j with h | h
  · rw [show j = j / 2 * 2 from by omega, h3] at hj; injection hj with hj; subst hj; rfl
  · rw [show j = j / 2 * 2 + 1 from by omega, h4] at hj; injection hj with hj; subst hj; exact h5.one
theorem Nodes.snoc {w w' : World} {u : Value} {g : G} {cs : List Value} {id : BS} {pv : Value} {ps : List BS} (h1 : ∀ i n, g[i]? = some n → ∃ pv, cs[i * 2]? = some (.string n.id) ∧ cs[i * 2 + 1]? = some pv ∧ Strs w pv n.preds)
    (hl : cs.length = g.length * 2) (hp : Strs w pv ps) (hf : Fr [] w w') (hsl : Sl w' u (g.length + 1) 2 (cs ++ [.string id, pv])) : Nodes w' u (g ++ [⟨id, ps⟩]) := by
  refine ⟨cs ++ [.string id, pv], by simpa using hsl, fun i n hi => ?_⟩
  rcases Nat.lt_or_ge i g.length with h | h
  · rw [List.getElem?_append_left h] at hi
    obtain ⟨pv', h3, h4, h5⟩ := h1 i n hi
    exact ⟨pv', by rw [List.getElem?_append_left (by omega)]; exact h3, by rw [List.getElem?_append_left (by omega)]; exact h4, h5.fr hf⟩
  · have hi' : i = g.length := by have := lt_of_getElem? hi; simp at this; omega
    subst hi'
    rw [List.getElem?_append_right (Nat.le_refl _)] at hi
    simp at hi; subst hi
    exact ⟨pv, by rw [List.getElem?_append_right (by omega)]; simp [hl], by rw [List.getElem?_append_right (by omega)]; simp [hl], hp.fr hf⟩
theorem infoNode : (Tryz.prog.info? 200).map (fun i => (i.zero, i.size, i.bytes)) = some (some (.agg #[.string ⟨#[]⟩, .slice none 0 0]), 2, 40) := by kernel_rfl

/-- What Add hands back. -/
def Adds (g : G) (id : BS) (ps : List BS) (e : Ending) (w' : World) : Prop := ∃ u, e = .returned (.tuple #[.agg #[u], .int .i64 (addE g id ps)]) ∧ Nodes w' u (addG g id ps)

theorem addE_arg {g : G} {id : BS} {ps : List BS} (h : ¬ (id.size = 32 ∧ Rising ps)) : addE g id ps = 1 := by unfold addE; rw [if_pos h]
theorem addE_twice {g : G} {id : BS} {ps : List BS} (h : id.size = 32 ∧ Rising ps) (h2 : id ∈ ids g) : addE g id ps = 7 := by unfold addE; rw [if_neg (by simpa using h), if_pos h2]
theorem addE_pred {g : G} {id : BS} {ps : List BS} (h : id.size = 32 ∧ Rising ps) (h2 : id ∉ ids g) (h3 : ∃ p ∈ ps, p ∉ ids g) : addE g id ps = 14 := by unfold addE; rw [if_neg (by simpa using h), if_neg h2, if_pos h3]
theorem addE_full {g : G} {id : BS} {ps : List BS} (h : id.size = 32 ∧ Rising ps) (h2 : id ∉ ids g) (h3 : ¬ ∃ p ∈ ps, p ∉ ids g) (h4 : 4096 ≤ g.length) : addE g id ps = 2 := by unfold addE; rw [if_neg (by simpa using h), if_neg h2, if_neg h3, if_pos h4]
theorem addE_ok {g : G} {id : BS} {ps : List BS} (h : id.size = 32 ∧ Rising ps) (h2 : id ∉ ids g) (h3 : ¬ ∃ p ∈ ps, p ∉ ids g) (h4 : ¬ 4096 ≤ g.length) : addE g id ps = 0 := by unfold addE; rw [if_neg (by simpa using h), if_neg h2, if_neg h3, if_neg h4]
theorem addG_no {g : G} {id : BS} {ps : List BS} (h : addE g id ps ≠ 0) : addG g id ps = g := by unfold addG; rw [if_neg h]
theorem addG_ok {g : G} {id : BS} {ps : List BS} (h : addE g id ps = 0) : addG g id ps = g ++ [⟨id, ps⟩] := by unfold addG; rw [if_pos h]

theorem add_res {w1 : World} {b : Nat} {a : Option Addr} {n c : Nat} {u0 : Value} (hc : w1.cell? ⟨b, 0, none⟩ = some u0) (z : Int) (x : Act) (hx : x.tmps[6]? = some (.pointer (some ⟨b, 0, none⟩))) (hy : x.tmps[7]? = some (.int .i64 z)) :
    (results Tryz.f47 x.tmps).run Tryz.prog (w1.setCell ⟨b, 0, none⟩ (.slice a n c)) = .ok (.tuple #[.agg #[.slice a n c], .int .i64 z]) (w1.setCell ⟨b, 0, none⟩ (.slice a n c)) := by
  have hc' := World.cell?_setCell_same (v := .slice a n c) _ _ hc
  simp [results, Tryz.f47, Array.getD_eq_getD_getElem?, hx, hy]
  go_simp
/-- A refusal: the graph comes back as it was. -/
theorem add_no {w w1 : World} {a : Option Addr} {n c : Nat} {g : G} {id : BS} {ps : List BS} {z : Int} {x : Act} (hs : Nodes w (.slice a n c) g) (hf : Fr [] w w1) (hc : w1.cell? ⟨w.heap.size + 1, 0, none⟩ = some (.slice none 0 0))
    (hz : addE g id ps = z) (hz0 : z ≠ 0) (hx : x.tmps[6]? = some (.pointer (some ⟨w.heap.size + 1, 0, none⟩))) (hy : x.tmps[7]? = some (.int .i64 z)) (hd : x.defers = []) :
    bodyPost Tryz.prog Tryz.f47 (fun e w' => Adds g id ps e w' ∧ Fr [] w w') .ret x (w1.setCell ⟨w.heap.size + 1, 0, none⟩ (.slice a n c)) := by
  have hF : Fr [] w (w1.setCell ⟨w.heap.size + 1, 0, none⟩ (.slice a n c)) := hf.setCell (Nat.le_succ _) _
  refine bodyPost_ret (v := .tuple #[.agg #[.slice a n c], .int .i64 z]) (add_res hc z x hx hy) hd ⟨⟨_, by rw [hz], ?_⟩, hF⟩
  rw [addG_no (by rw [hz]; exact hz0)]
  exact hs.fr hF

set_option maxRecDepth 100000 in
set_option maxHeartbeats 1000000 in
theorem add16 (v pv : Value) (g : G) (id : BS) (ps : List BS) (w : World) (hs : Nodes w v g) (hp : Strs w pv ps) (hl : g.length ≤ 1000000) :
    Calls Tryz.prog 47 #[.agg #[v], .string id, pv] w fun e w' => Adds g id ps e w' ∧ Fr [] w w' := by
  obtain ⟨a, c, rfl, hc, hm, hn⟩ := hs.form
  obtain ⟨pa, pc, rfl, hpc, hpm, hpn⟩ := hp.form
  obtain ⟨n, hnx⟩ : ∃ n, n = g.length := ⟨_, rfl⟩
  obtain ⟨m, hmx⟩ : ∃ m, m = ps.length := ⟨_, rfl⟩
  rw [← hnx] at hs hc hn hl ⊢
  rw [← hmx] at hp hpc hpn ⊢
  have Hn := Lib.hid hnx; clear hnx
  have Hm := Lib.hid hmx; clear hmx
  have hp0 := hp
  go_enter Tryz.func47, Tryz.ntmps47
  go_upto_region 1 with fail
  have fw := ((Fr.refl w).alloc (.cells #[.slice a n c] 30)).alloc (.cells #[.slice none 0 0] 30)
  have hc0 : ((w.alloc (.cells #[.slice a n c] 30)).alloc (.cells #[.slice none 0 0] 30)).cell? ⟨w.heap.size, 0, none⟩ = some (.slice a n c) := by simp
  have hc1 : ((w.alloc (.cells #[.slice a n c] 30)).alloc (.cells #[.slice none 0 0] 30)).cell? ⟨w.heap.size + 1, 0, none⟩ = some (.slice none 0 0) := by simp
  have hz1 : ((w.alloc (.cells #[.slice a n c] 30)).alloc (.cells #[.slice none 0 0] 30)).frozen? ⟨w.heap.size + 1, 0, none⟩ = false := by simp
  generalize (w.alloc (.cells #[.slice a n c] 30)).alloc (.cells #[.slice none 0 0] 30) = w0 at fw hc0 hc1 hz1 ⊢
  have R1 := right04 id w0
  have R2 := rising04 _ ps w0 (hp.fr fw)
  by_cases h1 : id.size = 32
  · rw [decide_eq_true h1] at R1
    have H1 := Lib.hid h1; clear h1
    by_cases h2 : Rising ps
    · rw [decide_eq_true h2] at R2
      have H2 := Lib.hid h2; clear h2
      go_upto_region 3 with (first
        | (go_at_call 122; refine R1.mono ?_; rintro e w' ⟨rfl, rfl⟩)
        | (go_at_call 123; refine R2.mono ?_; rintro e w1 ⟨rfl, hd⟩; have hf1 := fw.then hd.fr; have hc0' := hd.fr.cell hc0; have hc1' := hd.fr.cell hc1; have hz1' := hd.fr.fz hc1 hz1; have R3 := has16 _ g id _ (hs.fr hf1)))
      clear R1 R2 hc0 hc1 hz1 fw
      clear hd
      by_cases h3 : id ∈ ids g
      · rw [decide_eq_true h3] at R3
        have H3 := Lib.hid h3; clear h3
        go_upto_region 4 with (go_at_call 83; refine R3.mono ?_; rintro e w2 ⟨rfl, hd⟩; have hf2 := hf1.then hd; have hc0 := hd.cell hc0'; have hc1 := hd.cell hc1'; have hz1 := hd.fz hc1' hz1'; clear hc0' hc1' hz1')
        go_wp2
        exact add_no hs hf2 hc1 (addE_twice ⟨H1.out, H2.out⟩ H3.out) (by decide) rfl rfl rfl
      · rw [decide_eq_false h3] at R3
        have H3 := Lib.hid h3; clear h3
        go_upto_region 5 with (go_at_call 83; refine R3.mono ?_; rintro e w2 ⟨rfl, hd⟩; have hf2 := hf1.then hd; have hc0 := hd.cell hc0'; have hc1 := hd.cell hc1'; have hz1 := hd.fz hc1' hz1'; clear hc0' hc1' hz1')
        clear hd hf1 R3
        go_wp2
        go_loopw [8] (fun kq wr => ∃ q : Nat, kq = .int .i64 q ∧ q ≤ m ∧ Fr [] w2 wr ∧ ∀ p ∈ ps.take q, p ∈ ids g) (fun kq _ => m - (intOf kq).toNat)
        case atStart => exact ⟨0, rfl, Nat.zero_le _, .refl _, by simp⟩
        case round =>
          obtain ⟨q, rfl, hq, hf3, hin⟩ := hrel
          have Hin := Lib.hid hin; clear hin
          have hc0 := hf3.cell hc0
          have hz1 := hf3.fz hc1 hz1
          have hc1 := hf3.cell hc1
          have hp := hp.fr (hf2.then hf3)
          have hs' := hs.fr (hf2.then hf3)
          by_cases hlt : q < m
          · obtain ⟨y, hy⟩ : ∃ y, ps[q]? = some y := ⟨_, List.getElem?_eq_getElem (Hm.out ▸ hlt)⟩
            obtain ⟨b, o, hidx, hcell⟩ := hp.at_ Hm.out 51 9 Tryz.underlying51 Tryz.sizeOf9 q y hy
            have Hy := Lib.hid hy; clear hy
            go_upto_region 8 with fail
            refine wp_region_ord [(0, false), (1, false), (2, false), (3, false), (4, false), (5, true), (6, false)] _ (by kernel_rfl) (by kernel_rfl) (by simp only [pick, List.filterMap_cons, List.filterMap_nil, List.getElem?_cons_succ, List.getElem?_cons_zero, Option.map_some]; rfl) ?_
            have fd := (Fr.refl wr).drew
            have x1 := Ext.cell (fd.cell hc0)
            have x2 := Ext.cell (fd.cell hcell)
            repeat (with_reducible refine wpO_q (fun K hK => ?_); go_simp; refine hK _ ?_; clear hK K)
            refine wpO_e (fun K hK => ?_)
            go_simp
            intro w4 hw4
            have g4 := fd.then hw4
            have R4 := has16 _ g y _ (hs'.fr g4)
            by_cases hyg : y ∈ ids g
            all_goals first | rw [decide_eq_true hyg] at R4 | rw [decide_eq_false hyg] at R4
            all_goals
              refine R4.mono ?_
              clear R4
              rintro e w5 ⟨rfl, hd5⟩
              refine ⟨_, rfl, hd5, hK _ _ ?_⟩
              clear hK K x1 x2
              have Hyg := Lib.hid hyg; clear hyg
              repeat (with_reducible refine wpO_q (fun K hK => ?_); go_simp; refine hK _ ?_; clear hK K)
              refine wpO_nil (fun w6 hw6 => ?_)
              have hf6 := hf3.then ((g4.then hd5).then hw6)
              have hc0 := ((g4.then hd5).then hw6).cell hc0
              have hz1 := ((g4.then hd5).then hw6).fz hc1 hz1
              have hc1 := ((g4.then hd5).then hw6).cell hc1
              clear hd5 hw6 g4 hcell hf3
            · go_wp2
              go_roundw
              case rel =>
                refine ⟨q + 1, by go_num, by omega, hf6, fun p hp => ?_⟩
                rw [take_snoc Hy.out, List.mem_append] at hp
                rcases hp with hp | hp
                · exact Hin.out p hp
                · rw [List.mem_singleton.1 hp]; exact Hyg.out
              case measure => simp [intOf]; omega
            · go_wp2
              exact add_no hs (hf2.then hf6) hc1 (addE_pred ⟨H1.out, H2.out⟩ H3.out ⟨y, List.mem_of_getElem? Hy.out, Hyg.out⟩) (by decide) rfl rfl rfl
          · obtain rfl : q = m := by omega
            have hall : ¬ ∃ p ∈ ps, p ∉ ids g := fun ⟨p, hp, hpg⟩ => hpg (Hin.out p (by rw [Hm.out, List.take_length]; exact hp))
            have Hall := Lib.hid hall; clear hall
            have hf4 := hf2.then hf3
            by_cases hfull : 4096 ≤ n
            · go_wp2
              exact add_no hs hf4 hc1 (addE_full ⟨H1.out, H2.out⟩ H3.out Hall.out (by rw [← Hn.out]; exact hfull)) (by decide) rfl rfl rfl
            · go_upto_region 12 with fail
              obtain ⟨cs, hsl, hone, hat⟩ := hs.cells
              have Hat := Lib.hid hat; clear hat
              rw [← Hn.out] at hsl
              have g0 := (Fr.refl wr).alloc (.cells #[] 200)
              have oe : (wr.alloc (.cells #[] 200)).ownsRow wr.heap.size 200 2 (.slice (some ⟨wr.heap.size, 0, none⟩) 0 0) 0 [] := own_new wr #[] 200 2 0 rfl (by decide)
              have hc0a := g0.cell hc0
              go_upto_region 13 with (at_builtin; refine wpList_app rfl _ _ 28 rfl 200 (.agg #[.string ⟨#[]⟩, .slice none 0 0]) 2 40 Tryz.underlying28 infoNode rfl (by decide) (by decide) _ _ _ _ rfl oe _ _ _ rfl (hsl.fr (hf4.then g0)) hone (by omega) (by simp) ?_; intro v1 w4 hown1 hg1 hat1; have g1 := g0.grown hg1 (fun j hj => by cases hj; exact Nat.le_refl _))
              have hbl : w.heap.size + 1 < wr.heap.size := cell_lt hc1
              have g2 := g1.alloc (.cells #[.string id, .slice pa q pc] 200)
              have hs1 := Sl.new w4 #[.string id, .slice pa q pc] 200 2 1 rfl (by decide)
              go_wp2_with (at_builtin; (refine wpList_app rfl _ _ 28 rfl 200 (.agg #[.string ⟨#[]⟩, .slice none 0 0]) 2 40 Tryz.underlying28 infoNode rfl (by decide) (by decide) _ _ _ _ rfl (own_fr hown1 ((Fr.refl w4).alloc _)) _ _ _ rfl hs1 (by simp [Value.oneCell']) (by omega) g2.size ?_; intro v2 w5 hown2 hg2 hat2; have g3 := g2.grown hg2 (own_base0 hown1); have hc1' := g3.cell hc1; have hz1' := g3.fz hc1 hz1; obtain ⟨va, vc, rfl⟩ := own_form hown2; clear hc0 hc1 hz1 hc0a))
              have hF : Fr [] w (w5.setCell ⟨w.heap.size + 1, 0, none⟩ (.slice va (n + 1) vc)) := (hf4.then g3).setCell (Nat.le_succ _) _
              have hz : addE g id ps = 0 := addE_ok ⟨H1.out, H2.out⟩ H3.out Hall.out (by rw [← Hn.out]; exact hfull)
              refine bodyPost_ret (v := .tuple #[.agg #[.slice va (n + 1) vc], .int .i64 0]) (add_res hc1' 0 _ rfl rfl) rfl ⟨⟨_, by rw [hz], ?_⟩, hF⟩
              rw [addG_ok hz]
              refine Nodes.snoc Hat.out (Hn.out ▸ hsl.1) hp0 hF ?_
              rw [← Hn.out]
              have ho := ownsRow_setCell_below hown2 (a := ⟨w.heap.size + 1, 0, none⟩) (by exact hbl) (.slice va (n + 1) vc)
              have hs2 := Sl.of_own ho (by omega)
              simpa using hs2
    · rw [decide_eq_false h2] at R2
      have H2 := Lib.hid h2; clear h2
      go_upto_region 2 with (first
        | (go_at_call 122; refine R1.mono ?_; rintro e w' ⟨rfl, rfl⟩)
        | (go_at_call 123; refine R2.mono ?_; rintro e w1 ⟨rfl, hd⟩; have hc0' := hd.fr.cell hc0; have hc1' := hd.fr.cell hc1; have hz1' := hd.fr.fz hc1 hz1))
      clear hc0 hc1 hz1
      go_wp2
      exact add_no hs (fw.then hd.fr) hc1' (addE_arg (fun h => H2.out h.2)) (by decide) rfl rfl rfl
  · rw [decide_eq_false h1] at R1
    have H1 := Lib.hid h1; clear h1
    go_upto_region 2 with (go_at_call 122; refine R1.mono ?_; rintro e w' ⟨rfl, rfl⟩)
    go_wp2
    exact add_no hs fw hc1 (addE_arg (fun h => H1.out h.1)) (by decide) rfl rfl rfl

end Go.Proofs.YtppgjglfoibfcaaGreat
