import Derived.Test.YtnebdfpjjpbolaaCtr
set_option linter.unusedSimpArgs false
set_option linter.unusedVariables false
/-
  The law's Alike.
-/
namespace Go.Proofs.Ytnebdfpjjpbolaa
open Go.RowKit

theorem nodup_ids {g : G} (hw : Wf g) : (ids g).Nodup := by
  rw [List.nodup_iff_pairwise_ne, List.pairwise_iff_getElem]
  intro i j hi hj hij e
  simp only [length_ids] at hi hj
  have h2 : g[i]? = some g[i] := List.getElem?_eq_getElem hi
  have h3 : g[j]? = some g[j] := List.getElem?_eq_getElem hj
  have := at_uniq hw h2 h3 (by simpa [ids] using e)
  omega
theorem length_order {g : G} (hw : Wf g) : (ordL g g.length).length = g.length := by
  have h1 := (isOrder_ordL hw)
  have hnd : (ordL g g.length).Nodup := by
    refine h1.1.imp ?_
    intro a b h e
    subst e
    rcases h with h | h
    · omega
    · exact blt_irrefl _ h.2
  have e1 := nodup_len _ _ hnd fun y hy => (h1.2 y).1 hy
  have e2 := nodup_len _ _ (nodup_ids hw) fun y hy => (h1.2 y).2 hy
  rw [length_ids] at e1 e2
  omega

set_option maxRecDepth 100000 in
set_option maxHeartbeats 4000000 in
theorem alike13 (v gv : Value) (g : G) (w : World) (hd : DagR w v g) (hs : Nodes w gv g) (hw : Wf g) (hl : g.length ≤ 4096) :
    Calls Try.prog 13 #[v, .agg #[gv]] w fun e w' => e = .returned (.bool true) ∧ Fr [] w w' := by
  obtain ⟨a, c, rfl, hc, hm, hn⟩ := hs.form
  have Hw := Lib.hid hw; clear hw
  have hol := length_order Hw.out
  have f0 := (Fr.refl w).alloc (.cells #[.slice a g.length c] 27)
  have hc0 := World.cell?_alloc_new (w := w) #[.slice a g.length c] 27 0
  have hd := hd.fr f0
  have hs := hs.fr f0
  have Hol := Lib.hid hol; clear hol
  go_enter Try.func13, Try.ntmps13
  go_upto_region 2 with (go_at_call 41; refine (order16 _ _ _ hs (by omega) Hw.out).mono ?_; rintro e w1 ⟨ou, rfl, ho, f1⟩)
  obtain ⟨oa, oc, rfl, hoc, hom, hon⟩ := ho.form
  have F1 := f0.then f1
  have hd := hd.fr f1
  have hs := hs.fr f1
  have hc1 := f1.cell hc0
  clear f0 f1 hc0
  rw [Hol.out] at ho hoc hon ⊢
  refine wp_region_ordX Fr.pre [] (.op 0 2 (.op 2 2 (.op 3 0 (.op 1 1 (.op 4 2 (.op 5 2 (.op 6 2 (.op 8 2 (.op 7 1 (.op 9 1 (.op 10 2 (.op 11 2 (.op 12 2 (.op 13 2 (.op 15 0 (.op 14 1 (.op 16 1 (.op 17 1 (.op 18 2 (.op 19 2 .fin)))))))))))))))))))) _ (by kernel_rfl) (by kernel_rfl) (by simp only [pickX, List.getElem?_cons_succ, List.getElem?_cons_zero]; rfl) ?_
  have F := (Fr.refl w1).drew
  have hd := hd.fr F
  have hs := hs.fr F
  have ho := ho.fr F
  have hc1 := F.cell hc1
  have x_hc1 := Ext.cell hc1
  repeat (first | (with_reducible refine wpX_q (fun K hK => ?_); go_simp; refine hK _ ?_; clear hK K) | (with_reducible refine wpX_p (fun K hK => ?_); go_simp; refine hK _ ?_; clear hK K))
  (refine wpX_e (fun K hK => ?_); go_simp; intro wq hq; have F := F.then hq; (try clear x_hc1); have hd := hd.fr (hq); have hs := hs.fr (hq); have ho := ho.fr (hq); have hc1 := (hq).cell hc1; refine (len30 _ _ _ hd).mono ?_; rintro e wp ⟨rfl, rfl⟩; have hd := hd.fr (Fr.refl _); have hs := hs.fr (Fr.refl _); have ho := ho.fr (Fr.refl _); have hc1 := (Fr.refl _).cell hc1; have F := F.then (Fr.refl _); refine ⟨_, rfl, (Fr.refl _), hK _ _ ?_⟩; clear hK K hq; have x_hc1 := Ext.cell hc1; )
  repeat (first | (with_reducible refine wpX_q (fun K hK => ?_); go_simp; refine hK _ ?_; clear hK K) | (with_reducible refine wpX_p (fun K hK => ?_); go_simp; refine hK _ ?_; clear hK K))
  (refine wpX_e (fun K hK => ?_); go_simp; intro wq hq; have F := F.then hq; (try clear x_hc1); have hd := hd.fr (hq); have hs := hs.fr (hq); have ho := ho.fr (hq); have hc1 := (hq).cell hc1; refine (orderD _ _ _ hd Hw.out (by omega)).mono ?_; rintro e wp ⟨u1, rfl, hu1, g1⟩; have hd := hd.fr (g1); have hs := hs.fr (g1); have ho := ho.fr (g1); have hc1 := (g1).cell hc1; obtain ⟨ua1, uc1, rfl, _⟩ := hu1.form; have F := F.then (g1); refine ⟨_, rfl, (g1), hK _ _ ?_⟩; clear hK K hq; have x_hc1 := Ext.cell hc1; )
  rw [Hol.out] at hu1 ⊢
  repeat (first | (with_reducible refine wpX_q (fun K hK => ?_); go_simp; refine hK _ ?_; clear hK K) | (with_reducible refine wpX_p (fun K hK => ?_); go_simp; refine hK _ ?_; clear hK K))
  (refine wpX_e (fun K hK => ?_); go_simp; intro wq hq; have F := F.then hq; (try clear x_hc1); have hd := hd.fr (hq); have hs := hs.fr (hq); have ho := ho.fr (hq); have hu1 := hu1.fr (hq); have hc1 := (hq).cell hc1; refine (textsT _ _ _ _ _ hu1 ho rfl).mono ?_; rintro e wp ⟨rfl, g1⟩; have hd := hd.fr (g1); have hs := hs.fr (g1); have ho := ho.fr (g1); have hu1 := hu1.fr (g1); have hc1 := (g1).cell hc1; have F := F.then (g1); refine ⟨_, rfl, (g1), hK _ _ ?_⟩; clear hK K hq; have x_hc1 := Ext.cell hc1; )
  repeat (first | (with_reducible refine wpX_q (fun K hK => ?_); go_simp; refine hK _ ?_; clear hK K) | (with_reducible refine wpX_p (fun K hK => ?_); go_simp; refine hK _ ?_; clear hK K))
  (refine wpX_e (fun K hK => ?_); go_simp; intro wq hq; have F := F.then hq; (try clear x_hc1); have hd := hd.fr (hq); have hs := hs.fr (hq); have ho := ho.fr (hq); have hc1 := (hq).cell hc1; refine (heads34 _ _ _ hd Hw.out (by omega)).mono ?_; rintro e wp ⟨u1, rfl, hu1, g1⟩; have hd := hd.fr (g1); have hs := hs.fr (g1); have ho := ho.fr (g1); have hc1 := (g1).cell hc1; obtain ⟨ua1, uc1, rfl, _⟩ := hu1.form; have F := F.then (g1); refine ⟨_, rfl, (g1), hK _ _ ?_⟩; clear hK K hq; have x_hc1 := Ext.cell hc1; )
  repeat (first | (with_reducible refine wpX_q (fun K hK => ?_); go_simp; refine hK _ ?_; clear hK K) | (with_reducible refine wpX_p (fun K hK => ?_); go_simp; refine hK _ ?_; clear hK K))
  (refine wpX_e (fun K hK => ?_); go_simp; intro wq hq; have F := F.then hq; (try clear x_hc1); have hd := hd.fr (hq); have hs := hs.fr (hq); have ho := ho.fr (hq); have hu1 := hu1.fr (hq); have hc1 := (hq).cell hc1; refine (heads16 _ _ _ hs (by omega)).mono ?_; rintro e wp ⟨u2, rfl, hu2, g1⟩; have hd := hd.fr (g1); have hs := hs.fr (g1); have ho := ho.fr (g1); have hu1 := hu1.fr (g1); have hc1 := (g1).cell hc1; obtain ⟨ua2, uc2, rfl, _⟩ := hu2.form; have F := F.then (g1); refine ⟨_, rfl, (g1), hK _ _ ?_⟩; clear hK K hq; have x_hc1 := Ext.cell hc1; )
  repeat (first | (with_reducible refine wpX_q (fun K hK => ?_); go_simp; refine hK _ ?_; clear hK K) | (with_reducible refine wpX_p (fun K hK => ?_); go_simp; refine hK _ ?_; clear hK K))
  (refine wpX_e (fun K hK => ?_); go_simp; intro wq hq; have F := F.then hq; (try clear x_hc1); have hd := hd.fr (hq); have hs := hs.fr (hq); have ho := ho.fr (hq); have hu1 := hu1.fr (hq); have hu2 := hu2.fr (hq); have hc1 := (hq).cell hc1; refine (textsT _ _ _ _ _ hu1 hu2 rfl).mono ?_; rintro e wp ⟨rfl, g1⟩; have hd := hd.fr (g1); have hs := hs.fr (g1); have ho := ho.fr (g1); have hu1 := hu1.fr (g1); have hu2 := hu2.fr (g1); have hc1 := (g1).cell hc1; have F := F.then (g1); refine ⟨_, rfl, (g1), hK _ _ ?_⟩; clear hK K hq; have x_hc1 := Ext.cell hc1; )
  repeat (first | (with_reducible refine wpX_q (fun K hK => ?_); go_simp; refine hK _ ?_; clear hK K) | (with_reducible refine wpX_p (fun K hK => ?_); go_simp; refine hK _ ?_; clear hK K))
  refine wpX_nil (fun w9 hw9 => ?_)
  have hd := hd.fr hw9
  have hs := hs.fr hw9
  have ho := ho.fr hw9
  have hc1 := hw9.cell hc1
  have F := F1.then (F.then hw9)
  clear hu1 hu2 hoc F1
  obtain ⟨ol, hol⟩ : ∃ l, l = ordL g g.length := ⟨_, rfl⟩
  rw [← hol] at ho
  have Hon : Hid (g.length = ol.length) := Lib.hid (by rw [hol, Hol.out])
  clear hol
  have HL : g.length ≤ 10000 := by omega
  have HL := Lib.hid HL
  generalize g.length = n at hc hn hl hs ho hc1 Hon hon ⊢
  have hw9' : Fr [] w w9 := F
  clear F
  go_wp2
  go_loopw [6] (fun i wr => ∃ k : Nat, k ≤ n ∧ i = .int .i64 k ∧ Fr [] w9 wr) (fun i _ => n - (intOf i).toNat)
  case atStart => exact ⟨0, Nat.zero_le _, rfl, .refl _⟩
  case round =>
    obtain ⟨k, hk, rfl, hf⟩ := hrel
    have hd := hd.fr hf
    have hs := hs.fr hf
    have ho := ho.fr hf
    have hc1 := hf.cell hc1
    by_cases hlt : k < n
    · obtain ⟨x, hx⟩ : ∃ x, ol[k]? = some x := ⟨_, List.getElem?_eq_getElem (Hon.out ▸ hlt)⟩
      obtain ⟨b, o, hidx, hcell⟩ := ho.at_ Hon.out 33 9 Try.underlying33 Try.sizeOf9 k x hx
      have Hx := Lib.hid hx; clear hx
      go_upto_region 7 with fail
      refine wp_region_ordX Fr.pre [] (.op 0 2 (.op 1 2 (.op 2 2 (.op 3 2 (.op 4 0 (.op 6 0 (.op 7 2 (.op 8 2 (.op 9 2 (.op 10 0 (.op 5 1 (.op 11 1 (.op 12 1 (.op 13 2 (.op 14 2 (.op 15 2 (.op 16 2 (.op 17 2 (.op 18 2 (.op 19 0 (.op 21 0 (.op 22 2 (.op 23 2 (.op 24 2 (.op 25 0 (.op 20 1 (.op 26 1 (.op 27 1 (.op 28 2 (.op 29 2 (.op 30 2 (.op 31 2 (.op 32 2 (.op 33 2 (.op 34 2 (.op 35 0 (.op 37 0 (.op 38 2 (.op 39 2 (.op 40 2 (.op 41 0 (.op 36 1 (.op 42 1 (.op 43 2 (.op 44 2 .fin))))))))))))))))))))))))))))))))))))))))))))) _ (by kernel_rfl) (by kernel_rfl) (by simp only [pickX, List.getElem?_cons_succ, List.getElem?_cons_zero]; rfl) ?_
      have F := (Fr.refl wr).drew
      have hd := hd.fr F
      have hs := hs.fr F
      have hcell := F.cell hcell
      have hc1 := F.cell hc1
      have x_hc1 := Ext.cell hc1
      have x_hcell := Ext.cell hcell
      repeat (first | (with_reducible refine wpX_q (fun K hK => ?_); go_simp; refine hK _ ?_; clear hK K) | (with_reducible refine wpX_p (fun K hK => ?_); go_simp; refine hK _ ?_; clear hK K))
      (refine wpX_e (fun K hK => ?_); go_simp; intro wq hq; have F := F.then hq; (try clear x_hc1 x_hcell); have hd := hd.fr (hq); have hs := hs.fr (hq); have hc1 := (hq).cell hc1; have hcell := (hq).cell hcell; refine (predsD _ _ _ _ hd Hw.out HL.out).mono ?_; rintro e wp ⟨u1, rfl, hu1, g1⟩; have hd := hd.fr (g1); have hs := hs.fr (g1); have hc1 := (g1).cell hc1; have hcell := (g1).cell hcell; obtain ⟨ua1, uc1, rfl, _⟩ := hu1.form; have F := F.then (g1); refine ⟨_, rfl, (g1), hK _ _ ?_⟩; clear hK K hq; have x_hc1 := Ext.cell hc1; have x_hcell := Ext.cell hcell; )
      repeat (first | (with_reducible refine wpX_q (fun K hK => ?_); go_simp; refine hK _ ?_; clear hK K) | (with_reducible refine wpX_p (fun K hK => ?_); go_simp; refine hK _ ?_; clear hK K))
      (refine wpX_e (fun K hK => ?_); go_simp; intro wq hq; have F := F.then hq; (try clear x_hc1 x_hcell); have hd := hd.fr (hq); have hs := hs.fr (hq); have hu1 := hu1.fr (hq); have hc1 := (hq).cell hc1; have hcell := (hq).cell hcell; refine (preds16 _ _ _ _ hs).mono ?_; rintro e wp ⟨u2, rfl, hu2, g1⟩; have hd := hd.fr (g1); have hs := hs.fr (g1); have hu1 := hu1.fr (g1); have hc1 := (g1).cell hc1; have hcell := (g1).cell hcell; obtain ⟨ua2, uc2, rfl, _⟩ := hu2.form; have F := F.then (g1); refine ⟨_, rfl, (g1), hK _ _ ?_⟩; clear hK K hq; have x_hc1 := Ext.cell hc1; have x_hcell := Ext.cell hcell; )
      repeat (first | (with_reducible refine wpX_q (fun K hK => ?_); go_simp; refine hK _ ?_; clear hK K) | (with_reducible refine wpX_p (fun K hK => ?_); go_simp; refine hK _ ?_; clear hK K))
      (refine wpX_e (fun K hK => ?_); go_simp; intro wq hq; have F := F.then hq; (try clear x_hc1 x_hcell); have hd := hd.fr (hq); have hs := hs.fr (hq); have hu1 := hu1.fr (hq); have hu2 := hu2.fr (hq); have hc1 := (hq).cell hc1; have hcell := (hq).cell hcell; refine (textsT _ _ _ _ _ hu1 hu2 rfl).mono ?_; rintro e wp ⟨rfl, g1⟩; have hd := hd.fr (g1); have hs := hs.fr (g1); have hu1 := hu1.fr (g1); have hu2 := hu2.fr (g1); have hc1 := (g1).cell hc1; have hcell := (g1).cell hcell; have F := F.then (g1); refine ⟨_, rfl, (g1), hK _ _ ?_⟩; clear hK K hq; have x_hc1 := Ext.cell hc1; have x_hcell := Ext.cell hcell; )
      repeat (first | (with_reducible refine wpX_q (fun K hK => ?_); go_simp; refine hK _ ?_; clear hK K) | (with_reducible refine wpX_p (fun K hK => ?_); go_simp; refine hK _ ?_; clear hK K))
      (refine wpX_e (fun K hK => ?_); go_simp; intro wq hq; have F := F.then hq; (try clear x_hc1 x_hcell); have hd := hd.fr (hq); have hs := hs.fr (hq); have hc1 := (hq).cell hc1; have hcell := (hq).cell hcell; refine (kidsD _ _ _ _ hd Hw.out HL.out).mono ?_; rintro e wp ⟨u1, rfl, hu1, g1⟩; have hd := hd.fr (g1); have hs := hs.fr (g1); have hc1 := (g1).cell hc1; have hcell := (g1).cell hcell; obtain ⟨ua1, uc1, rfl, _⟩ := hu1.form; have F := F.then (g1); refine ⟨_, rfl, (g1), hK _ _ ?_⟩; clear hK K hq; have x_hc1 := Ext.cell hc1; have x_hcell := Ext.cell hcell; )
      repeat (first | (with_reducible refine wpX_q (fun K hK => ?_); go_simp; refine hK _ ?_; clear hK K) | (with_reducible refine wpX_p (fun K hK => ?_); go_simp; refine hK _ ?_; clear hK K))
      (refine wpX_e (fun K hK => ?_); go_simp; intro wq hq; have F := F.then hq; (try clear x_hc1 x_hcell); have hd := hd.fr (hq); have hs := hs.fr (hq); have hu1 := hu1.fr (hq); have hc1 := (hq).cell hc1; have hcell := (hq).cell hcell; refine (kids16 _ _ _ _ hs (Nat.le_trans HL.out (by decide))).mono ?_; rintro e wp ⟨u2, rfl, hu2, g1⟩; have hd := hd.fr (g1); have hs := hs.fr (g1); have hu1 := hu1.fr (g1); have hc1 := (g1).cell hc1; have hcell := (g1).cell hcell; obtain ⟨ua2, uc2, rfl, _⟩ := hu2.form; have F := F.then (g1); refine ⟨_, rfl, (g1), hK _ _ ?_⟩; clear hK K hq; have x_hc1 := Ext.cell hc1; have x_hcell := Ext.cell hcell; )
      repeat (first | (with_reducible refine wpX_q (fun K hK => ?_); go_simp; refine hK _ ?_; clear hK K) | (with_reducible refine wpX_p (fun K hK => ?_); go_simp; refine hK _ ?_; clear hK K))
      (refine wpX_e (fun K hK => ?_); go_simp; intro wq hq; have F := F.then hq; (try clear x_hc1 x_hcell); have hd := hd.fr (hq); have hs := hs.fr (hq); have hu1 := hu1.fr (hq); have hu2 := hu2.fr (hq); have hc1 := (hq).cell hc1; have hcell := (hq).cell hcell; refine (textsT _ _ _ _ _ hu1 hu2 rfl).mono ?_; rintro e wp ⟨rfl, g1⟩; have hd := hd.fr (g1); have hs := hs.fr (g1); have hu1 := hu1.fr (g1); have hu2 := hu2.fr (g1); have hc1 := (g1).cell hc1; have hcell := (g1).cell hcell; have F := F.then (g1); refine ⟨_, rfl, (g1), hK _ _ ?_⟩; clear hK K hq; have x_hc1 := Ext.cell hc1; have x_hcell := Ext.cell hcell; )
      repeat (first | (with_reducible refine wpX_q (fun K hK => ?_); go_simp; refine hK _ ?_; clear hK K) | (with_reducible refine wpX_p (fun K hK => ?_); go_simp; refine hK _ ?_; clear hK K))
      (refine wpX_e (fun K hK => ?_); go_simp; intro wq hq; have F := F.then hq; (try clear x_hc1 x_hcell); have hd := hd.fr (hq); have hs := hs.fr (hq); have hc1 := (hq).cell hc1; have hcell := (hq).cell hcell; refine (depthD _ _ _ _ hd).mono ?_; rintro e wp ⟨rfl, g1⟩; have hd := hd.fr (g1); have hs := hs.fr (g1); have hc1 := (g1).cell hc1; have hcell := (g1).cell hcell; have F := F.then (g1); refine ⟨_, rfl, (g1), hK _ _ ?_⟩; clear hK K hq; have x_hc1 := Ext.cell hc1; have x_hcell := Ext.cell hcell; )
      repeat (first | (with_reducible refine wpX_q (fun K hK => ?_); go_simp; refine hK _ ?_; clear hK K) | (with_reducible refine wpX_p (fun K hK => ?_); go_simp; refine hK _ ?_; clear hK K))
      (refine wpX_e (fun K hK => ?_); go_simp; intro wq hq; have F := F.then hq; (try clear x_hc1 x_hcell); have hd := hd.fr (hq); have hs := hs.fr (hq); have hc1 := (hq).cell hc1; have hcell := (hq).cell hcell; refine (depth16 _ _ _ _ hs (Nat.le_trans HL.out (by decide)) Hw.out).mono ?_; rintro e wp ⟨rfl, g1⟩; have hd := hd.fr (g1); have hs := hs.fr (g1); have hc1 := (g1).cell hc1; have hcell := (g1).cell hcell; have F := F.then (g1); refine ⟨_, rfl, (g1), hK _ _ ?_⟩; clear hK K hq; have x_hc1 := Ext.cell hc1; have x_hcell := Ext.cell hcell; )
      repeat (first | (with_reducible refine wpX_q (fun K hK => ?_); go_simp; refine hK _ ?_; clear hK K) | (with_reducible refine wpX_p (fun K hK => ?_); go_simp; refine hK _ ?_; clear hK K))
      refine wpX_nil (fun w8 hw8 => ?_)
      clear hd hs hu1 hu2 hc1 hcell x_hc1 x_hcell
      go_wp2
      go_roundw
      case rel => exact ⟨k + 1, by omega, by go_num, hf.then (F.then hw8)⟩
      case measure => simp [intOf]; omega
    · go_wp2
      go_ret
      exact ⟨rfl, hw9'.then hf⟩
end Go.Proofs.Ytnebdfpjjpbolaa
