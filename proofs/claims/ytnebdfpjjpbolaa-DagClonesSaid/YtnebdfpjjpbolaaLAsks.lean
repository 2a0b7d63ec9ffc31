import Derived.Test.YtnebdfpjjpbolaaLAdds
set_option linter.unusedSimpArgs false
set_option linter.unusedVariables false
/-
  The law DagAsks, walked.
-/
namespace Go.Proofs.Ytnebdfpjjpbolaa
open Go.RowKit

theorem nodes_new (w : World) (pv : Value) (ps : List BS) (hp : Strs w pv ps) : Nodes (w.alloc (.cells #[.string ⟨#[]⟩, pv] 35)) (.slice (some ⟨w.heap.size, 0, none⟩) 1 1) [⟨⟨#[]⟩, ps⟩] :=
  ⟨_, Sl.new w #[.string ⟨#[]⟩, pv] 35 2 1 rfl (by omega), fun i n h => by
    cases i with
    | zero => simp at h; subst h; exact ⟨pv, rfl, rfl, hp.fr ((Fr.refl w).alloc _)⟩
    | succ i => simp at h⟩
abbrev FewA (l : List BS) : Prop := Few [⟨⟨#[]⟩, l⟩]
theorem len_makeF {L : List Nd} (h : Few L) : (makeG L).length ≤ 30 := Nat.le_trans (len_makeG L) h.1

set_option maxRecDepth 100000 in
set_option maxHeartbeats 4000000 in
theorem dagAsks4 (v av : Value) (L : List Nd) (l : List BS) (w : World) (hs : Nodes w v L) (ha : Strs w av l) :
    Calls Try.prog 4 #[v, av] w fun e w' => e = .returned (.bool true) ∧ Fr [] w w' := by
  obtain ⟨a, c, rfl, hc, hm, hn⟩ := hs.form
  obtain ⟨aa, ac, rfl, hac, ham, han⟩ := ha.form
  have hnw := nodes_new w _ l ha
  have f0 := (Fr.refl w).alloc (.cells #[.string ⟨#[]⟩, .slice aa l.length ac] 35)
  by_cases hF : Few L
  · have HF := Lib.hid hF; clear hF
    by_cases hA : l.length ≤ 10
    · have hd1 : decide ((10 : Int) < (l.length : Int)) = false := decide_eq_false (by omega)
      have hd2 : decide (10 < l.length) = false := decide_eq_false (by omega)
      by_cases hP : FewA l
      · have HP := Lib.hid hP; clear hP
        go_enter Try.func4, Try.ntmps4
        go_upto_region 4 with (first
          | (go_at_call 9; (with_reducible refine (fewT hs HF.out).mono ?_); rintro e wx ⟨rfl, rfl⟩)
          | (go_at_call 9; (with_reducible refine (fewT hnw HP.out).mono ?_); rintro e wx ⟨rfl, rfl⟩)
          | (go_at_call 14; refine (make14 _ _ _ (hs.fr f0) (Nat.le_trans HF.out.1 (by decide))).mono ?_; rintro e w1 ⟨dv, mN, mH, gv, rfl, hd, -, -, hg, f1⟩; obtain ⟨db, rfl⟩ := hd.ptr; obtain ⟨ga, gc, rfl, _⟩ := hg.form))
        have f2 := (Fr.refl w1).alloc (.cells #[.slice ga (makeG L).length gc] 27)
        have hRc := World.cell?_alloc_new (w := w1) #[.slice ga (makeG L).length gc] 27 0
        have hd := hd.fr f2 (by simp) (by simp)
        have hg := hg.fr f2
        have F := (f0.then f1).then f2
        obtain ⟨R, hRR⟩ : ∃ R, R = w1.heap.size := ⟨_, rfl⟩
        rw [← hRR] at hRc ⊢
        clear hRR
        generalize w1.alloc (.cells #[.slice ga (makeG L).length gc] 27) = wS at hd hg hRc F ⊢
        clear f0 f1 f2 hnw
        have hlG := Lib.hid (len_makeF HF.out)
        have hwf := wf_makeG L
        have ha := ha.fr F
        have hRc : wS.cell? ⟨R, 0, none⟩ = some (.slice ga (makeG L).length gc) := hRc
        have hl1 : (makeG L).length ≤ 10000 := by have := hlG.out; omega
        have hl2 : (makeG L).length ≤ 1000000 := by have := hlG.out; omega
        generalize makeG L = g at hd hg hRc hlG hwf hl1 hl2 ⊢
        have Hwf := Lib.hid hwf; clear hwf
        have HL1 := Lib.hid hl1; clear hl1
        have HL2 := Lib.hid hl2; clear hl2
        have hd := hd.r
        refine wp_region_ordX Fr.pre [] (.op 0 2 (.op 1 2 (.op 2 2 (.op 3 2 (.op 4 2 (.op 6 0 (.op 7 2 (.op 5 1 (.op 8 1 (.op 9 1 (.op 10 2 (.op 11 2 .fin)))))))))))) _ (by kernel_rfl) (by kernel_rfl) (by simp only [pickX, List.getElem?_cons_succ, List.getElem?_cons_zero]; rfl) ?_
        have F0 := F
        have F := (Fr.refl wS).drew
        have hd := hd.fr F
        have hg := hg.fr F
        have ha := ha.fr F
        have hRc := F.cell hRc
        have x_hRc := Ext.cell hRc
        repeat (first | (with_reducible refine wpX_q (fun K hK => ?_); go_simp; refine hK _ ?_; clear hK K) | (with_reducible refine wpX_p (fun K hK => ?_); go_simp; refine hK _ ?_; clear hK K))
        (refine wpX_e (fun K hK => ?_); go_simp; intro wq hq; have F := F.then hq; (try clear x_hRc); have hd := hd.fr (hq); have hg := hg.fr (hq); have ha := ha.fr (hq); have hRc := (hq).cell hRc; refine (pastD _ _ _ _ _ hd Hwf.out ha HL1.out).mono ?_; rintro e wp ⟨u1, rfl, hu1, g1⟩; have hd := hd.fr (g1); have hg := hg.fr (g1); have ha := ha.fr (g1); have hRc := (g1).cell hRc; obtain ⟨ua1, uc1, rfl, _⟩ := hu1.form; have F := F.then (g1); refine ⟨_, rfl, (g1), hK _ _ ?_⟩; clear hK K hq; have x_hRc := Ext.cell hRc; )
        repeat (first | (with_reducible refine wpX_q (fun K hK => ?_); go_simp; refine hK _ ?_; clear hK K) | (with_reducible refine wpX_p (fun K hK => ?_); go_simp; refine hK _ ?_; clear hK K))
        (refine wpX_e (fun K hK => ?_); go_simp; intro wq hq; have F := F.then hq; (try clear x_hRc); have hd := hd.fr (hq); have hg := hg.fr (hq); have ha := ha.fr (hq); have hu1 := hu1.fr (hq); have hRc := (hq).cell hRc; refine (pastN _ _ _ _ _ hg ha HL1.out Hwf.out).mono ?_; rintro e wp ⟨u2, rfl, hu2, g1⟩; have hd := hd.fr (g1); have hg := hg.fr (g1); have ha := ha.fr (g1); have hu1 := hu1.fr (g1); have hRc := (g1).cell hRc; obtain ⟨ua2, uc2, rfl, _⟩ := hu2.form; have F := F.then (g1); refine ⟨_, rfl, (g1), hK _ _ ?_⟩; clear hK K hq; have x_hRc := Ext.cell hRc; )
        repeat (first | (with_reducible refine wpX_q (fun K hK => ?_); go_simp; refine hK _ ?_; clear hK K) | (with_reducible refine wpX_p (fun K hK => ?_); go_simp; refine hK _ ?_; clear hK K))
        (refine wpX_e (fun K hK => ?_); go_simp; intro wq hq; have F := F.then hq; (try clear x_hRc); have hd := hd.fr (hq); have hg := hg.fr (hq); have ha := ha.fr (hq); have hu1 := hu1.fr (hq); have hu2 := hu2.fr (hq); have hRc := (hq).cell hRc; refine (textsT _ _ _ _ _ hu1 hu2 rfl).mono ?_; rintro e wp ⟨rfl, g1⟩; have hd := hd.fr (g1); have hg := hg.fr (g1); have ha := ha.fr (g1); have hu1 := hu1.fr (g1); have hu2 := hu2.fr (g1); have hRc := (g1).cell hRc; have F := F.then (g1); refine ⟨_, rfl, (g1), hK _ _ ?_⟩; clear hK K hq; have x_hRc := Ext.cell hRc; )
        repeat (first | (with_reducible refine wpX_q (fun K hK => ?_); go_simp; refine hK _ ?_; clear hK K) | (with_reducible refine wpX_p (fun K hK => ?_); go_simp; refine hK _ ?_; clear hK K))
        refine wpX_nil (fun w9 hw9 => ?_)
        have hd := hd.fr hw9
        have hg := hg.fr hw9
        have ha := ha.fr hw9
        have hRc := hw9.cell hRc
        have F := F0.then (F.then hw9)
        clear F0 hu1 hu2 x_hRc hw9
        clear hs
        obtain ⟨m, hmx⟩ : ∃ m, m = l.length := ⟨_, rfl⟩
        rw [← hmx] at ha hac han hA ⊢
        have Hm := Lib.hid hmx; clear hmx hd1 hd2
        go_wp2
        go_loopw [7] (fun i wr => ∃ k : Nat, k ≤ m ∧ i = .int .i64 k ∧ Fr [] w9 wr) (fun i _ => m - (intOf i).toNat)
        case atStart => exact ⟨0, Nat.zero_le _, rfl, .refl _⟩
        case round =>
          obtain ⟨k, hk, rfl, hf⟩ := hrel
          have hd := hd.fr hf
          have hg := hg.fr hf
          have ha := ha.fr hf
          have hRc := hf.cell hRc
          have F := F.then hf
          by_cases hlt : k < m
          · obtain ⟨x, hx⟩ : ∃ x, l[k]? = some x := ⟨_, List.getElem?_eq_getElem (Hm.out ▸ hlt)⟩
            obtain ⟨b, o, hidx, hcell⟩ := ha.at_ Hm.out 33 9 Try.underlying33 Try.sizeOf9 k x hx
            have Hx := Lib.hid hx; clear hx
            go_upto_region 10 with fail
            clear hcell hidx
            refine wp_region_ordX Fr.pre [] (.op 0 2 (.op 1 2 (.op 3 0 (.op 4 2 (.op 2 1 (.op 5 1 (.op 6 2 (.op 7 2 (.op 8 2 (.op 9 2 (.op 11 0 (.op 12 2 (.op 10 1 (.op 13 1 (.op 14 2 (.op 15 2 (.op 16 2 (.op 17 2 (.op 18 2 (.op 20 0 (.op 21 2 (.op 19 1 (.op 22 1 (.op 23 1 (.op 24 2 (.op 25 2 (.op 26 2 (.op 27 2 (.op 28 2 (.op 30 0 (.op 31 2 (.op 29 1 (.op 32 1 (.op 33 1 (.op 34 2 (.op 35 2 .fin)))))))))))))))))))))))))))))))))))) _ (by kernel_rfl) (by kernel_rfl) (by simp only [pickX, List.getElem?_cons_succ, List.getElem?_cons_zero]; rfl) ?_
            have F0 := F
            have F := (Fr.refl wr).drew
            have hd := hd.fr F
            have hg := hg.fr F
            have hRc := F.cell hRc
            have x_hRc := Ext.cell hRc
            repeat (first | (with_reducible refine wpX_q (fun K hK => ?_); go_simp; refine hK _ ?_; clear hK K) | (with_reducible refine wpX_p (fun K hK => ?_); go_simp; refine hK _ ?_; clear hK K))
            (refine wpX_e (fun K hK => ?_); go_simp; intro wq hq; have F := F.then hq; (try clear x_hRc); have hd := hd.fr (hq); have hg := hg.fr (hq); have hRc := (hq).cell hRc; refine (has18 _ _ _ _ hd).mono ?_; rintro e wp ⟨rfl, g1⟩; have hd := hd.fr (g1); have hg := hg.fr (g1); have hRc := (g1).cell hRc; have F := F.then (g1); refine ⟨_, rfl, (g1), hK _ _ ?_⟩; clear hK K hq; have x_hRc := Ext.cell hRc; )
            repeat (first | (with_reducible refine wpX_q (fun K hK => ?_); go_simp; refine hK _ ?_; clear hK K) | (with_reducible refine wpX_p (fun K hK => ?_); go_simp; refine hK _ ?_; clear hK K))
            (refine wpX_e (fun K hK => ?_); go_simp; intro wq hq; have F := F.then hq; (try clear x_hRc); have hd := hd.fr (hq); have hg := hg.fr (hq); have hRc := (hq).cell hRc; refine (has16 _ _ _ _ hg).mono ?_; rintro e wp ⟨rfl, g1⟩; have hd := hd.fr (g1); have hg := hg.fr (g1); have hRc := (g1).cell hRc; have F := F.then (g1); refine ⟨_, rfl, (g1), hK _ _ ?_⟩; clear hK K hq; have x_hRc := Ext.cell hRc; )
            repeat (first | (with_reducible refine wpX_q (fun K hK => ?_); go_simp; refine hK _ ?_; clear hK K) | (with_reducible refine wpX_p (fun K hK => ?_); go_simp; refine hK _ ?_; clear hK K))
            (refine wpX_e (fun K hK => ?_); go_simp; intro wq hq; have F := F.then hq; (try clear x_hRc); have hd := hd.fr (hq); have hg := hg.fr (hq); have hRc := (hq).cell hRc; refine (depthD _ _ _ _ hd).mono ?_; rintro e wp ⟨rfl, g1⟩; have hd := hd.fr (g1); have hg := hg.fr (g1); have hRc := (g1).cell hRc; have F := F.then (g1); refine ⟨_, rfl, (g1), hK _ _ ?_⟩; clear hK K hq; have x_hRc := Ext.cell hRc; )
            repeat (first | (with_reducible refine wpX_q (fun K hK => ?_); go_simp; refine hK _ ?_; clear hK K) | (with_reducible refine wpX_p (fun K hK => ?_); go_simp; refine hK _ ?_; clear hK K))
            (refine wpX_e (fun K hK => ?_); go_simp; intro wq hq; have F := F.then hq; (try clear x_hRc); have hd := hd.fr (hq); have hg := hg.fr (hq); have hRc := (hq).cell hRc; refine (depth16 _ _ _ _ hg HL2.out Hwf.out).mono ?_; rintro e wp ⟨rfl, g1⟩; have hd := hd.fr (g1); have hg := hg.fr (g1); have hRc := (g1).cell hRc; have F := F.then (g1); refine ⟨_, rfl, (g1), hK _ _ ?_⟩; clear hK K hq; have x_hRc := Ext.cell hRc; )
            repeat (first | (with_reducible refine wpX_q (fun K hK => ?_); go_simp; refine hK _ ?_; clear hK K) | (with_reducible refine wpX_p (fun K hK => ?_); go_simp; refine hK _ ?_; clear hK K))
            (refine wpX_e (fun K hK => ?_); go_simp; intro wq hq; have F := F.then hq; (try clear x_hRc); have hd := hd.fr (hq); have hg := hg.fr (hq); have hRc := (hq).cell hRc; refine (predsD _ _ _ _ hd Hwf.out HL1.out).mono ?_; rintro e wp ⟨u1, rfl, hu1, g1⟩; have hd := hd.fr (g1); have hg := hg.fr (g1); have hRc := (g1).cell hRc; obtain ⟨ua1, uc1, rfl, _⟩ := hu1.form; have F := F.then (g1); refine ⟨_, rfl, (g1), hK _ _ ?_⟩; clear hK K hq; have x_hRc := Ext.cell hRc; )
            repeat (first | (with_reducible refine wpX_q (fun K hK => ?_); go_simp; refine hK _ ?_; clear hK K) | (with_reducible refine wpX_p (fun K hK => ?_); go_simp; refine hK _ ?_; clear hK K))
            (refine wpX_e (fun K hK => ?_); go_simp; intro wq hq; have F := F.then hq; (try clear x_hRc); have hd := hd.fr (hq); have hg := hg.fr (hq); have hu1 := hu1.fr (hq); have hRc := (hq).cell hRc; refine (preds16 _ _ _ _ hg).mono ?_; rintro e wp ⟨u2, rfl, hu2, g1⟩; have hd := hd.fr (g1); have hg := hg.fr (g1); have hu1 := hu1.fr (g1); have hRc := (g1).cell hRc; obtain ⟨ua2, uc2, rfl, _⟩ := hu2.form; have F := F.then (g1); refine ⟨_, rfl, (g1), hK _ _ ?_⟩; clear hK K hq; have x_hRc := Ext.cell hRc; )
            repeat (first | (with_reducible refine wpX_q (fun K hK => ?_); go_simp; refine hK _ ?_; clear hK K) | (with_reducible refine wpX_p (fun K hK => ?_); go_simp; refine hK _ ?_; clear hK K))
            (refine wpX_e (fun K hK => ?_); go_simp; intro wq hq; have F := F.then hq; (try clear x_hRc); have hd := hd.fr (hq); have hg := hg.fr (hq); have hu1 := hu1.fr (hq); have hu2 := hu2.fr (hq); have hRc := (hq).cell hRc; refine (textsT _ _ _ _ _ hu1 hu2 rfl).mono ?_; rintro e wp ⟨rfl, g1⟩; have hd := hd.fr (g1); have hg := hg.fr (g1); have hu1 := hu1.fr (g1); have hu2 := hu2.fr (g1); have hRc := (g1).cell hRc; have F := F.then (g1); refine ⟨_, rfl, (g1), hK _ _ ?_⟩; clear hK K hq; have x_hRc := Ext.cell hRc; )
            clear hu1 hu2
            repeat (first | (with_reducible refine wpX_q (fun K hK => ?_); go_simp; refine hK _ ?_; clear hK K) | (with_reducible refine wpX_p (fun K hK => ?_); go_simp; refine hK _ ?_; clear hK K))
            (refine wpX_e (fun K hK => ?_); go_simp; intro wq hq; have F := F.then hq; (try clear x_hRc); have hd := hd.fr (hq); have hg := hg.fr (hq); have hRc := (hq).cell hRc; refine (kidsD _ _ _ _ hd Hwf.out HL1.out).mono ?_; rintro e wp ⟨u1, rfl, hu1, g1⟩; have hd := hd.fr (g1); have hg := hg.fr (g1); have hRc := (g1).cell hRc; obtain ⟨ua1, uc1, rfl, _⟩ := hu1.form; have F := F.then (g1); refine ⟨_, rfl, (g1), hK _ _ ?_⟩; clear hK K hq; have x_hRc := Ext.cell hRc; )
            repeat (first | (with_reducible refine wpX_q (fun K hK => ?_); go_simp; refine hK _ ?_; clear hK K) | (with_reducible refine wpX_p (fun K hK => ?_); go_simp; refine hK _ ?_; clear hK K))
            (refine wpX_e (fun K hK => ?_); go_simp; intro wq hq; have F := F.then hq; (try clear x_hRc); have hd := hd.fr (hq); have hg := hg.fr (hq); have hu1 := hu1.fr (hq); have hRc := (hq).cell hRc; refine (kids16 _ _ _ _ hg HL2.out).mono ?_; rintro e wp ⟨u2, rfl, hu2, g1⟩; have hd := hd.fr (g1); have hg := hg.fr (g1); have hu1 := hu1.fr (g1); have hRc := (g1).cell hRc; obtain ⟨ua2, uc2, rfl, _⟩ := hu2.form; have F := F.then (g1); refine ⟨_, rfl, (g1), hK _ _ ?_⟩; clear hK K hq; have x_hRc := Ext.cell hRc; )
            repeat (first | (with_reducible refine wpX_q (fun K hK => ?_); go_simp; refine hK _ ?_; clear hK K) | (with_reducible refine wpX_p (fun K hK => ?_); go_simp; refine hK _ ?_; clear hK K))
            (refine wpX_e (fun K hK => ?_); go_simp; intro wq hq; have F := F.then hq; (try clear x_hRc); have hd := hd.fr (hq); have hg := hg.fr (hq); have hu1 := hu1.fr (hq); have hu2 := hu2.fr (hq); have hRc := (hq).cell hRc; refine (textsT _ _ _ _ _ hu1 hu2 rfl).mono ?_; rintro e wp ⟨rfl, g1⟩; have hd := hd.fr (g1); have hg := hg.fr (g1); have hu1 := hu1.fr (g1); have hu2 := hu2.fr (g1); have hRc := (g1).cell hRc; have F := F.then (g1); refine ⟨_, rfl, (g1), hK _ _ ?_⟩; clear hK K hq; have x_hRc := Ext.cell hRc; )
            clear hu1 hu2
            repeat (first | (with_reducible refine wpX_q (fun K hK => ?_); go_simp; refine hK _ ?_; clear hK K) | (with_reducible refine wpX_p (fun K hK => ?_); go_simp; refine hK _ ?_; clear hK K))
            refine wpX_nil (fun w8 hw8 => ?_)
            have hd := hd.fr hw8
            have hg := hg.fr hw8
            have hRc := hw8.cell hRc
            have F2 := F.then hw8
            have F := F0.then F2
            have ha := ha.fr F2
            have hf := hf.then F2
            clear F0 x_hRc hw8 F2
            go_wp2
            go_loopw [9] (fun i wt => ∃ k : Nat, k ≤ m ∧ i = .int .i64 k ∧ Fr [] w8 wt) (fun i _ => m - (intOf i).toNat)
            case atStart => exact ⟨0, Nat.zero_le _, rfl, .refl _⟩
            case round =>
              obtain ⟨q, hq, rfl, hf2⟩ := hrel
              have hd := hd.fr hf2
              have hg := hg.fr hf2
              have ha := ha.fr hf2
              have hRc := hf2.cell hRc
              have F := F.then hf2
              by_cases hlt2 : q < m
              · obtain ⟨y, hy⟩ : ∃ x, l[q]? = some x := ⟨_, List.getElem?_eq_getElem (Hm.out ▸ hlt2)⟩
                obtain ⟨b, o, hidx, hcell⟩ := ha.at_ Hm.out 33 9 Try.underlying33 Try.sizeOf9 q y hy
                have Hy := Lib.hid hy; clear hy
                go_upto_region 15 with fail
                refine wp_region_ordX Fr.pre [] (.op 0 2 (.op 1 2 (.op 2 2 (.op 3 2 (.op 4 2 (.op 5 0 (.op 7 0 (.op 8 2 (.op 9 2 (.op 10 2 (.op 11 2 (.op 12 0 (.op 6 1 (.op 13 1 (.op 14 2 .fin))))))))))))))) _ (by kernel_rfl) (by kernel_rfl) (by simp only [pickX, List.getElem?_cons_succ, List.getElem?_cons_zero]; rfl) ?_
                have F := (Fr.refl wr).drew
                have hd := hd.fr F
                have hg := hg.fr F
                have hRc := F.cell hRc
                have hcell := F.cell hcell
                have x_hRc := Ext.cell hRc
                have x_hcell := Ext.cell hcell
                repeat (first | (with_reducible refine wpX_q (fun K hK => ?_); go_simp; refine hK _ ?_; clear hK K) | (with_reducible refine wpX_p (fun K hK => ?_); go_simp; refine hK _ ?_; clear hK K))
                (refine wpX_e (fun K hK => ?_); go_simp; intro wq hq; have F := F.then hq; (try clear x_hRc x_hcell); have hd := hd.fr (hq); have hg := hg.fr (hq); have hRc := (hq).cell hRc; have hcell := (hq).cell hcell; refine (aheadD _ _ _ _ _ hd Hwf.out HL1.out).mono ?_; rintro e wp ⟨rfl, g1⟩; have hd := hd.fr (g1); have hg := hg.fr (g1); have hRc := (g1).cell hRc; have hcell := (g1).cell hcell; have F := F.then (g1); refine ⟨_, rfl, (g1), hK _ _ ?_⟩; clear hK K hq; have x_hRc := Ext.cell hRc; have x_hcell := Ext.cell hcell; )
                repeat (first | (with_reducible refine wpX_q (fun K hK => ?_); go_simp; refine hK _ ?_; clear hK K) | (with_reducible refine wpX_p (fun K hK => ?_); go_simp; refine hK _ ?_; clear hK K))
                (refine wpX_e (fun K hK => ?_); go_simp; intro wq hq; have F := F.then hq; (try clear x_hRc x_hcell); have hd := hd.fr (hq); have hg := hg.fr (hq); have hRc := (hq).cell hRc; have hcell := (hq).cell hcell; refine (aheadN _ _ _ _ _ hg HL1.out Hwf.out).mono ?_; rintro e wp ⟨rfl, g1⟩; have hd := hd.fr (g1); have hg := hg.fr (g1); have hRc := (g1).cell hRc; have hcell := (g1).cell hcell; have F := F.then (g1); refine ⟨_, rfl, (g1), hK _ _ ?_⟩; clear hK K hq; have x_hRc := Ext.cell hRc; have x_hcell := Ext.cell hcell; )
                repeat (first | (with_reducible refine wpX_q (fun K hK => ?_); go_simp; refine hK _ ?_; clear hK K) | (with_reducible refine wpX_p (fun K hK => ?_); go_simp; refine hK _ ?_; clear hK K))
                refine wpX_nil (fun w7 hw7 => ?_)
                clear hd hg hRc hcell x_hRc x_hcell
                go_wp2
                go_roundw
                case rel => exact ⟨q + 1, by omega, by go_num, hf2.then (F.then hw7)⟩
                case measure => simp [intOf]; omega
              · go_wp2
                go_roundw
                case rel => exact ⟨k + 1, by omega, by go_num, hf.then hf2⟩
                case measure => simp [intOf]; omega
          · go_wp2_with (go_at_call 10; refine (awake10 _).mono ?_; rintro e wx ⟨rfl, f⟩)
            go_ret
            exact ⟨rfl, F.then f⟩
      · have HP := Lib.hid hP; clear hP
        go_enter Try.func4, Try.ntmps4
        go_wp2_with (first
          | (go_at_call 9; (with_reducible refine (fewT hs HF.out).mono ?_); rintro e wx ⟨rfl, rfl⟩)
          | (go_at_call 9; (with_reducible refine (fewF hnw HP.out).mono ?_); rintro e wx ⟨rfl, rfl⟩)
          | (go_at_call 10; refine (awake10 _).mono ?_; rintro e wx ⟨rfl, f⟩))
        go_ret
        exact ⟨rfl, f0.then f⟩
    · have hd1 : decide ((10 : Int) < (l.length : Int)) = true := decide_eq_true (by omega)
      have hd2 : decide (10 < l.length) = true := decide_eq_true (by omega)
      go_enter Try.func4, Try.ntmps4
      go_wp2_with (first
        | (go_at_call 9; (with_reducible refine (fewT hs HF.out).mono ?_); rintro e wx ⟨rfl, rfl⟩)
        | (go_at_call 10; refine (awake10 _).mono ?_; rintro e wx ⟨rfl, f⟩))
      go_ret
      exact ⟨rfl, f⟩
  · have HF := Lib.hid hF; clear hF
    go_enter Try.func4, Try.ntmps4
    go_wp2_with (first
      | (go_at_call 9; (with_reducible refine (fewF hs HF.out).mono ?_); rintro e wx ⟨rfl, rfl⟩)
      | (go_at_call 10; refine (awake10 _).mono ?_; rintro e wx ⟨rfl, f⟩))
    go_ret
    exact ⟨rfl, f⟩
end Go.Proofs.Ytnebdfpjjpbolaa
