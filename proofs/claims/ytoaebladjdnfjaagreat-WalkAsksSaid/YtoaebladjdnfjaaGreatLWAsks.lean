import Derived.Test.YtoaebladjdnfjaaGreatLTops
set_option linter.unusedSimpArgs false
set_option linter.unusedVariables false
/-
  Chapter 18: WalkAsks.
-/
namespace Go.Proofs.YtoaebladjdnfjaaGreat
open Go.RowKit

set_option maxRecDepth 100000 in
set_option maxHeartbeats 8000000 in
theorem walkAsks3 (v av bv : Value) (L : List Nd) (la lb : List BS) (w : World) (hs : Nodes w v L) (ha : Strs w av la) (hb : Strs w bv lb) :
    Calls Tryz.prog 3 #[v, av, bv] w fun e w' => e = .returned (.bool true) ∧ Fr [] w w' := by
  obtain ⟨a, c, rfl, hc, hm, hn⟩ := hs.form
  obtain ⟨aa, ac, rfl, hac, ham, han⟩ := ha.form
  obtain ⟨ba, bc, rfl, hbc, hbm, hbn⟩ := hb.form
  have CF := fewW _ _ _ _ _ _ _ hs ha hb
  cases hB : fewB L la lb with
  | false =>
    rw [hB] at CF
    have CF := Lib.hid CF
    clear hB
    go_enter Tryz.func3, Tryz.ntmps3
    go_wp2_with (first
      | (go_at_call 7; refine CF.out.mono ?_; rintro e w0 ⟨rfl, f0⟩)
      | (go_at_call 8; refine (awakeW _).mono ?_; rintro e w1 ⟨rfl, f1⟩))
    go_ret
    exact ⟨rfl, f0.then f1⟩
  | true =>
    rw [hB] at CF
    have CF := Lib.hid CF
    obtain ⟨hF, hA, hA2⟩ := fewB_parts hB
    have HF := Lib.hid hF
    clear hF hB
    go_enter Tryz.func3, Tryz.ntmps3
    go_upto_region 4 with (first
      | (go_at_call 7; refine CF.out.mono ?_; rintro e w0 ⟨rfl, f0⟩)
      | (go_at_call 9; refine (make14 _ _ _ (hs.fr f0) (Nat.le_trans HF.out.1 (by decide))).mono ?_; rintro e w1 ⟨dv, mN, mH, gv, rfl, hd, -, -, hg, f1⟩; obtain ⟨db, rfl⟩ := hd.ptr; obtain ⟨ga, gc, rfl, _⟩ := hg.form))
    have f2 := (Fr.refl w1).alloc (.cells #[.slice ga (makeG L).length gc] 29)
    have hRc := World.cell?_alloc_new (w := w1) #[.slice ga (makeG L).length gc] 29 0
    have hd := (hd.fr f2 (by simp) (by simp)).r
    have hg := hg.fr f2
    have F := (f0.then f1).then f2
    obtain ⟨R, hRR⟩ : ∃ R, R = w1.heap.size := ⟨_, rfl⟩
    rw [← hRR] at hRc ⊢
    clear hRR
    generalize w1.alloc (.cells #[.slice ga (makeG L).length gc] 29) = wS at hd hg hRc F ⊢
    clear f0 f1 f2 CF
    have hlG := Lib.hid (len_makeF HF.out)
    have hwf := wf_makeG L
    have ha := ha.fr F
    have hb := hb.fr F
    have hRc : wS.cell? ⟨R, 0, none⟩ = some (.slice ga (makeG L).length gc) := hRc
    clear HF
    generalize makeG L = g at hd hg hRc hlG hwf ⊢
    have Hwf := Lib.hid hwf; clear hwf
    have HL1 := Lib.hid (Nat.le_trans hlG.out (by decide : 30 ≤ 10000))
    have HL2 := Lib.hid (Nat.le_trans hlG.out (by decide : 30 ≤ 4096))
    have HL3 := Lib.hid (Nat.le_trans hlG.out (by decide : 30 ≤ 1000))
    have HA := Lib.hid (Nat.le_trans hA (by decide : 20 ≤ 1000000))
    have HB := Lib.hid (Nat.le_trans hA2 (by decide : 20 ≤ 1000000))
    clear hs hc hm hn
    obtain ⟨n, hnx⟩ : ∃ n, n = la.length := ⟨_, rfl⟩
    rw [← hnx] at ha hac han hA ⊢
    have Hn := Lib.hid hnx; clear hnx
    obtain ⟨m, hmx⟩ : ∃ n, n = lb.length := ⟨_, rfl⟩
    rw [← hmx] at hb hbc hbn hA2 ⊢
    have Hm := Lib.hid hmx; clear hmx
    go_wp2
    go_loopw [9] (fun i wr => ∃ k : Nat, k ≤ n ∧ k ≤ m ∧ i = .int .i64 k ∧ Fr [] wS wr) (fun i _ => n - (intOf i).toNat)
    case atStart => exact ⟨0, Nat.zero_le _, Nat.zero_le _, rfl, .refl _⟩
    case round =>
      obtain ⟨k, hk, hkm, rfl, hf⟩ := hrel
      have hd := hd.fr hf
      have hg := hg.fr hf
      have ha := ha.fr hf
      have hb := hb.fr hf
      have hRc := hf.cell hRc
      by_cases hlt : k < n ∧ k < m
      · obtain ⟨hlt, hlt2⟩ := hlt
        obtain ⟨x, hx⟩ : ∃ x, la[k]? = some x := ⟨_, List.getElem?_eq_getElem (Hn.out ▸ hlt)⟩
        obtain ⟨y, hy⟩ : ∃ x, lb[k]? = some x := ⟨_, List.getElem?_eq_getElem (Hm.out ▸ hlt2)⟩
        obtain ⟨b, o, hidx, hcell⟩ := ha.at_ Hn.out 23 9 Tryz.underlying23 Tryz.sizeOf9 k x hx
        obtain ⟨b2, o2, hidx2, hcell2⟩ := hb.at_ Hm.out 23 9 Tryz.underlying23 Tryz.sizeOf9 k y hy
        clear hx hy
        go_upto_region 7 with fail
        refine wp_region_ordX Fr.pre [] (.op 0 2 (.op 1 2 (.op 2 2 (.op 3 2 (.op 4 0 (.op 5 2 (.op 6 2 (.op 7 2 (.op 8 0 (.op 10 0 (.op 11 2 (.op 12 2 (.op 13 2 (.op 14 0 (.op 15 2 (.op 16 2 (.op 17 2 (.op 18 0 (.op 9 1 (.op 19 1 (.op 20 1 (.op 21 2 .fin)))))))))))))))))))))) _ (by kernel_rfl) (by kernel_rfl) (by simp only [pickX, List.getElem?_cons_succ, List.getElem?_cons_zero]; rfl) ?_
        have F1 := (Fr.refl wr).drew
        have hd := hd.fr F1
        have hg := hg.fr F1
        have hRc := F1.cell hRc
        have x_hRc := Ext.cell hRc
        have x_1 := Ext.cell (F1.cell hcell)
        have x_2 := Ext.cell (F1.cell hcell2)
        have F := F1
        repeat (first | (with_reducible refine wpX_q (fun K hK => ?_); go_simp; refine hK _ ?_; clear hK K) | (with_reducible refine wpX_p (fun K hK => ?_); go_simp; refine hK _ ?_; clear hK K) | (with_reducible refine wpX_p (fun K hK => ?_); go_simp; rw [if_neg (by simp [undef])]; refine hK _ ?_; clear hK K) | (with_reducible refine wpX_q (fun K hK => ?_); go_simp; rw [if_neg (by simp [undef])]; refine hK _ ?_; clear hK K))
        clear x_1 x_2
        (refine wpX_e (fun K hK => ?_); go_simp; intro wq hq; have F := F.then hq; (try clear x_hRc); have hd := hd.fr (hq); have hg := hg.fr (hq); have hRc := (hq).cell hRc; refine (commonD _ _ _ _ _ hd Hwf.out HL2.out).mono ?_; rintro e wp ⟨u1, rfl, hu1, g1⟩; have hd := hd.fr (g1); have hg := hg.fr (g1); have hRc := (g1).cell hRc; obtain ⟨ua1, uc1, rfl, _⟩ := hu1.form; have F := F.then (g1); refine ⟨_, rfl, (g1), hK _ _ ?_⟩; clear hK K hq; have x_hRc := Ext.cell hRc; )
        repeat (first | (with_reducible refine wpX_q (fun K hK => ?_); go_simp; refine hK _ ?_; clear hK K) | (with_reducible refine wpX_p (fun K hK => ?_); go_simp; refine hK _ ?_; clear hK K) | (with_reducible refine wpX_p (fun K hK => ?_); go_simp; rw [if_neg (by simp [undef])]; refine hK _ ?_; clear hK K) | (with_reducible refine wpX_q (fun K hK => ?_); go_simp; rw [if_neg (by simp [undef])]; refine hK _ ?_; clear hK K))
        (refine wpX_e (fun K hK => ?_); go_simp; intro wq hq; have F := F.then hq; have hg := hg.fr (hq); have hu1 := hu1.fr (hq); refine (common12 _ _ _ _ _ hg Hwf.out HL2.out).mono ?_; rintro e wp ⟨u2, rfl, hu2, g1⟩; have hg := hg.fr (g1); have hu1 := hu1.fr (g1); obtain ⟨ua2, uc2, rfl, _⟩ := hu2.form; have F := F.then (g1); refine ⟨_, rfl, (g1), hK _ _ ?_⟩; clear hK K hq; skip)
        repeat (first | (with_reducible refine wpX_q (fun K hK => ?_); go_simp; refine hK _ ?_; clear hK K) | (with_reducible refine wpX_p (fun K hK => ?_); go_simp; refine hK _ ?_; clear hK K) | (with_reducible refine wpX_p (fun K hK => ?_); go_simp; rw [if_neg (by simp [undef])]; refine hK _ ?_; clear hK K) | (with_reducible refine wpX_q (fun K hK => ?_); go_simp; rw [if_neg (by simp [undef])]; refine hK _ ?_; clear hK K))
        (refine wpX_e (fun K hK => ?_); go_simp; intro wq hq; have F := F.then hq; have hu1 := hu1.fr (hq); have hu2 := hu2.fr (hq); refine (textsT _ _ _ _ _ hu1 hu2 rfl).mono ?_; rintro e wp ⟨rfl, g1⟩; have hu1 := hu1.fr (g1); have hu2 := hu2.fr (g1); have F := F.then (g1); refine ⟨_, rfl, (g1), hK _ _ ?_⟩; clear hK K hq; skip)
        repeat (first | (with_reducible refine wpX_q (fun K hK => ?_); go_simp; refine hK _ ?_; clear hK K) | (with_reducible refine wpX_p (fun K hK => ?_); go_simp; refine hK _ ?_; clear hK K) | (with_reducible refine wpX_p (fun K hK => ?_); go_simp; rw [if_neg (by simp [undef])]; refine hK _ ?_; clear hK K) | (with_reducible refine wpX_q (fun K hK => ?_); go_simp; rw [if_neg (by simp [undef])]; refine hK _ ?_; clear hK K))
        refine wpX_nil (fun w7 hw7 => ?_)
        clear hcell hcell2 hidx hidx2 hRc hu1 hu2 hd hg
        go_wp2
        go_roundw
        case rel => exact ⟨k + 1, by omega, by omega, by go_num, hf.then (F.then hw7)⟩
        case measure => simp [intOf]; omega
      · have F := F.then hf
        clear hf
        have hcase : ¬ k < n ∨ (k < n ∧ ¬ k < m) := by omega
        clear hlt
        rcases hcase with h1 | ⟨h1, h2⟩
        all_goals
          go_upto_region 9 with fail
          refine wp_region_ordX Fr.pre [] (.op 0 2 (.op 1 2 (.op 2 2 (.op 4 0 (.op 5 2 (.op 6 2 (.op 3 1 (.op 7 1 (.op 8 1 (.op 9 2 (.op 10 2 (.op 11 2 (.op 13 0 (.op 14 2 (.op 12 1 (.op 15 1 (.op 16 1 (.op 17 2 (.op 18 2 (.op 19 2 (.op 20 2 (.op 22 0 (.op 23 2 (.op 21 1 (.op 24 1 (.op 25 1 (.op 26 2 (.op 27 2 (.op 28 2 (.op 29 2 (.op 31 0 (.op 32 2 (.op 30 1 (.op 33 1 (.op 34 2 (.op 35 2 (.op 36 2 (.op 37 2 (.op 38 2 (.op 40 0 (.op 41 2 (.op 39 1 (.op 42 1 (.op 43 1 (.op 44 2 (.op 45 2 (.op 46 1 (.op 47 2 (.op 48 2 .fin))))))))))))))))))))))))))))))))))))))))))))))))) _ (by kernel_rfl) (by kernel_rfl) (by simp only [pickX, List.getElem?_cons_succ, List.getElem?_cons_zero]; rfl) ?_
          have F0 := F
          have F := (Fr.refl wr).drew
          have hd := hd.fr F
          have hg := hg.fr F
          have ha := ha.fr F
          have hb := hb.fr F
          have hRc := F.cell hRc
          have x_hRc := Ext.cell hRc
          repeat (first | (with_reducible refine wpX_q (fun K hK => ?_); go_simp; refine hK _ ?_; clear hK K) | (with_reducible refine wpX_p (fun K hK => ?_); go_simp; refine hK _ ?_; clear hK K) | (with_reducible refine wpX_p (fun K hK => ?_); go_simp; rw [if_neg (by simp [undef])]; refine hK _ ?_; clear hK K) | (with_reducible refine wpX_q (fun K hK => ?_); go_simp; rw [if_neg (by simp [undef])]; refine hK _ ?_; clear hK K))
          (refine wpX_e (fun K hK => ?_); go_simp; intro wq hq; have F := F.then hq; (try clear x_hRc); have hd := hd.fr (hq); have hg := hg.fr (hq); have ha := ha.fr (hq); have hb := hb.fr (hq); have hRc := (hq).cell hRc; refine (betweenD _ _ _ _ _ _ _ hd ha hb Hwf.out HL2.out).mono ?_; rintro e wp ⟨u1, rfl, hu1, g1⟩; have hd := hd.fr (g1); have hg := hg.fr (g1); have ha := ha.fr (g1); have hb := hb.fr (g1); have hRc := (g1).cell hRc; obtain ⟨ua1, uc1, rfl, _⟩ := hu1.form; have F := F.then (g1); refine ⟨_, rfl, (g1), hK _ _ ?_⟩; clear hK K hq; have x_hRc := Ext.cell hRc; )
          repeat (first | (with_reducible refine wpX_q (fun K hK => ?_); go_simp; refine hK _ ?_; clear hK K) | (with_reducible refine wpX_p (fun K hK => ?_); go_simp; refine hK _ ?_; clear hK K) | (with_reducible refine wpX_p (fun K hK => ?_); go_simp; rw [if_neg (by simp [undef])]; refine hK _ ?_; clear hK K) | (with_reducible refine wpX_q (fun K hK => ?_); go_simp; rw [if_neg (by simp [undef])]; refine hK _ ?_; clear hK K))
          (refine wpX_e (fun K hK => ?_); go_simp; intro wq hq; have F := F.then hq; (try clear x_hRc); have hd := hd.fr (hq); have hg := hg.fr (hq); have ha := ha.fr (hq); have hb := hb.fr (hq); have hu1 := hu1.fr (hq); have hRc := (hq).cell hRc; refine (between14 _ _ _ _ _ _ _ hg ha hb Hwf.out HL2.out).mono ?_; rintro e wp ⟨u2, rfl, hu2, g1⟩; have hd := hd.fr (g1); have hg := hg.fr (g1); have ha := ha.fr (g1); have hb := hb.fr (g1); have hu1 := hu1.fr (g1); have hRc := (g1).cell hRc; obtain ⟨ua2, uc2, rfl, _⟩ := hu2.form; have F := F.then (g1); refine ⟨_, rfl, (g1), hK _ _ ?_⟩; clear hK K hq; have x_hRc := Ext.cell hRc; )
          repeat (first | (with_reducible refine wpX_q (fun K hK => ?_); go_simp; refine hK _ ?_; clear hK K) | (with_reducible refine wpX_p (fun K hK => ?_); go_simp; refine hK _ ?_; clear hK K) | (with_reducible refine wpX_p (fun K hK => ?_); go_simp; rw [if_neg (by simp [undef])]; refine hK _ ?_; clear hK K) | (with_reducible refine wpX_q (fun K hK => ?_); go_simp; rw [if_neg (by simp [undef])]; refine hK _ ?_; clear hK K))
          (refine wpX_e (fun K hK => ?_); go_simp; intro wq hq; have F := F.then hq; (try clear x_hRc); have hd := hd.fr (hq); have hg := hg.fr (hq); have ha := ha.fr (hq); have hb := hb.fr (hq); have hu1 := hu1.fr (hq); have hu2 := hu2.fr (hq); have hRc := (hq).cell hRc; refine (textsT _ _ _ _ _ hu1 hu2 rfl).mono ?_; rintro e wp ⟨rfl, g1⟩; have hd := hd.fr (g1); have hg := hg.fr (g1); have ha := ha.fr (g1); have hb := hb.fr (g1); have hu1 := hu1.fr (g1); have hu2 := hu2.fr (g1); have hRc := (g1).cell hRc; have F := F.then (g1); refine ⟨_, rfl, (g1), hK _ _ ?_⟩; clear hK K hq; have x_hRc := Ext.cell hRc; )
          clear hu1 hu2
          repeat (first | (with_reducible refine wpX_q (fun K hK => ?_); go_simp; refine hK _ ?_; clear hK K) | (with_reducible refine wpX_p (fun K hK => ?_); go_simp; refine hK _ ?_; clear hK K) | (with_reducible refine wpX_p (fun K hK => ?_); go_simp; rw [if_neg (by simp [undef])]; refine hK _ ?_; clear hK K) | (with_reducible refine wpX_q (fun K hK => ?_); go_simp; rw [if_neg (by simp [undef])]; refine hK _ ?_; clear hK K))
          (refine wpX_e (fun K hK => ?_); go_simp; intro wq hq; have F := F.then hq; (try clear x_hRc); have hd := hd.fr (hq); have hg := hg.fr (hq); have ha := ha.fr (hq); have hb := hb.fr (hq); have hRc := (hq).cell hRc; refine (lackingD _ _ _ _ _ hd ha HA.out).mono ?_; rintro e wp ⟨u1, rfl, hu1, g1⟩; have hd := hd.fr (g1); have hg := hg.fr (g1); have ha := ha.fr (g1); have hb := hb.fr (g1); have hRc := (g1).cell hRc; obtain ⟨ua1, uc1, rfl, _⟩ := hu1.form; have F := F.then (g1); refine ⟨_, rfl, (g1), hK _ _ ?_⟩; clear hK K hq; have x_hRc := Ext.cell hRc; )
          repeat (first | (with_reducible refine wpX_q (fun K hK => ?_); go_simp; refine hK _ ?_; clear hK K) | (with_reducible refine wpX_p (fun K hK => ?_); go_simp; refine hK _ ?_; clear hK K) | (with_reducible refine wpX_p (fun K hK => ?_); go_simp; rw [if_neg (by simp [undef])]; refine hK _ ?_; clear hK K) | (with_reducible refine wpX_q (fun K hK => ?_); go_simp; rw [if_neg (by simp [undef])]; refine hK _ ?_; clear hK K))
          (refine wpX_e (fun K hK => ?_); go_simp; intro wq hq; have F := F.then hq; (try clear x_hRc); have hd := hd.fr (hq); have hg := hg.fr (hq); have ha := ha.fr (hq); have hb := hb.fr (hq); have hu1 := hu1.fr (hq); have hRc := (hq).cell hRc; refine (lacking16 _ _ _ _ _ hg ha HA.out).mono ?_; rintro e wp ⟨u2, rfl, hu2, g1⟩; have hd := hd.fr (g1); have hg := hg.fr (g1); have ha := ha.fr (g1); have hb := hb.fr (g1); have hu1 := hu1.fr (g1); have hRc := (g1).cell hRc; obtain ⟨ua2, uc2, rfl, _⟩ := hu2.form; have F := F.then (g1); refine ⟨_, rfl, (g1), hK _ _ ?_⟩; clear hK K hq; have x_hRc := Ext.cell hRc; )
          repeat (first | (with_reducible refine wpX_q (fun K hK => ?_); go_simp; refine hK _ ?_; clear hK K) | (with_reducible refine wpX_p (fun K hK => ?_); go_simp; refine hK _ ?_; clear hK K) | (with_reducible refine wpX_p (fun K hK => ?_); go_simp; rw [if_neg (by simp [undef])]; refine hK _ ?_; clear hK K) | (with_reducible refine wpX_q (fun K hK => ?_); go_simp; rw [if_neg (by simp [undef])]; refine hK _ ?_; clear hK K))
          (refine wpX_e (fun K hK => ?_); go_simp; intro wq hq; have F := F.then hq; (try clear x_hRc); have hd := hd.fr (hq); have hg := hg.fr (hq); have ha := ha.fr (hq); have hb := hb.fr (hq); have hu1 := hu1.fr (hq); have hu2 := hu2.fr (hq); have hRc := (hq).cell hRc; refine (textsT _ _ _ _ _ hu1 hu2 rfl).mono ?_; rintro e wp ⟨rfl, g1⟩; have hd := hd.fr (g1); have hg := hg.fr (g1); have ha := ha.fr (g1); have hb := hb.fr (g1); have hu1 := hu1.fr (g1); have hu2 := hu2.fr (g1); have hRc := (g1).cell hRc; have F := F.then (g1); refine ⟨_, rfl, (g1), hK _ _ ?_⟩; clear hK K hq; have x_hRc := Ext.cell hRc; )
          clear hu1 hu2
          repeat (first | (with_reducible refine wpX_q (fun K hK => ?_); go_simp; refine hK _ ?_; clear hK K) | (with_reducible refine wpX_p (fun K hK => ?_); go_simp; refine hK _ ?_; clear hK K) | (with_reducible refine wpX_p (fun K hK => ?_); go_simp; rw [if_neg (by simp [undef])]; refine hK _ ?_; clear hK K) | (with_reducible refine wpX_q (fun K hK => ?_); go_simp; rw [if_neg (by simp [undef])]; refine hK _ ?_; clear hK K))
          (refine wpX_e (fun K hK => ?_); go_simp; intro wq hq; have F := F.then hq; (try clear x_hRc); have hd := hd.fr (hq); have hg := hg.fr (hq); have ha := ha.fr (hq); have hb := hb.fr (hq); have hRc := (hq).cell hRc; refine (topsD _ _ _ _ _ hd ha HA.out Hwf.out HL2.out).mono ?_; rintro e wp ⟨u1, rfl, hu1, g1⟩; have hd := hd.fr (g1); have hg := hg.fr (g1); have ha := ha.fr (g1); have hb := hb.fr (g1); have hRc := (g1).cell hRc; obtain ⟨ua1, uc1, rfl, _⟩ := hu1.form; have F := F.then (g1); refine ⟨_, rfl, (g1), hK _ _ ?_⟩; clear hK K hq; have x_hRc := Ext.cell hRc; )
          repeat (first | (with_reducible refine wpX_q (fun K hK => ?_); go_simp; refine hK _ ?_; clear hK K) | (with_reducible refine wpX_p (fun K hK => ?_); go_simp; refine hK _ ?_; clear hK K) | (with_reducible refine wpX_p (fun K hK => ?_); go_simp; rw [if_neg (by simp [undef])]; refine hK _ ?_; clear hK K) | (with_reducible refine wpX_q (fun K hK => ?_); go_simp; rw [if_neg (by simp [undef])]; refine hK _ ?_; clear hK K))
          (refine wpX_e (fun K hK => ?_); go_simp; intro wq hq; have F := F.then hq; (try clear x_hRc); have hd := hd.fr (hq); have hg := hg.fr (hq); have ha := ha.fr (hq); have hb := hb.fr (hq); have hu1 := hu1.fr (hq); have hRc := (hq).cell hRc; refine (tops18 _ _ _ _ _ hg ha HA.out Hwf.out HL2.out).mono ?_; rintro e wp ⟨u2, rfl, hu2, g1⟩; have hd := hd.fr (g1); have hg := hg.fr (g1); have ha := ha.fr (g1); have hb := hb.fr (g1); have hu1 := hu1.fr (g1); have hRc := (g1).cell hRc; obtain ⟨ua2, uc2, rfl, _⟩ := hu2.form; have F := F.then (g1); refine ⟨_, rfl, (g1), hK _ _ ?_⟩; clear hK K hq; have x_hRc := Ext.cell hRc; )
          repeat (first | (with_reducible refine wpX_q (fun K hK => ?_); go_simp; refine hK _ ?_; clear hK K) | (with_reducible refine wpX_p (fun K hK => ?_); go_simp; refine hK _ ?_; clear hK K) | (with_reducible refine wpX_p (fun K hK => ?_); go_simp; rw [if_neg (by simp [undef])]; refine hK _ ?_; clear hK K) | (with_reducible refine wpX_q (fun K hK => ?_); go_simp; rw [if_neg (by simp [undef])]; refine hK _ ?_; clear hK K))
          (refine wpX_e (fun K hK => ?_); go_simp; intro wq hq; have F := F.then hq; (try clear x_hRc); have hd := hd.fr (hq); have hg := hg.fr (hq); have ha := ha.fr (hq); have hb := hb.fr (hq); have hu1 := hu1.fr (hq); have hu2 := hu2.fr (hq); have hRc := (hq).cell hRc; refine (textsT _ _ _ _ _ hu1 hu2 rfl).mono ?_; rintro e wp ⟨rfl, g1⟩; have hd := hd.fr (g1); have hg := hg.fr (g1); have ha := ha.fr (g1); have hb := hb.fr (g1); have hu1 := hu1.fr (g1); have hu2 := hu2.fr (g1); have hRc := (g1).cell hRc; have F := F.then (g1); refine ⟨_, rfl, (g1), hK _ _ ?_⟩; clear hK K hq; have x_hRc := Ext.cell hRc; )
          clear hu1 hu2
          repeat (first | (with_reducible refine wpX_q (fun K hK => ?_); go_simp; refine hK _ ?_; clear hK K) | (with_reducible refine wpX_p (fun K hK => ?_); go_simp; refine hK _ ?_; clear hK K) | (with_reducible refine wpX_p (fun K hK => ?_); go_simp; rw [if_neg (by simp [undef])]; refine hK _ ?_; clear hK K) | (with_reducible refine wpX_q (fun K hK => ?_); go_simp; rw [if_neg (by simp [undef])]; refine hK _ ?_; clear hK K))
          (refine wpX_e (fun K hK => ?_); go_simp; intro wq hq; have F := F.then hq; (try clear x_hRc); have hd := hd.fr (hq); have hg := hg.fr (hq); have ha := ha.fr (hq); have hb := hb.fr (hq); have hRc := (hq).cell hRc; refine (closedD _ _ _ _ _ hd ha HA.out Hwf.out HL2.out).mono ?_; rintro e wp ⟨rfl, g1⟩; have hd := hd.fr (g1); have hg := hg.fr (g1); have ha := ha.fr (g1); have hb := hb.fr (g1); have hRc := (g1).cell hRc; have F := F.then (g1); refine ⟨_, rfl, (g1), hK _ _ ?_⟩; clear hK K hq; have x_hRc := Ext.cell hRc; )
          repeat (first | (with_reducible refine wpX_q (fun K hK => ?_); go_simp; refine hK _ ?_; clear hK K) | (with_reducible refine wpX_p (fun K hK => ?_); go_simp; refine hK _ ?_; clear hK K) | (with_reducible refine wpX_p (fun K hK => ?_); go_simp; rw [if_neg (by simp [undef])]; refine hK _ ?_; clear hK K) | (with_reducible refine wpX_q (fun K hK => ?_); go_simp; rw [if_neg (by simp [undef])]; refine hK _ ?_; clear hK K))
          (refine wpX_e (fun K hK => ?_); go_simp; intro wq hq; have F := F.then hq; (try clear x_hRc); have hd := hd.fr (hq); have hg := hg.fr (hq); have ha := ha.fr (hq); have hb := hb.fr (hq); have hRc := (hq).cell hRc; refine (closed20 _ _ _ _ _ hg ha HA.out Hwf.out HL2.out).mono ?_; rintro e wp ⟨rfl, g1⟩; have hd := hd.fr (g1); have hg := hg.fr (g1); have ha := ha.fr (g1); have hb := hb.fr (g1); have hRc := (g1).cell hRc; have F := F.then (g1); refine ⟨_, rfl, (g1), hK _ _ ?_⟩; clear hK K hq; have x_hRc := Ext.cell hRc; )
          repeat (first | (with_reducible refine wpX_q (fun K hK => ?_); go_simp; refine hK _ ?_; clear hK K) | (with_reducible refine wpX_p (fun K hK => ?_); go_simp; refine hK _ ?_; clear hK K) | (with_reducible refine wpX_p (fun K hK => ?_); go_simp; rw [if_neg (by simp [undef])]; refine hK _ ?_; clear hK K) | (with_reducible refine wpX_q (fun K hK => ?_); go_simp; rw [if_neg (by simp [undef])]; refine hK _ ?_; clear hK K))
          (refine wpX_e (fun K hK => ?_); go_simp; intro wq hq; have F := F.then hq; (try clear x_hRc); have hd := hd.fr (hq); have hg := hg.fr (hq); have ha := ha.fr (hq); have hb := hb.fr (hq); have hRc := (hq).cell hRc; refine (spreadD _ _ _ _ _ hd ha HA.out Hwf.out HL3.out).mono ?_; rintro e wp ⟨u1, rfl, hu1, g1⟩; have hd := hd.fr (g1); have hg := hg.fr (g1); have ha := ha.fr (g1); have hb := hb.fr (g1); have hRc := (g1).cell hRc; obtain ⟨ua1, uc1, rfl, _⟩ := hu1.form; have F := F.then (g1); refine ⟨_, rfl, (g1), hK _ _ ?_⟩; clear hK K hq; have x_hRc := Ext.cell hRc; )
          repeat (first | (with_reducible refine wpX_q (fun K hK => ?_); go_simp; refine hK _ ?_; clear hK K) | (with_reducible refine wpX_p (fun K hK => ?_); go_simp; refine hK _ ?_; clear hK K) | (with_reducible refine wpX_p (fun K hK => ?_); go_simp; rw [if_neg (by simp [undef])]; refine hK _ ?_; clear hK K) | (with_reducible refine wpX_q (fun K hK => ?_); go_simp; rw [if_neg (by simp [undef])]; refine hK _ ?_; clear hK K))
          (refine wpX_e (fun K hK => ?_); go_simp; intro wq hq; have F := F.then hq; have hg := hg.fr (hq); have ha := ha.fr (hq); have hu1 := hu1.fr (hq); refine (spread22 _ _ _ _ _ hg ha HA.out Hwf.out HL2.out).mono ?_; rintro e wp ⟨u2, rfl, hu2, g1⟩; have hg := hg.fr (g1); have ha := ha.fr (g1); have hu1 := hu1.fr (g1); obtain ⟨ua2, uc2, rfl, _⟩ := hu2.form; have F := F.then (g1); refine ⟨_, rfl, (g1), hK _ _ ?_⟩; clear hK K hq; skip)
          repeat (first | (with_reducible refine wpX_q (fun K hK => ?_); go_simp; refine hK _ ?_; clear hK K) | (with_reducible refine wpX_p (fun K hK => ?_); go_simp; refine hK _ ?_; clear hK K) | (with_reducible refine wpX_p (fun K hK => ?_); go_simp; rw [if_neg (by simp [undef])]; refine hK _ ?_; clear hK K) | (with_reducible refine wpX_q (fun K hK => ?_); go_simp; rw [if_neg (by simp [undef])]; refine hK _ ?_; clear hK K))
          (refine wpX_e (fun K hK => ?_); go_simp; intro wq hq; have F := F.then hq; have hu1 := hu1.fr (hq); have hu2 := hu2.fr (hq); refine (textsT _ _ _ _ _ hu1 hu2 rfl).mono ?_; rintro e wp ⟨rfl, g1⟩; have hu1 := hu1.fr (g1); have hu2 := hu2.fr (g1); have F := F.then (g1); refine ⟨_, rfl, (g1), hK _ _ ?_⟩; clear hK K hq; skip)
          clear hu1 hu2 hd hg ha hb hRc
          repeat (first | (with_reducible refine wpX_q (fun K hK => ?_); go_simp; refine hK _ ?_; clear hK K) | (with_reducible refine wpX_p (fun K hK => ?_); go_simp; refine hK _ ?_; clear hK K) | (with_reducible refine wpX_p (fun K hK => ?_); go_simp; rw [if_neg (by simp [undef])]; refine hK _ ?_; clear hK K) | (with_reducible refine wpX_q (fun K hK => ?_); go_simp; rw [if_neg (by simp [undef])]; refine hK _ ?_; clear hK K))
          (refine wpX_e (fun K hK => ?_); go_simp; intro wq hq; have F := F.then hq; refine (awakeW _).mono ?_; rintro e wp ⟨rfl, g1⟩; have F := F.then (g1); refine ⟨_, rfl, (g1), hK _ _ ?_⟩; clear hK K hq; skip)
          repeat (first | (with_reducible refine wpX_q (fun K hK => ?_); go_simp; refine hK _ ?_; clear hK K) | (with_reducible refine wpX_p (fun K hK => ?_); go_simp; refine hK _ ?_; clear hK K) | (with_reducible refine wpX_p (fun K hK => ?_); go_simp; rw [if_neg (by simp [undef])]; refine hK _ ?_; clear hK K) | (with_reducible refine wpX_q (fun K hK => ?_); go_simp; rw [if_neg (by simp [undef])]; refine hK _ ?_; clear hK K))
          refine wpX_nil (fun w9 hw9 => ?_)
          go_wp2
          go_ret
          exact ⟨rfl, F0.then (F.then hw9)⟩
end Go.Proofs.YtoaebladjdnfjaaGreat
