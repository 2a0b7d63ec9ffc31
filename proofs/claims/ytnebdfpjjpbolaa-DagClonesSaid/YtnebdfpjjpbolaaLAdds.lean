import Derived.Test.YtnebdfpjjpbolaaAwake
import Derived.Test.YtnebdfpjjpbolaaAlike
set_option linter.unusedSimpArgs false
set_option linter.unusedVariables false
/-
  The law DagAdds, walked.
-/
namespace Go.Proofs.Ytnebdfpjjpbolaa
open Go.RowKit

theorem few_take {L : List Nd} (h : Few L) (k : Nat) : (makeG (L.take k)).length ≤ 30 := by
  have := len_makeG (L.take k); have := h.1; simp at this ⊢; simp at *; omega

theorem fewT {v : Value} {L : List Nd} {w : World} (hs : Nodes w v L) (h : Few L) : Calls Try.prog 9 #[v] w fun e w' => e = .returned (.bool true) ∧ w = w' := by
  have := few9 v L w hs
  rwa [decide_eq_true h] at this
theorem fewF {v : Value} {L : List Nd} {w : World} (hs : Nodes w v L) (h : ¬ Few L) : Calls Try.prog 9 #[v] w fun e w' => e = .returned (.bool false) ∧ w = w' := by
  have := few9 v L w hs
  rwa [decide_eq_false h] at this
theorem len_takes {L : List Nd} {n k : Nat} (hn : n = L.length) (h : n ≤ 30) : (makeG (L.take k)).length ≤ 4096 := by
  have := len_makeG (L.take k); simp at this; omega

set_option maxRecDepth 100000 in
set_option maxHeartbeats 4000000 in
theorem dagAdds3 (v : Value) (L : List Nd) (w : World) (hs : Nodes w v L) :
    Calls Try.prog 3 #[v] w fun e w' => e = .returned (.bool true) ∧ Fr [] w w' := by
  obtain ⟨a, c, rfl, hc, hm, hn⟩ := hs.form
  go_enter Try.func3, Try.ntmps3
  go_upto_region 2 with (go_at_call 8; refine (empty8 _).mono ?_; rintro e w1 ⟨dv, rfl, hd, f1⟩)
  obtain ⟨mN, hmN⟩ : ∃ m, m = w.heap.size := ⟨_, rfl⟩
  rw [← hmN] at hd
  have HmN : Hid (∀ k, k ∈ [mN, mN + 1] → w.heap.size ≤ k) := Lib.hid (fun k hk => by simp at hk; omega)
  have hms : mN + 1 < w1.heap.size := (hd.maps (mN + 1) (by simp)).lt
  clear hmN
  obtain ⟨db, rfl⟩ := hd.ptr
  have f2 := (Fr.refl w1).alloc (.cells #[.slice none 0 0] 27)
  have hR := (MapKept.heap_alloc w1 (.cells #[.slice none 0 0] 27)).1
  have hd := hd.fr f2 (by simp) (by simp)
  have F := f1.then f2
  generalize w1.alloc (.cells #[.slice none 0 0] 27) = wS at hR hd F ⊢
  obtain ⟨R, hRR⟩ : ∃ R, R = w1.heap.size := ⟨_, rfl⟩
  rw [← hRR] at hR hms ⊢
  have hRw : w.heap.size ≤ R := by rw [hRR]; exact f1.size
  clear hRR f2 f1
  have hs1 := hs.fr F
  by_cases hF : Few L
  · have hF1 := hF.1
    have HF := Lib.hid hF; clear hF
    obtain ⟨n, hnx⟩ : ∃ n, n = L.length := ⟨_, rfl⟩
    rw [← hnx] at hs hs1 hc hn hF1 ⊢
    have Hn := Lib.hid hnx; clear hnx
    go_wp2_with (go_at_call 9; refine (fewT hs1 HF.out).mono ?_; rintro e wx ⟨rfl, rfl⟩)
    go_loopw [5] (fun i wr => ∃ (k : Nat) (gv : Value), i = .int .i64 k ∧ k ≤ n ∧ DagAt wr (.pointer (some ⟨db, 0, none⟩)) mN (mN + 1) (makeG (L.take k)) ∧ Nodes wr gv (makeG (L.take k)) ∧ wr.heap[R]? = some (.cells #[gv] 27 (0, 0)) ∧ Fr [] w wr) (fun i _ => n - (intOf i).toNat)
    case atStart => exact ⟨0, _, rfl, Nat.zero_le _, hd, Nodes.nil _, hR, F⟩
    case round =>
      obtain ⟨k, gv, rfl, hk, hd, hg, hR, F0⟩ := hrel
      have hsr := hs.fr F0
      have hRc := row_cell hR
      obtain ⟨ga, gc, rfl, _⟩ := hg.form
      by_cases hlt : k < n
      · obtain ⟨x, hx⟩ : ∃ x, L[k]? = some x := ⟨_, List.getElem?_eq_getElem (Hn.out ▸ hlt)⟩
        obtain ⟨b, o, pv, hidx, hcell0, hcell1, hp⟩ := hsr.at_ Hn.out 22 35 Try.underlying22 Try.sizeOf35 k x hx
        obtain ⟨pa, pc, rfl, _⟩ := hp.form
        have Hx := Lib.hid hx; clear hx
        have hgl : (makeG (L.take k)).length ≤ 4096 := len_takes Hn.out hF1
        go_upto_region 7 with fail
        refine wp_region_ordX Fr.pre [16] (.op 0 0 (.op 1 2 (.op 2 2 (.op 3 2 (.op 4 2 (.op 5 0 (.op 6 2 (.op 7 2 (.op 8 2 (.op 9 2 (.op 10 0 (.alt 11 (.op 12 2 (.op 13 2 (.op 14 2 (.op 15 1 (.op 16 1 (.op 17 2 .fin)))))) 15 (.op 11 1 (.op 12 2 (.op 13 2 (.op 14 2 (.op 16 1 (.op 17 2 .fin)))))))))))))))))) _ (by kernel_rfl) (by kernel_rfl) (by simp only [pickX, List.getElem?_cons_succ, List.getElem?_cons_zero]; rfl) ?_
        have hRl := row_lt hR
        have F := (Fr.refl wr).drew
        have hd := hd.fr F (by simp) (by simp)
        have hg := hg.fr F
        have hp := hp.fr F
        have hcell0 := F.cell hcell0
        have hcell1 := F.cell hcell1
        have hR := F.row hR
        have hRc := F.cell hRc
        have x_hc0 := Ext.cell hcell0
        have x_hc1 := Ext.cell hcell1
        have x_hR := Ext.cell hRc
        repeat (first | (with_reducible refine wpX_q (fun K hK => ?_); go_simp; refine hK _ ?_; clear hK K) | (with_reducible refine wpX_p (fun K hK => ?_); go_simp; refine hK _ ?_; clear hK K))
        refine wpX_alt ?h1 ?h2
        case' h1 =>
          intro K hK
          (go_simp; intro wq hq; have F := F.then hq; (try clear x_hcell0 x_hcell1 x_hRc); have hd := hd.fr (hq) List.not_mem_nil List.not_mem_nil; have hg := hg.fr (hq); have hp := hp.fr (hq); have hcell0 := (hq).cell hcell0; have hcell1 := (hq).cell hcell1; have hR := (hq).row hR; have hRc := (hq).cell hRc; refine (add16 _ _ _ _ _ _ hg hp (Nat.le_trans hgl (by decide))).mono ?_; rintro e wp ⟨⟨u, rfl, hu⟩, g1⟩; have hd := hd.fr (g1) List.not_mem_nil List.not_mem_nil; have hg := hg.fr (g1); have hp := hp.fr (g1); have hcell0 := (g1).cell hcell0; have hcell1 := (g1).cell hcell1; have hR := (g1).row hR; have hRc := (g1).cell hRc; obtain ⟨ua, uc, rfl, _⟩ := hu.form; have F := F.then (g1); refine ⟨_, rfl, (g1), hK _ _ ?_⟩; clear hK K hq; have x_hcell0 := Ext.cell hcell0; have x_hcell1 := Ext.cell hcell1; have x_hRc := Ext.cell hRc; )
          repeat (first | (with_reducible refine wpX_q (fun K hK => ?_); go_simp; refine hK _ ?_; clear hK K) | (with_reducible refine wpX_p (fun K hK => ?_); go_simp; refine hK _ ?_; clear hK K))
          (refine wpX_e (fun K hK => ?_); go_simp; intro wq hq; have F := F.then hq; (try clear x_hcell0 x_hcell1 x_hRc); have hd := hd.fr (hq) List.not_mem_nil List.not_mem_nil; have hg := hg.fr (hq); have hp := hp.fr (hq); have hu := hu.fr (hq); have hcell0 := (hq).cell hcell0; have hcell1 := (hq).cell hcell1; have hR := (hq).row hR; have hRc := (hq).cell hRc; have hp_ := (Fr.refl wq).alloc (.cells #[.slice none 0 0] 27); have hd := hd.fr (hp_) List.not_mem_nil List.not_mem_nil; have hg := hg.fr (hp_); have hp := hp.fr (hp_); have hu := hu.fr (hp_); have hcell0 := (hp_).cell hcell0; have hcell1 := (hp_).cell hcell1; have hR := (hp_).row hR; have hRc := (hp_).cell hRc; have hN := (MapKept.heap_alloc wq (.cells #[.slice none 0 0] 27)).1; obtain ⟨N_hN, e_hN⟩ : ∃ N, N = wq.heap.size := ⟨_, rfl⟩; have l_hN := F.size; rw [← e_hN] at l_hN hN ⊢; have F := F.then hp_; refine ⟨hp_, hK _ _ ?_⟩; clear hK K hq hp_ e_hN; have x_hcell0 := Ext.cell hcell0; have x_hcell1 := Ext.cell hcell1; have x_hRc := Ext.cell hRc; )
          repeat (first | (with_reducible refine wpX_q (fun K hK => ?_); go_simp; refine hK _ ?_; clear hK K) | (with_reducible refine wpX_p (fun K hK => ?_); go_simp; refine hK _ ?_; clear hK K))
        case' h2 =>
          intro K hK
          (go_simp; intro wq hq; have F := F.then hq; (try clear x_hcell0 x_hcell1 x_hRc); have hd := hd.fr (hq) List.not_mem_nil List.not_mem_nil; have hg := hg.fr (hq); have hp := hp.fr (hq); have hcell0 := (hq).cell hcell0; have hcell1 := (hq).cell hcell1; have hR := (hq).row hR; have hRc := (hq).cell hRc; have hp_ := (Fr.refl wq).alloc (.cells #[.slice none 0 0] 27); have hd := hd.fr (hp_) List.not_mem_nil List.not_mem_nil; have hg := hg.fr (hp_); have hp := hp.fr (hp_); have hcell0 := (hp_).cell hcell0; have hcell1 := (hp_).cell hcell1; have hR := (hp_).row hR; have hRc := (hp_).cell hRc; have hN := (MapKept.heap_alloc wq (.cells #[.slice none 0 0] 27)).1; obtain ⟨N_hN, e_hN⟩ : ∃ N, N = wq.heap.size := ⟨_, rfl⟩; have l_hN := F.size; rw [← e_hN] at l_hN hN ⊢; have F := F.then hp_; refine ⟨hp_, hK _ _ ?_⟩; clear hK K hq hp_ e_hN; have x_hcell0 := Ext.cell hcell0; have x_hcell1 := Ext.cell hcell1; have x_hRc := Ext.cell hRc; )
          repeat (first | (with_reducible refine wpX_q (fun K hK => ?_); go_simp; refine hK _ ?_; clear hK K) | (with_reducible refine wpX_p (fun K hK => ?_); go_simp; refine hK _ ?_; clear hK K))
          (refine wpX_e (fun K hK => ?_); go_simp; intro wq hq; have F := F.then hq; (try clear x_hcell0 x_hcell1 x_hRc); have hd := hd.fr (hq) List.not_mem_nil List.not_mem_nil; have hg := hg.fr (hq); have hp := hp.fr (hq); have hN := (hq).row hN; have hcell0 := (hq).cell hcell0; have hcell1 := (hq).cell hcell1; have hR := (hq).row hR; have hRc := (hq).cell hRc; refine (add16 _ _ _ _ _ _ hg hp (Nat.le_trans hgl (by decide))).mono ?_; rintro e wp ⟨⟨u, rfl, hu⟩, g1⟩; have hd := hd.fr (g1) List.not_mem_nil List.not_mem_nil; have hg := hg.fr (g1); have hp := hp.fr (g1); have hN := (g1).row hN; have hcell0 := (g1).cell hcell0; have hcell1 := (g1).cell hcell1; have hR := (g1).row hR; have hRc := (g1).cell hRc; obtain ⟨ua, uc, rfl, _⟩ := hu.form; have F := F.then (g1); refine ⟨_, rfl, (g1), hK _ _ ?_⟩; clear hK K hq; have x_hcell0 := Ext.cell hcell0; have x_hcell1 := Ext.cell hcell1; have x_hRc := Ext.cell hRc; )
          repeat (first | (with_reducible refine wpX_q (fun K hK => ?_); go_simp; refine hK _ ?_; clear hK K) | (with_reducible refine wpX_p (fun K hK => ?_); go_simp; refine hK _ ?_; clear hK K))
        all_goals
          (refine wpX_e (fun K hK => ?_); go_simp; intro wq hq; have F := F.then hq; (try clear x_hcell0 x_hcell1 x_hRc); have hd := hd.fr (hq) List.not_mem_nil List.not_mem_nil; have hg := hg.fr (hq); have hp := hp.fr (hq); have hu := hu.fr (hq); have hcell0 := (hq).cell hcell0; have hcell1 := (hq).cell hcell1; have hR := (hq).row hR; have hRc := (hq).cell hRc; have hN := (hq).row hN; have hc_ := row_cell hN; have hz_ := row_frozen hN; go_simp; refine hK _ _ ?_; clear hK K hq hc_ hz_)
          have hNR : R ≠ N_hN := by omega
          have hd := hd.set hN (.slice ua (addG (makeG (L.take k)) x.id x.preds).length uc)
          have hu := hu.set (row_noText hN) (.slice ua (addG (makeG (L.take k)) x.id x.preds).length uc)
          have hp := hp.set (row_noText hN) (.slice ua (addG (makeG (L.take k)) x.id x.preds).length uc)
          have hR := row_far hR hNR (.slice ua (addG (makeG (L.take k)) x.id x.preds).length uc)
          have F := (F0.then F).setCell (a := ⟨N_hN, 0, none⟩) (Nat.le_trans F0.size l_hN) (.slice ua (addG (makeG (L.take k)) x.id x.preds).length uc)
          repeat (first | (with_reducible refine wpX_q (fun K hK => ?_); go_simp; refine hK _ ?_; clear hK K) | (with_reducible refine wpX_p (fun K hK => ?_); go_simp; refine hK _ ?_; clear hK K))
          refine wpX_nil (fun wp hw => ?_)
          have hd := hd.fr hw (by simp) (by simp)
          have hu := hu.fr hw
          have hp := hp.fr hw
          have hR := hw.row hR
          have hN := hw.row (row_set hN (.slice ua (addG (makeG (L.take k)) x.id x.preds).length uc))
          have F := F.then hw
          have hRc := row_cell hR
          have hRz := row_frozen hR
          have hNc := row_cell hN
          clear hw hg hcell0 hcell1 x_hc0 x_hc1 x_hR hsr l_hN hidx hp
          go_upto_region 9 with fail
          have hd := hd.set hR (.slice ua (addG (makeG (L.take k)) x.id x.preds).length uc)
          have hu := hu.set (row_noText hR) (.slice ua (addG (makeG (L.take k)) x.id x.preds).length uc)
          have F := F.setCell (a := ⟨R, 0, none⟩) hRw (.slice ua (addG (makeG (L.take k)) x.id x.preds).length uc)
          have hR := row_set hR (.slice ua (addG (makeG (L.take k)) x.id x.preds).length uc)
          have hRc := row_cell hR
          have hsr := hs.fr F
          clear hRz hNc hN
          generalize wp.setCell ⟨R, 0, none⟩ (.slice ua (addG (makeG (L.take k)) x.id x.preds).length uc) = wr at hd hu F hR hRc hsr ⊢
          obtain ⟨b, o, pv, hidx, hcell0, hcell1, hp⟩ := hsr.at_ Hn.out 22 35 Try.underlying22 Try.sizeOf35 k x Hx.out
          obtain ⟨pa, pc, rfl, _⟩ := hp.form
          refine wp_region_ordX Fr.pre [11] (.op 0 2 (.op 1 2 (.op 2 2 (.op 3 2 (.op 4 2 (.op 5 0 (.op 6 2 (.op 7 2 (.op 8 2 (.op 9 2 (.op 10 0 (.op 12 2 (.op 11 1 (.op 13 2 (.op 14 2 (.op 15 2 (.op 16 0 (.op 17 1 (.op 18 2 (.op 19 2 .fin)))))))))))))))))))) _ (by kernel_rfl) (by kernel_rfl) (by simp only [pickX, List.getElem?_cons_succ, List.getElem?_cons_zero]; rfl) ?_
          have F0 := F
          have F := (Fr.refl wr).drew
          have hd := hd.fr F (by simp) (by simp)
          have hu := hu.fr F
          have hp := hp.fr F
          have hcell0 := F.cell hcell0
          have hcell1 := F.cell hcell1
          have hRc := F.cell hRc
          have hR := F.row hR
          have x_hc0 := Ext.cell hcell0
          have x_hc1 := Ext.cell hcell1
          repeat (first | (with_reducible refine wpX_q (fun K hK => ?_); go_simp; refine hK _ ?_; clear hK K) | (with_reducible refine wpX_p (fun K hK => ?_); go_simp; refine hK _ ?_; clear hK K))
          refine wpX_e (fun K hK => ?_)
          go_simp
          intro wq hq
          have F := F.then hq
          have hd := hd.fr hq (by simp) (by simp)
          have hu := hu.fr hq
          have hp := hp.fr hq
          have hRc := hq.cell hRc
          have hR := hq.row hR
          have HmF : Fr [] w wq := F0.then F
          refine (add12 _ _ _ _ x.id x.preds _ _ hd (wf_makeG _) hp hgl).mono ?_
          rintro e wp ⟨rfl, hd, g1⟩
          have F := HmF.drop g1 HmN.out
          have hu := hu.fr g1
          have hRc := g1.cell hRc
          have hR := g1.row hR
          refine ⟨_, rfl, hK _ _ ?_⟩
          clear hK K hq x_hc0 x_hc1 hp hcell0 hcell1 hidx g1 HmF
          have x_hR := Ext.cell hRc
          have hgl2 : (addG (makeG (L.take k)) x.id x.preds).length ≤ 4096 := by have := len_addG (makeG (L.take k)) x.id x.preds; have := len_takes (k := k) Hn.out hF1; have := len_makeG (L.take k); simp at this; omega
          repeat (first | (with_reducible refine wpX_q (fun K hK => ?_); go_simp; refine hK _ ?_; clear hK K) | (with_reducible refine wpX_p (fun K hK => ?_); go_simp; refine hK _ ?_; clear hK K))
          (refine wpX_e (fun K hK => ?_); go_simp; intro wq hq; have F := F.then hq; have hd := hd.fr (hq) List.not_mem_nil List.not_mem_nil; have hu := hu.fr (hq); have hR := (hq).row hR; refine (alike13 _ _ _ _ hd.r hu (wf_addG (wf_makeG _)) hgl2).mono ?_; rintro e wp ⟨rfl, g1⟩; have hd := hd.fr (g1) List.not_mem_nil List.not_mem_nil; have hu := hu.fr (g1); have hR := (g1).row hR; have F := F.then (g1); refine ⟨_, rfl, (g1), hK _ _ ?_⟩; clear hK K hq; skip)
          clear x_hR
          repeat (first | (with_reducible refine wpX_q (fun K hK => ?_); go_simp; refine hK _ ?_; clear hK K) | (with_reducible refine wpX_p (fun K hK => ?_); go_simp; refine hK _ ?_; clear hK K))
          refine wpX_nil (fun wp hw => ?_)
          have hd := hd.fr hw (by simp) (by simp)
          have hu := hu.fr hw
          have hR := hw.row hR
          have F := F.then hw
          clear hw hRc
          go_wp2
          go_roundw
          case rel => exact ⟨k + 1, _, by go_num, by omega, by rw [makeG_take Hx.out]; exact hd, by rw [makeG_take Hx.out]; exact hu, hR, F⟩
          case measure => simp [intOf]; omega
      · go_wp2_with (go_at_call 10; refine (awake10 _).mono ?_; rintro e wx ⟨rfl, f⟩)
        go_ret
        exact ⟨rfl, F0.then f⟩
  · have HF := Lib.hid hF; clear hF
    go_wp2_with (first
      | (go_at_call 9; refine (fewF hs1 HF.out).mono ?_; rintro e wx ⟨rfl, rfl⟩)
      | (go_at_call 10; refine (awake10 _).mono ?_; rintro e wx ⟨rfl, f⟩))
    go_ret
    exact ⟨rfl, F.then f⟩
end Go.Proofs.Ytnebdfpjjpbolaa
