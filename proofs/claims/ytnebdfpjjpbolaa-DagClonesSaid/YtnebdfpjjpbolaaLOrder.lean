import Derived.Test.YtnebdfpjjpbolaaLAsks
set_option linter.unusedSimpArgs false
set_option linter.unusedVariables false
/-
  The law DagOrder, walked.
-/
namespace Go.Proofs.Ytnebdfpjjpbolaa
open Go.RowKit

theorem ord_ahead {g : G} (hw : Wf g) {i : Nat} {x p : BS} (hx : (ordL g g.length)[i]? = some x) (hp : p ∈ preds g x) : p ∈ (ordL g g.length).take i := by
  obtain ⟨h1, h2⟩ := isOrder_ordL hw
  have hpo : p ∈ ordL g g.length := (h2 p).2 (preds_in hw hp)
  obtain ⟨j, hj⟩ := List.mem_iff_getElem?.1 hpo
  have hd := depth_pred hw hp
  rw [List.pairwise_iff_getElem] at h1
  obtain ⟨hi', hxi⟩ := List.getElem?_eq_some_iff.1 hx
  obtain ⟨hj', hpj⟩ := List.getElem?_eq_some_iff.1 hj
  rcases Nat.lt_trichotomy i j with h | h | h
  · have := h1 i j hi' hj' h
    rw [hxi, hpj] at this
    rcases this with h | h <;> omega
  · subst h
    have : x = p := hxi.symm.trans hpj
    subst this; omega
  · exact List.mem_of_getElem? (i := j) (by rw [List.getElem?_take_of_lt h]; exact hj)
theorem ord_once {g : G} (hw : Wf g) {i : Nat} {x : BS} (hx : (ordL g g.length)[i]? = some x) : x ∉ (ordL g g.length).take i := by
  obtain ⟨h1, h2⟩ := isOrder_ordL hw
  intro h
  obtain ⟨j, hj⟩ := List.mem_iff_getElem?.1 h
  have hji : j < i := by have := lt_of_getElem? hj; simp at this; omega
  rw [List.getElem?_take_of_lt hji] at hj
  rw [List.pairwise_iff_getElem] at h1
  obtain ⟨hi', hxi⟩ := List.getElem?_eq_some_iff.1 hx
  obtain ⟨hj', hpj⟩ := List.getElem?_eq_some_iff.1 hj
  have := h1 j i hj' hi' hji
  rw [hxi, hpj] at this
  rcases this with h | h
  · omega
  · exact blt_irrefl _ h.2
theorem ord_in {g : G} (hw : Wf g) {i : Nat} {x : BS} (hx : (ordL g g.length)[i]? = some x) : x ∈ ids g := ((isOrder_ordL hw).2 x).1 (List.mem_of_getElem? hx)
theorem hasT {v : Value} {xs : List BS} {id : BS} {w : World} (hs : Strs w v xs) (h : id ∈ xs) :
    Calls Try.prog 29 #[v, .string id] w fun e w' => e = .returned (.bool true) ∧ w = w' := by
  have := has04 v xs id w hs
  rwa [decide_eq_true h] at this
theorem hasF {v : Value} {xs : List BS} {id : BS} {w : World} (hs : Strs w v xs) (h : id ∉ xs) :
    Calls Try.prog 29 #[v, .string id] w fun e w' => e = .returned (.bool false) ∧ w = w' := by
  have := has04 v xs id w hs
  rwa [decide_eq_false h] at this
theorem hasDT {v : Value} {x : BS} {g : G} {w : World} (hd : DagR w v g) (h : x ∈ ids g) :
    Calls Try.prog 18 #[v, .string x] w fun e w' => e = .returned (.bool true) ∧ Fr [] w w' := by
  have := has18 v x g w hd
  rwa [decide_eq_true h] at this

set_option maxRecDepth 100000 in
set_option maxHeartbeats 4000000 in
theorem dagOrder5 (v : Value) (L : List Nd) (w : World) (hs : Nodes w v L) :
    Calls Try.prog 5 #[v] w fun e w' => e = .returned (.bool true) ∧ Fr [] w w' := by
  obtain ⟨a, c, rfl, hc, hm, hn⟩ := hs.form
  by_cases hF : Few L
  · have HF := Lib.hid hF; clear hF
    go_enter Try.func5, Try.ntmps5
    go_upto_region 6 with (first
      | (go_at_call 9; (with_reducible refine (fewT hs HF.out).mono ?_); rintro e wx ⟨rfl, rfl⟩)
      | (go_at_call 14; refine (make14 _ _ _ hs (Nat.le_trans HF.out.1 (by decide))).mono ?_; rintro e w1 ⟨dv, mN, mH, gv, rfl, hd, -, -, hg, f1⟩; obtain ⟨db, rfl⟩ := hd.ptr; obtain ⟨ga, gc, rfl, _⟩ := hg.form))
    have f2 := (Fr.refl w1).alloc (.cells #[.slice ga (makeG L).length gc] 27)
    have hd := (hd.fr f2 (by simp) (by simp)).r
    have F := f1.then f2
    generalize w1.alloc (.cells #[.slice ga (makeG L).length gc] 27) = wS at hd F ⊢
    clear f1 f2 hs hg
    have hlG := Lib.hid (len_makeF HF.out)
    have hwf := wf_makeG L
    have hl1 : (makeG L).length ≤ 10000 := by have := hlG.out; omega
    generalize makeG L = g at hd hlG hwf hl1 ⊢
    have Hwf := Lib.hid hwf; clear hwf
    have HL1 := Lib.hid hl1; clear hl1
    go_upto_region 7 with (go_at_call 28; refine (orderD _ _ _ hd Hwf.out HL1.out).mono ?_; rintro e w2 ⟨u, rfl, ho, f⟩; obtain ⟨oa, oc, rfl, hoc, hom, hon⟩ := ho.form; have hd := hd.fr f; have F := F.then f; clear f)
    have Hol := Lib.hid (length_order Hwf.out)
    obtain ⟨ol, hol⟩ : ∃ l, l = ordL g g.length := ⟨_, rfl⟩
    have Hah : Hid (∀ {i : Nat} {x p : BS}, ol[i]? = some x → p ∈ preds g x → p ∈ ol.take i) := Lib.hid (by rw [hol]; exact fun h k => ord_ahead Hwf.out h k)
    have Hon : Hid (∀ {i : Nat} {x : BS}, ol[i]? = some x → x ∉ ol.take i) := Lib.hid (by rw [hol]; exact fun h => ord_once Hwf.out h)
    have Hin : Hid (∀ {i : Nat} {x : BS}, ol[i]? = some x → x ∈ ids g) := Lib.hid (by rw [hol]; exact fun h => ord_in Hwf.out h)
    have hgl : g.length = ol.length := by rw [hol, Hol.out]
    rw [← hol] at ho hoc hon ⊢
    clear hol Hol
    obtain ⟨n, hnx⟩ : ∃ n, n = ol.length := ⟨_, rfl⟩
    rw [← hnx] at ho hoc hon hgl ⊢
    have Hn := Lib.hid hnx; clear hnx
    have Hgl := Lib.hid hgl; clear hgl
    have hn30 : n ≤ 30 := by have := hlG.out; have := Hgl.out; omega
    go_wp2
    go_loopw [6] (fun i wr => ∃ k : Nat, k ≤ n ∧ i = .int .i64 k ∧ Fr [] w2 wr) (fun i _ => n - (intOf i).toNat)
    case atStart => exact ⟨0, Nat.zero_le _, rfl, .refl _⟩
    case round =>
      obtain ⟨k, hk, rfl, hf⟩ := hrel
      have hd := hd.fr hf
      have ho := ho.fr hf
      have F := F.then hf
      by_cases hlt : k < n
      · obtain ⟨x, hx⟩ : ∃ x, ol[k]? = some x := ⟨_, List.getElem?_eq_getElem (Hn.out ▸ hlt)⟩
        obtain ⟨b, o, hidx, hcell⟩ := ho.at_ Hn.out 33 9 Try.underlying33 Try.sizeOf9 k x hx
        have Hx := Lib.hid hx; clear hx
        go_upto_region 11 with (go_at_call 22; refine (predsD _ _ _ _ hd Hwf.out HL1.out).mono ?_; rintro e w3 ⟨u, rfl, hp, f⟩; obtain ⟨pa, pc, rfl, hpc, hpm, hpn⟩ := hp.form; have hd := hd.fr f; have ho := ho.fr f; have hcell := f.cell hcell; have F := F.then f; have hf := hf.then f; clear f)
        obtain ⟨pl, hpl⟩ : ∃ l, l = preds g x := ⟨_, rfl⟩
        have Hpl : Hid (∀ {p : BS}, p ∈ pl → p ∈ preds g x) := Lib.hid (by rw [hpl]; exact fun h => h)
        rw [← hpl] at hp hpc hpn ⊢
        clear hpl
        obtain ⟨m, hmx⟩ : ∃ m, m = pl.length := ⟨_, rfl⟩
        rw [← hmx] at hp hpc hpn ⊢
        have Hm := Lib.hid hmx; clear hmx
        go_wp2
        go_loopw [8] (fun i wt => ∃ q : Nat, q ≤ m ∧ i = .int .i64 q ∧ Fr [] w3 wt) (fun i _ => m - (intOf i).toNat)
        case atStart => exact ⟨0, Nat.zero_le _, rfl, .refl _⟩
        case round =>
          obtain ⟨q, hq, rfl, hf2⟩ := hrel
          have hd := hd.fr hf2
          have ho := ho.fr hf2
          have hp := hp.fr hf2
          have hcell := hf2.cell hcell
          have F := F.then hf2
          obtain ⟨ca, hcut, -, hc1, -⟩ := ho.cut (P := Try.prog) Hn.out 33 9 Try.underlying33 Try.sizeOf9 0 k (Nat.zero_le _) hk
          have hc1 := hc1 rfl
          simp only [Nat.sub_zero, List.drop_zero] at hcut hc1
          by_cases hlt2 : q < m
          · obtain ⟨y, hy⟩ : ∃ x, pl[q]? = some x := ⟨_, List.getElem?_eq_getElem (Hm.out ▸ hlt2)⟩
            obtain ⟨b2, o2, hidx2, hcell2⟩ := hp.at_ Hm.out 33 9 Try.underlying33 Try.sizeOf9 q y hy
            have Hmem : Hid (y ∈ ol.take k) := Lib.hid (Hah.out Hx.out (Hpl.out (List.mem_of_getElem? hy)))
            clear hy
            go_upto_region 14 with fail
            refine wp_region_ordX Fr.pre [] (.op 0 2 (.op 1 2 (.op 2 0 (.op 3 2 (.op 4 2 (.op 5 2 (.op 6 0 (.op 7 1 (.op 8 2 .fin))))))))) _ (by kernel_rfl) (by kernel_rfl) (by simp only [pickX, List.getElem?_cons_succ, List.getElem?_cons_zero]; rfl) ?_
            have F := (Fr.refl wr).drew
            have hcut := hcut.fr F
            have hcell2 := F.cell hcell2
            have x_hcell2 := Ext.cell hcell2
            repeat (first | (with_reducible refine wpX_q (fun K hK => ?_); go_simp; refine hK _ ?_; clear hK K) | (with_reducible refine wpX_p (fun K hK => ?_); go_simp; refine hK _ ?_; clear hK K))
            (refine wpX_e (fun K hK => ?_); go_simp; intro wq hq; have F := F.then hq; have hcut := hcut.fr (hq); refine (hasT hcut Hmem.out).mono ?_; rintro e wp ⟨rfl, rfl⟩; have hcut := hcut.fr (Fr.refl _); have F := F.then (Fr.refl _); refine ⟨_, rfl, (Fr.refl _), hK _ _ ?_⟩; clear hK K hq; skip)
            clear x_hcell2
            repeat (first | (with_reducible refine wpX_q (fun K hK => ?_); go_simp; refine hK _ ?_; clear hK K) | (with_reducible refine wpX_p (fun K hK => ?_); go_simp; refine hK _ ?_; clear hK K))
            refine wpX_nil (fun w7 hw7 => ?_)
            clear hd ho hp hcell hcell2 hcut hc1
            go_wp2
            go_roundw
            case rel => exact ⟨q + 1, by omega, by go_num, hf2.then (F.then hw7)⟩
            case measure => simp [intOf]; omega
          · go_upto_region 16 with fail
            refine wp_region_ordX Fr.pre [] (.op 0 2 (.op 1 2 (.op 2 0 (.op 3 2 (.op 4 2 (.op 5 2 (.op 6 0 (.op 7 1 (.op 8 2 (.op 9 2 (.op 10 2 (.op 11 2 (.op 12 2 (.op 13 0 (.op 14 1 (.op 15 2 (.op 16 2 .fin))))))))))))))))) _ (by kernel_rfl) (by kernel_rfl) (by simp only [pickX, List.getElem?_cons_succ, List.getElem?_cons_zero]; rfl) ?_
            have F0 := (Fr.refl wr).drew
            have F := (Fr.refl wr).drew
            have hcut := hcut.fr F
            have hd := hd.fr F
            have hcell := F.cell hcell
            have x_hcell := Ext.cell hcell
            repeat (first | (with_reducible refine wpX_q (fun K hK => ?_); go_simp; refine hK _ ?_; clear hK K) | (with_reducible refine wpX_p (fun K hK => ?_); go_simp; refine hK _ ?_; clear hK K))
            (refine wpX_e (fun K hK => ?_); go_simp; intro wq hq; have F := F.then hq; (try clear x_hcell); have hcut := hcut.fr (hq); have hd := hd.fr (hq); have hcell := (hq).cell hcell; refine (hasF hcut (Hon.out Hx.out)).mono ?_; rintro e wp ⟨rfl, rfl⟩; have hcut := hcut.fr (Fr.refl _); have hd := hd.fr (Fr.refl _); have hcell := (Fr.refl _).cell hcell; have F := F.then (Fr.refl _); refine ⟨_, rfl, (Fr.refl _), hK _ _ ?_⟩; clear hK K hq; have x_hcell := Ext.cell hcell; )
            repeat (first | (with_reducible refine wpX_q (fun K hK => ?_); go_simp; refine hK _ ?_; clear hK K) | (with_reducible refine wpX_p (fun K hK => ?_); go_simp; refine hK _ ?_; clear hK K))
            (refine wpX_e (fun K hK => ?_); go_simp; intro wq hq; have F := F.then hq; (try clear x_hcell); have hd := hd.fr (hq); have hcell := (hq).cell hcell; refine (hasDT hd (Hin.out Hx.out)).mono ?_; rintro e wp ⟨rfl, g1⟩; have hd := hd.fr (g1); have hcell := (g1).cell hcell; have F := F.then (g1); refine ⟨_, rfl, (g1), hK _ _ ?_⟩; clear hK K hq; have x_hcell := Ext.cell hcell; )
            repeat (first | (with_reducible refine wpX_q (fun K hK => ?_); go_simp; refine hK _ ?_; clear hK K) | (with_reducible refine wpX_p (fun K hK => ?_); go_simp; refine hK _ ?_; clear hK K))
            refine wpX_nil (fun w7 hw7 => ?_)
            clear hd ho hp hcell hcut hc1 x_hcell
            go_wp2
            go_roundw
            case rel => exact ⟨k + 1, by omega, by go_num, hf.then (hf2.then (F.then hw7))⟩
            case measure => simp [intOf]; omega
      · have hnn : ((n : Int) == (n : Int)) = true := by simp
        go_wp2_with (first
          | (go_at_call 30; refine (len30 _ _ _ hd).mono ?_; rintro e wx ⟨rfl, rfl⟩; rw [Hgl.out])
          | (go_at_call 10; refine (awake10 _).mono ?_; rintro e wx ⟨rfl, f⟩))
        go_ret
        exact ⟨rfl, F.then f⟩
  · have HF := Lib.hid hF; clear hF
    go_enter Try.func5, Try.ntmps5
    go_wp2_with (first
      | (go_at_call 9; (with_reducible refine (fewF hs HF.out).mono ?_); rintro e wx ⟨rfl, rfl⟩)
      | (go_at_call 10; refine (awake10 _).mono ?_; rintro e wx ⟨rfl, f⟩))
    go_ret
    exact ⟨rfl, f⟩
end Go.Proofs.Ytnebdfpjjpbolaa
