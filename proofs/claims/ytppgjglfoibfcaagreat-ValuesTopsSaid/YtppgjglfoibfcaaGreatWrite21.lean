import Derived.Test.YtppgjglfoibfcaaGreatReg1
import Derived.Deep.DeepCutAuto
set_option linter.unusedSimpArgs false
set_option linter.unusedVariables false
/-
  The document's Write.
-/
namespace Go.Proofs.YtppgjglfoibfcaaGreat
open Go.RowKit

theorem cellsWr {w : World} {b o : Nat} {x : Wr} (h : ∀ j y, (encRw x.rw)[j]? = some y → w.cell? ⟨b, o + j, none⟩ = some y) :
    w.cell? ⟨b, o, none⟩ = some (.int .i64 3) ∧ w.cell? ⟨b, o + 1, none⟩ = some (.string x.name) ∧ w.cell? ⟨b, o + 2, none⟩ = some (.string x.text) ∧ w.cell? ⟨b, o + 3, none⟩ = some (.int .i64 0) ∧
      w.cell? ⟨b, o + 4, none⟩ = some (.string x.id) ∧ w.cell? ⟨b, o + 5, none⟩ = some (.string ⟨#[]⟩) ∧ w.cell? ⟨b, o + 6, none⟩ = some (.bool false) := cellsRw h
theorem rw_lt (a b : Wr) : RLt a.rw b.rw ↔ WLt a b := Iff.rfl


theorem w21_ret {w : World} {R : Nat} {e0 e1 gv u : Value} {z : Int} {act : Act} {Q : Ending → World → Prop} (hR : w.heap[R]? = some (.cells #[e0, e1] 37 (0, 0))) (hx : act.tmps[8]? = some (.pointer (some ⟨R, 0, none⟩))) (hy : act.tmps[9]? = some (.int .i64 z)) (hd : act.defers = [])
    (h : Q (.returned (.tuple #[.agg #[gv, u], .int .i64 z])) ((w.setCell ⟨R, 0, none⟩ gv).setCell ⟨R, 1, none⟩ u)) :
    bodyPost Tryz.prog Tryz.f19 Q .ret act ((w.setCell ⟨R, 0, none⟩ gv).setCell ⟨R, 1, none⟩ u) := by
  have hr := row2 (x := gv) (y := u) hR
  generalize (w.setCell ⟨R, 0, none⟩ gv).setCell ⟨R, 1, none⟩ u = w' at hr h ⊢
  have c0 := rowAt hr (j := 0) rfl
  have c1 := rowAt hr (j := 1) rfl
  refine bodyPost_ret (v := .tuple #[.agg #[gv, u], .int .i64 z]) ?_ hd h
  simp [results, Tryz.f19, Array.getD_eq_getD_getElem?, hx, hy]
  go_simp
set_option maxRecDepth 100000 in
set_option maxHeartbeats 8000000 in
theorem write21 (gv rv : Value) (g : G) (L : List Wr) (r : Wr) (w : World) (hg : Nodes w gv g) (hr : RowsR w rv (L.map Wr.rw)) (hn : r.name.size ≤ 1000000) (hw : Wf g) (hgl : g.length ≤ 10000) (hl : L.length ≤ 1000000) (hL : WSorted L) :
    Calls Tryz.prog 19 #[.agg #[gv, rv], .string r.name, .string r.text, .string r.id] w fun e w' => ∃ u, e = .returned (.tuple #[.agg #[gv, u], .int .i64 (writeE L r)]) ∧ RowsR w' u ((writeL g L r).map Wr.rw) ∧ Fr [] w w' := by
  obtain ⟨ga, gc, rfl, _⟩ := hg.form
  obtain ⟨n, hnx⟩ : ∃ n, n = L.length := ⟨_, rfl⟩
  have hnr : n = (L.map Wr.rw).length := by rw [hnx]; simp
  have Hnr := Lib.hid hnr
  obtain ⟨a, c, rfl⟩ := hr.formN n hnr.symm
  obtain ⟨m, hmx⟩ : ∃ n, n = g.length := ⟨_, rfl⟩
  rw [← hmx] at hg ⊢
  have Hn := Lib.hid hnx
  have Hm := Lib.hid hmx
  rw [← hnx] at hl
  have Hw := Lib.hid hw
  have HgL := Lib.hid hgl
  have HL := Lib.hid hL
  clear hnx hmx hw hgl hL hnr
  have hr0 := hr
  go_enter Tryz.func19, Tryz.ntmps19
  go_upto_region 1 with fail
  have fw := ((Fr.refl w).alloc (.cells #[.slice ga m gc, .slice a n c] 37)).alloc (.cells #[.slice none 0 0, .slice none 0 0] 37)
  obtain ⟨w0, hw0⟩ : ∃ w0, w0 = (w.alloc (.cells #[.slice ga m gc, .slice a n c] 37)).alloc (.cells #[.slice none 0 0, .slice none 0 0] 37) := ⟨_, rfl⟩
  obtain ⟨B, hB⟩ : ∃ B, B = w.heap.size := ⟨_, rfl⟩
  have hR0 : w0.heap[B]? = some (.cells #[.slice ga m gc, .slice a n c] 37 (0, 0)) := by rw [hw0, hB]; exact rowNew0 _ _ _
  have hR1 : w0.heap[B + 1]? = some (.cells #[.slice none 0 0, .slice none 0 0] 37 (0, 0)) := by rw [hw0, hB]; exact rowNew1 _ _ _
  rw [← hw0] at fw ⊢
  rw [← hB]
  have hBw : w.heap.size ≤ B + 1 := by omega
  clear hw0 hB
  have CM := Lib.hid (may21 r.name r.text r.id w0 hn)
  cases hM : mayW r with
  | false =>
    rw [hM] at CM
    have HM := Lib.hid hM
    clear hM
    have c00 := rowAt hR0 (j := 0) rfl
    have c01 := rowAt hR0 (j := 1) rfl
    have c10 := rowAt hR1 (j := 0) rfl
    have c11 := rowAt hR1 (j := 1) rfl
    have z10 := rowFz hR1 0
    have z11 := rowFz hR1 1
    go_upto_region 2 with (go_at_call 66; refine CM.out.mono ?_; rintro e w1 ⟨rfl, rfl⟩)
    go_wp2
    refine w21_ret hR1 rfl rfl rfl ⟨_, by rw [writeE_no HM.out], ?_, fw.set2 hBw _ _⟩
    rw [writeL_no (writeE_no HM.out) (by decide)]
    exact hr.fr (fw.set2 hBw _ _)
  | true =>
    rw [hM] at CM
    have HM := Lib.hid hM
    clear hM
    go_upto_region 5 with (go_at_call 66; refine CM.out.mono ?_; rintro e w1 ⟨rfl, rfl⟩)
    have f1 := (Fr.refl w0).alloc (.cells #[.int .i64 3, .string r.name, .string r.text, .int .i64 0, .string r.id, .string ⟨#[]⟩, .bool false] 56)
    obtain ⟨C, hC⟩ : ∃ C, C = w0.heap.size := ⟨_, rfl⟩
    have hBC : B + 1 < C := by rw [hC]; exact rowLt hR1
    have hR2 : (w0.alloc (.cells #[.int .i64 3, .string r.name, .string r.text, .int .i64 0, .string r.id, .string ⟨#[]⟩, .bool false] 56)).heap[C]? = some (.cells #[.int .i64 3, .string r.name, .string r.text, .int .i64 0, .string r.id, .string ⟨#[]⟩, .bool false] 56 (0, 0)) := by rw [hC]; exact rowNew _ _
    rw [← hC]
    generalize w0.alloc (.cells #[.int .i64 3, .string r.name, .string r.text, .int .i64 0, .string r.id, .string ⟨#[]⟩, .bool false] 56) = w1 at f1 hR2 ⊢
    have hR0 := f1.row hR0
    have hR1 := f1.row hR1
    have F := fw.then f1
    clear CM f1 fw hC
    have hg := hg.fr F
    have hr := hr.fr F
    go_wp2
    go_loopw [11, 12] (fun inn i wr => ∃ (k : Nat) (b : Bool), i = .int .i64 k ∧ inn = .bool b ∧ k ≤ n ∧ Hid (b = !oldW g (L.take k) r) ∧ Hid (twiceW (L.take k) r = false) ∧ Fr [] w1 wr) (fun _ i _ => n - (intOf i).toNat)
    case atStart => exact ⟨0, true, rfl, rfl, Nat.zero_le _, Lib.hid rfl, Lib.hid rfl, .refl _⟩
    case round =>
      obtain ⟨k, b, rfl, rfl, hk, Hb, Ht, hf⟩ := hrel
      have hR0 := hf.row hR0
      have hR1 := hf.row hR1
      have hR2 := hf.row hR2
      have hr := hr.fr hf
      have c00 := rowAt hR0 (j := 0) rfl
      have c01 := rowAt hR0 (j := 1) rfl
      have F := F.then hf
      by_cases hlt : k < n
      · obtain ⟨x, hx⟩ : ∃ s, L[k]? = some s := ⟨_, List.getElem?_eq_getElem (Hn.out ▸ hlt)⟩
        obtain ⟨b1, o1, hidx, hcell⟩ := hr.at_ lenRw Hnr.out 35 56 Tryz.underlying35 Tryz.sizeOf56 k x.rw (by rw [List.getElem?_map, hx]; rfl)
        have d1 : wr.cell? ⟨b1, o1 + 1, none⟩ = some (.string x.name) := hcell 1 _ rfl
        have d4 : wr.cell? ⟨b1, o1 + 4, none⟩ = some (.string x.id) := hcell 4 _ rfl
        have Hx := Lib.hid hx
        clear hx hcell
        by_cases h1 : x.name = r.name
        · have e1 := beq_tt h1
          have H1 := Lib.hid h1; clear h1
          by_cases h2 : x.id = r.id
          · have e2 := beq_tt h2
            have H2 := Lib.hid h2; clear h2
            have HE := Lib.hid (writeE_twice HM.out (twice_take Hx.out (Prod.ext (H1.out) (H2.out))))
            have c10 := rowAt hR1 (j := 0) rfl
            have c11 := rowAt hR1 (j := 1) rfl
            have z10 := rowFz hR1 0
            have z11 := rowFz hR1 1
            go_wp2
            refine w21_ret hR1 rfl rfl rfl ⟨_, by rw [HE.out], ?_, F.set2 hBw _ _⟩
            rw [writeL_no HE.out (by decide)]
            exact hr0.fr (F.set2 hBw _ _)
          · have e2 := beq_ff h2
            have H2 := Lib.hid h2; clear h2
            have HT := Lib.hid (show twiceW (L.take (k + 1)) r = false by rw [twice_step Hx.out, Ht.out, decide_eq_false (fun h => H2.out ((Prod.ext_iff.1 h).2))]; rfl)
            cases b with
            | false =>
              have HB := Lib.hid (show false = !oldW g (L.take (k + 1)) r by
                have h0 : oldW g (L.take k) r = true := by have := Hb.out; simpa using this.symm
                rw [old_step Hx.out, h0]; rfl)
              go_upto_region 10 with fail
              refine wp_region_ordX Fr.pre [] (.op 0 2 (.op 1 2 (.op 2 2 (.op 3 0 (.op 4 2 (.op 5 2 (.op 6 2 (.op 7 0 (.op 8 2 (.op 9 2 (.op 10 2 (.op 11 2 (.op 12 0 (.op 13 2 (.op 14 2 (.op 15 0 (.op 16 2 (.op 17 2 (.op 18 2 (.op 19 0 (.op 20 1 (.op 21 2 (.op 22 2 (.op 23 2 (.op 24 2 .fin))))))))))))))))))))))))) _ (by kernel_rfl) (by kernel_rfl) (by simp only [pickX, List.getElem?_cons_succ, List.getElem?_cons_zero]; rfl) ?_
              have F := (Fr.refl wr).drew
              repeat (first | (with_reducible refine wpX_q (fun K hK => ?_); go_simp; refine hK _ ?_; clear hK K) | (with_reducible refine wpX_p (fun K hK => ?_); go_simp; refine hK _ ?_; clear hK K) | (with_reducible refine wpX_p (fun K hK => ?_); go_simp; rw [if_neg (by simp [undef])]; refine hK _ ?_; clear hK K) | (with_reducible refine wpX_q (fun K hK => ?_); go_simp; rw [if_neg (by simp [undef])]; refine hK _ ?_; clear hK K))
              (refine wpX_e (fun K hK => ?_); go_simp; (first | (refine hK _ _ ?_) | (rw [if_neg (by simp [undef])]; refine hK _ _ ?_)); clear hK K)
              repeat (first | (with_reducible refine wpX_q (fun K hK => ?_); go_simp; refine hK _ ?_; clear hK K) | (with_reducible refine wpX_p (fun K hK => ?_); go_simp; refine hK _ ?_; clear hK K) | (with_reducible refine wpX_p (fun K hK => ?_); go_simp; rw [if_neg (by simp [undef])]; refine hK _ ?_; clear hK K) | (with_reducible refine wpX_q (fun K hK => ?_); go_simp; rw [if_neg (by simp [undef])]; refine hK _ ?_; clear hK K))
              refine wpX_nil (fun w8 hw8 => ?_)
              clear hR0 hR1 hR2 c00 c01 d1 d4 hidx
              go_wp2
              go_roundw
              case rel => exact ⟨k + 1, false, by go_num, rfl, by omega, HB, HT, hf.then (F.then hw8)⟩
              case measure => simp [intOf]; omega
            | true =>
              have hg' := hg.fr hf
              have CA := Lib.hid (fun (W : World) (h : Fr [] wr W) => aheadN _ g r.id x.id W (hg'.fr h) HgL.out Hw.out)
              have h0 : oldW g (L.take k) r = false := by have := Hb.out; simpa using this.symm
              have h3 : (!aheadB g r.id x.id) = !oldW g (L.take (k + 1)) r := by
                rw [old_step Hx.out, h0, decide_eq_true H1.out]; simp
              have HB := Lib.hid h3
              clear h0 h3 hg'
              go_upto_region 10 with fail
              refine wp_region_ordX Fr.pre [] (.op 0 2 (.op 1 2 (.op 2 2 (.op 3 0 (.op 4 2 (.op 5 2 (.op 6 2 (.op 7 0 (.op 8 2 (.op 9 2 (.op 10 2 (.op 11 2 (.op 12 0 (.op 13 2 (.op 14 2 (.op 15 0 (.op 16 2 (.op 17 2 (.op 18 2 (.op 19 0 (.op 20 1 (.op 21 2 (.op 22 2 (.op 23 2 (.op 24 2 .fin))))))))))))))))))))))))) _ (by kernel_rfl) (by kernel_rfl) (by simp only [pickX, List.getElem?_cons_succ, List.getElem?_cons_zero]; rfl) ?_
              have F := (Fr.refl wr).drew
              have x_1 := Ext.cell (F.cell c00)
              have x_2 := Ext.cell (F.cell c01)
              have x_3 := Ext.cell (F.cell d1)
              have x_4 := Ext.cell (F.cell d4)
              repeat (first | (with_reducible refine wpX_q (fun K hK => ?_); go_simp; refine hK _ ?_; clear hK K) | (with_reducible refine wpX_p (fun K hK => ?_); go_simp; refine hK _ ?_; clear hK K) | (with_reducible refine wpX_p (fun K hK => ?_); go_simp; rw [if_neg (by simp [undef])]; refine hK _ ?_; clear hK K) | (with_reducible refine wpX_q (fun K hK => ?_); go_simp; rw [if_neg (by simp [undef])]; refine hK _ ?_; clear hK K))
              clear x_1 x_2 x_3 x_4
              (refine wpX_e (fun K hK => ?_); go_simp; intro wq hq; have F := F.then hq; refine (CA.out _ F).mono ?_; rintro e wp ⟨rfl, g1⟩; have F := F.then (g1); refine ⟨_, rfl, (g1), hK _ _ ?_⟩; clear hK K hq; skip)
              repeat (first | (with_reducible refine wpX_q (fun K hK => ?_); go_simp; refine hK _ ?_; clear hK K) | (with_reducible refine wpX_p (fun K hK => ?_); go_simp; refine hK _ ?_; clear hK K) | (with_reducible refine wpX_p (fun K hK => ?_); go_simp; rw [if_neg (by simp [undef])]; refine hK _ ?_; clear hK K) | (with_reducible refine wpX_q (fun K hK => ?_); go_simp; rw [if_neg (by simp [undef])]; refine hK _ ?_; clear hK K))
              refine wpX_nil (fun w8 hw8 => ?_)
              clear hR0 hR1 hR2 c00 c01 d1 d4 hidx
              go_wp2
              go_roundw
              case rel => exact ⟨k + 1, _, by go_num, rfl, by omega, HB, HT, hf.then (F.then hw8)⟩
              case measure => simp [intOf]; omega
        · have e1 := beq_ff h1
          have H1 := Lib.hid h1; clear h1
          have HT := Lib.hid (show twiceW (L.take (k + 1)) r = false by rw [twice_step Hx.out, Ht.out, decide_eq_false (fun h => H1.out ((Prod.ext_iff.1 h).1))]; rfl)
          have HB := Lib.hid (show b = !oldW g (L.take (k + 1)) r by rw [old_step Hx.out, decide_eq_false (fun h => H1.out h)]; simpa using Hb.out)
          cases b
          all_goals
            go_upto_region 10 with fail
            refine wp_region_ordX Fr.pre [] (.op 0 2 (.op 1 2 (.op 2 2 (.op 3 0 (.op 4 2 (.op 5 2 (.op 6 2 (.op 7 0 (.op 8 2 (.op 9 2 (.op 10 2 (.op 11 2 (.op 12 0 (.op 13 2 (.op 14 2 (.op 15 0 (.op 16 2 (.op 17 2 (.op 18 2 (.op 19 0 (.op 20 1 (.op 21 2 (.op 22 2 (.op 23 2 (.op 24 2 .fin))))))))))))))))))))))))) _ (by kernel_rfl) (by kernel_rfl) (by simp only [pickX, List.getElem?_cons_succ, List.getElem?_cons_zero]; rfl) ?_
            have F := (Fr.refl wr).drew
            have x_1 := Ext.cell (F.cell c00)
            have x_2 := Ext.cell (F.cell c01)
            have x_3 := Ext.cell (F.cell d1)
            have x_4 := Ext.cell (F.cell d4)
            repeat (first | (with_reducible refine wpX_q (fun K hK => ?_); go_simp; refine hK _ ?_; clear hK K) | (with_reducible refine wpX_p (fun K hK => ?_); go_simp; refine hK _ ?_; clear hK K) | (with_reducible refine wpX_p (fun K hK => ?_); go_simp; rw [if_neg (by simp [undef])]; refine hK _ ?_; clear hK K) | (with_reducible refine wpX_q (fun K hK => ?_); go_simp; rw [if_neg (by simp [undef])]; refine hK _ ?_; clear hK K))
            clear x_1 x_2 x_3 x_4
            (refine wpX_e (fun K hK => ?_); go_simp; (first | (refine hK _ _ ?_) | (rw [if_neg (by simp [undef])]; refine hK _ _ ?_)); clear hK K)
            repeat (first | (with_reducible refine wpX_q (fun K hK => ?_); go_simp; refine hK _ ?_; clear hK K) | (with_reducible refine wpX_p (fun K hK => ?_); go_simp; refine hK _ ?_; clear hK K) | (with_reducible refine wpX_p (fun K hK => ?_); go_simp; rw [if_neg (by simp [undef])]; refine hK _ ?_; clear hK K) | (with_reducible refine wpX_q (fun K hK => ?_); go_simp; rw [if_neg (by simp [undef])]; refine hK _ ?_; clear hK K))
            refine wpX_nil (fun w8 hw8 => ?_)
            clear hR0 hR1 hR2 c00 c01 d1 d4 hidx
            go_wp2
            go_roundw
            case rel => exact ⟨k + 1, _, by go_num, rfl, by omega, HB, HT, hf.then (F.then hw8)⟩
            case measure => simp [intOf]; omega
      · have hk0 : L.length ≤ k := by have := Hn.out; omega
        have Hb : Hid (b = !oldW g L r) := Lib.hid (by have := Hb.out; rwa [List.take_of_length_le hk0] at this)
        have Ht : Hid (twiceW L r = false) := Lib.hid (by have := Ht.out; rwa [List.take_of_length_le hk0] at this)
        have hBb : B + 1 < wr.heap.size := rowLt hR1
        have hown := own_nilR wr wr.heap.size 7 56 encRw
        have Hst := Lib.hid (StW.start g L r)
        rw [← Hb.out] at Hst
        have HZ := Lib.hid (writeE_ok HM.out Ht.out)
        clear hk0
        obtain ⟨wo, rfl⟩ : ∃ wo : World, wo = wr := ⟨_, rfl⟩
        go_wp2
        clear hlt hk
        go_loopw [11, 13, 14] (fun inn out i wx => ∃ (k q : Nat) (b : Bool) (O : List Wr), i = .int .i64 k ∧ inn = .bool b ∧ k ≤ n ∧ Hid (q = O.length) ∧ Hid (StW g L r k b O) ∧ wx.ownsRow wo.heap.size 56 7 out q ((O.map Wr.rw).flatMap encRw) ∧ Fr [] wo wx) (fun _ _ i _ => n - (intOf i).toNat)
        case atStart => exact ⟨0, 0, b, [], rfl, rfl, Nat.zero_le _, Lib.hid rfl, Hst, hown, .refl _⟩
        case round =>
          obtain ⟨k, q, b, O, rfl, rfl, hk, Hq, Hst, hown, hf2⟩ := hrel
          have Hql := Lib.hid (show q ≤ 1000001 by have := Hst.out.1; have := Hq.out; omega)
          obtain ⟨oa, oc, rfl⟩ := own_form hown
          have FO := F
          clear F
          by_cases hlt : k < n
          · obtain ⟨x, hx⟩ : ∃ s, L[k]? = some s := ⟨_, List.getElem?_eq_getElem (Hn.out ▸ hlt)⟩
            have hmid : (b = false ∧ (b && decide (WLt r x)) = false ∧ StW g L r (k + 1) false (O ++ oneK g r x)) ∨ (b = true ∧ (b && decide (WLt r x)) = false ∧ StW g L r (k + 1) true (O ++ oneK g r x)) ∨ (b = true ∧ (b && decide (WLt r x)) = true ∧ StW g L r (k + 1) false ((O ++ [r]) ++ oneK g r x)) := by
              cases b with
              | false => exact .inl ⟨rfl, rfl, Hst.out.no hx⟩
              | true =>
                by_cases h : WLt r x
                · exact .inr (.inr ⟨rfl, by simp [h], Hst.out.lt HL.out hx h⟩)
                · exact .inr (.inl ⟨rfl, by simp [h], Hst.out.ge hx h⟩)
            have Hx := Lib.hid hx
            have Hmid := Lib.hid hmid
            obtain ⟨D, hD⟩ : ∃ D, D = (b && decide (WLt r x)) := ⟨_, rfl⟩
            have HD := Lib.hid hD
            have hR2' := hf2.row hR2
            obtain ⟨b1, o1, hidx, hcell⟩ := (hr.fr hf2).at_ lenRw Hnr.out 35 56 Tryz.underlying35 Tryz.sizeOf56 k x.rw (by rw [List.getElem?_map, hx]; rfl)
            obtain ⟨d0, d1, d2, d3, d4, d5, d6⟩ := cellsWr hcell
            have c01 := rowAt (hf2.row hR0) (j := 1) rfl
            clear hx Hst hcell hmid hD
            go_upto_region 15 with fail
            go_cut [91] (fun s wx => s = .bool D ∧ Fr [] wr wx)
            case first =>
              have hD := HD.out
              cases b with
              | false =>
                rw [Bool.false_and] at hD
                subst hD
                refine wp_region_ordX Fr.pre [] (.op 0 2 (.op 1 2 (.op 2 0 (.op 3 2 (.op 4 0 (.op 5 2 (.op 6 2 (.op 7 0 (.op 8 1 (.op 9 2 .fin)))))))))) _ (by kernel_rfl) (by kernel_rfl) (by simp only [pickX, List.getElem?_cons_succ, List.getElem?_cons_zero]; rfl) ?_
                have g0 := (Fr.refl wr).drew
                repeat (first | (with_reducible refine wpX_q (fun K hK => ?_); go_simp; refine hK _ ?_; clear hK K) | (with_reducible refine wpX_p (fun K hK => ?_); go_simp; refine hK _ ?_; clear hK K) | (with_reducible refine wpX_p (fun K hK => ?_); go_simp; rw [if_neg (by simp [undef])]; refine hK _ ?_; clear hK K) | (with_reducible refine wpX_q (fun K hK => ?_); go_simp; rw [if_neg (by simp [undef])]; refine hK _ ?_; clear hK K))
                (refine wpX_e (fun K hK => ?_); go_simp; (first | (refine hK _ _ ?_) | (rw [if_neg (by simp [undef])]; refine hK _ _ ?_)); clear hK K)
                repeat (first | (with_reducible refine wpX_q (fun K hK => ?_); go_simp; refine hK _ ?_; clear hK K) | (with_reducible refine wpX_p (fun K hK => ?_); go_simp; refine hK _ ?_; clear hK K) | (with_reducible refine wpX_p (fun K hK => ?_); go_simp; rw [if_neg (by simp [undef])]; refine hK _ ?_; clear hK K) | (with_reducible refine wpX_q (fun K hK => ?_); go_simp; rw [if_neg (by simp [undef])]; refine hK _ ?_; clear hK K))
                refine wpX_nil (fun wz hwy => ?_)
                go_wp2_with fail
                go_meet
                exact ⟨rfl, g0.then hwy⟩
              | true =>
                rw [Bool.true_and] at hD
                have CL := Lib.hid (fun W : World => (by have := less21 r.rw x.rw W; rw [show decide (RLt r.rw x.rw) = decide (WLt r x) from rfl, ← hD] at this; exact this : Calls Tryz.prog 67 #[.agg #[.int .i64 3, .string r.name, .string r.text, .int .i64 0, .string r.id, .string ⟨#[]⟩, .bool false], .agg #[.int .i64 3, .string x.name, .string x.text, .int .i64 0, .string x.id, .string ⟨#[]⟩, .bool false]] W fun e w' => e = .returned (.bool D) ∧ Fr [] W w'))
                clear hD HD Hmid
                refine wp_region_ordX Fr.pre [] (.op 0 2 (.op 1 2 (.op 2 0 (.op 3 2 (.op 4 0 (.op 5 2 (.op 6 2 (.op 7 0 (.op 8 1 (.op 9 2 .fin)))))))))) _ (by kernel_rfl) (by kernel_rfl) (by simp only [pickX, List.getElem?_cons_succ, List.getElem?_cons_zero]; rfl) ?_
                have F := (Fr.refl wr).drew
                have x_c1 := Ext.cell (F.cell c01)
                have x_d0 := Ext.cell (F.cell d0)
                have x_d1 := Ext.cell (F.cell d1)
                have x_d2 := Ext.cell (F.cell d2)
                have x_d3 := Ext.cell (F.cell d3)
                have x_d4 := Ext.cell (F.cell d4)
                have x_d5 := Ext.cell (F.cell d5)
                have x_d6 := Ext.cell (F.cell d6)
                have x_e0 := Ext.cell (F.cell (rowAt hR2' (j := 0) rfl))
                have x_e1 := Ext.cell (F.cell (rowAt hR2' (j := 1) rfl))
                have x_e2 := Ext.cell (F.cell (rowAt hR2' (j := 2) rfl))
                have x_e3 := Ext.cell (F.cell (rowAt hR2' (j := 3) rfl))
                have x_e4 := Ext.cell (F.cell (rowAt hR2' (j := 4) rfl))
                have x_e5 := Ext.cell (F.cell (rowAt hR2' (j := 5) rfl))
                have x_e6 := Ext.cell (F.cell (rowAt hR2' (j := 6) rfl))
                repeat (first | (with_reducible refine wpX_q (fun K hK => ?_); go_simp; refine hK _ ?_; clear hK K) | (with_reducible refine wpX_p (fun K hK => ?_); go_simp; refine hK _ ?_; clear hK K) | (with_reducible refine wpX_p (fun K hK => ?_); go_simp; rw [if_neg (by simp [undef])]; refine hK _ ?_; clear hK K) | (with_reducible refine wpX_q (fun K hK => ?_); go_simp; rw [if_neg (by simp [undef])]; refine hK _ ?_; clear hK K))
                clear x_c1 x_d0 x_d1 x_d2 x_d3 x_d4 x_d5 x_d6 x_e0 x_e1 x_e2 x_e3 x_e4 x_e5 x_e6
                (refine wpX_e (fun K hK => ?_); go_simp; intro wq hq; have F := F.then hq; refine (CL.out _).mono ?_; rintro e wp ⟨rfl, g1⟩; have F := F.then (g1); refine ⟨_, rfl, (g1), hK _ _ ?_⟩; clear hK K hq; skip)
                repeat (first | (with_reducible refine wpX_q (fun K hK => ?_); go_simp; refine hK _ ?_; clear hK K) | (with_reducible refine wpX_p (fun K hK => ?_); go_simp; refine hK _ ?_; clear hK K) | (with_reducible refine wpX_p (fun K hK => ?_); go_simp; rw [if_neg (by simp [undef])]; refine hK _ ?_; clear hK K) | (with_reducible refine wpX_q (fun K hK => ?_); go_simp; rw [if_neg (by simp [undef])]; refine hK _ ?_; clear hK K))
                refine wpX_nil (fun wz hwy => ?_)
                go_wp2_with fail
                go_meet
                exact ⟨rfl, F.then hwy⟩
            case rest =>
              obtain ⟨rfl, f3⟩ := hcut
              clear d0 d1 d2 d3 d4 d5 d6 c01 hidx hR2'
              have hown := own_fr hown f3
              have G := hf2.then f3
              clear f3
              go_upto_if 91 with fail
              go_cut [11, 13] (fun inn out wx => ∃ (b' : Bool) (q' : Nat) (O' : List Wr), inn = .bool b' ∧ Hid (q' = O'.length) ∧ Hid (q' ≤ 1000002) ∧ Hid (StW g L r (k + 1) b' (O' ++ oneK g r x)) ∧ wx.ownsRow wo.heap.size 56 7 out q' ((O'.map Wr.rw).flatMap encRw) ∧ Fr [] wo wx)
              case first =>
                rcases Hmid.out with ⟨rfl, e, hst⟩ | ⟨rfl, e, hst⟩ | ⟨rfl, e, hst⟩
                · rw [← HD.out] at e
                  subst e
                  have Hst := Lib.hid hst
                  clear hst Hmid
                  go_wp2_with fail
                  go_meet
                  exact ⟨false, q, O, rfl, Hq, Lib.hid (by have := Hql.out; omega), Hst, hown, G⟩
                · rw [← HD.out] at e
                  subst e
                  have Hst := Lib.hid hst
                  clear hst Hmid
                  go_wp2_with fail
                  go_meet
                  exact ⟨true, q, O, rfl, Hq, Lib.hid (by have := Hql.out; omega), Hst, hown, G⟩
                · rw [← HD.out] at e
                  subst e
                  have Hst := Lib.hid hst
                  have hR2' := G.row hR2
                  have e0 := rowAt hR2' (j := 0) rfl
                  have e1 := rowAt hR2' (j := 1) rfl
                  have e2 := rowAt hR2' (j := 2) rfl
                  have e3 := rowAt hR2' (j := 3) rfl
                  have e4 := rowAt hR2' (j := 4) rfl
                  have e5 := rowAt hR2' (j := 5) rfl
                  have e6 := rowAt hR2' (j := 6) rfl
                  have hown : wc.ownsRow wo.heap.size 56 7 (.slice oa q oc) (O.map Wr.rw).length ((O.map Wr.rw).flatMap encRw) := by rw [List.length_map, ← Hq.out]; exact hown
                  have hbs := G.size
                  have hql : (O.map Wr.rw).length ≤ 1000001 := by rw [List.length_map, ← Hq.out]; exact Hql.out
                  clear hst Hmid hR2'
                  go_wp2_with (at_builtin; refine wpList_appRw rfl (.tmp 92) (.tmp 94) rfl wo.heap.size _ (O.map Wr.rw) rfl (own_fr hown ((Fr.refl _).alloc _)) _ [r.rw] rfl (row_new _ r.rw) (by simp only [List.length_singleton]; omega) (by simp; omega) ?_; intro v1 w4 hown1 hg1 hat1; have G4 := (G.alloc _).grown hg1 (own_base0 hown); have en1 : (O.map Wr.rw ++ [r.rw]).length = q + 1 := (by rw [List.length_append, List.length_map, ← Hq.out]; rfl); have en2 : O.map Wr.rw ++ [r.rw] = (O ++ [r]).map Wr.rw := (by rw [List.map_append]; rfl); rw [en1, en2] at hown1; clear en1 en2 hown hg1 hat1 hql hbs e0 e1 e2 e3 e4 e5 e6)
                  go_meet
                  exact ⟨false, q + 1, O ++ [r], rfl, Lib.hid (by have := Hq.out; simp [← this]), Lib.hid (by have := Hql.out; omega), Hst, hown1, G4⟩
              case rest =>
                obtain ⟨b', q', O', rfl, Hq', Hql', Hst, hown', G'⟩ := hcut
                clear Hq Hql Hmid HD hown G
                obtain ⟨oa', oc', rfl⟩ := own_form hown'
                obtain ⟨b1, o1, hidx, hcell⟩ := (hr.fr G').at_ lenRw Hnr.out 35 56 Tryz.underlying35 Tryz.sizeOf56 k x.rw (by rw [List.getElem?_map, Hx.out]; rfl)
                obtain ⟨d0, d1, d2, d3, d4, d5, d6⟩ := cellsWr hcell
                have c00 := rowAt (G'.row hR0) (j := 0) rfl
                have c01 := rowAt (G'.row hR0) (j := 1) rfl
                have hgz := hg.fr (hf.then G')
                clear hcell
                go_upto_region 18 with fail
                obtain ⟨wz, hwz⟩ : ∃ w : World, w = wc := ⟨_, rfl⟩
                go_cut [116] (fun s wx => s = .bool (keepW g r x) ∧ Fr [] wc wx)
                case first =>
                  have hkp : (x.name ≠ r.name ∧ keepW g r x = true) ∨ (x.name = r.name ∧ keepW g r x = !aheadB g x.id r.id) := by
                    by_cases h : x.name = r.name
                    · exact .inr ⟨h, by simp [keepW, h]⟩
                    · exact .inl ⟨h, by simp [keepW, h]⟩
                  subst hwz
                  rcases hkp with ⟨hne, hk1⟩ | ⟨hne, hk1⟩
                  · have HK := Lib.hid hk1
                    have en := beq_ff hne
                    clear hne hk1
                    refine wp_region_ordX Fr.pre [] (.op 0 2 (.op 1 0 (.op 2 2 (.op 3 2 (.op 4 2 (.op 5 0 (.op 6 2 (.op 7 2 (.op 8 2 (.op 9 2 (.op 10 0 (.op 11 2 (.op 12 0 (.op 13 2 (.op 14 2 (.op 15 2 (.op 16 0 (.op 17 2 (.op 18 1 (.op 19 2 (.op 20 2 .fin))))))))))))))))))))) _ (by kernel_rfl) (by kernel_rfl) (by simp only [pickX, List.getElem?_cons_succ, List.getElem?_cons_zero]; rfl) ?_
                    have F1 := (Fr.refl wz).drew
                    have x_c1 := Ext.cell (F1.cell c01)
                    have x_d1 := Ext.cell (F1.cell d1)
                    repeat (first | (with_reducible refine wpX_q (fun K hK => ?_); go_simp; refine hK _ ?_; clear hK K) | (with_reducible refine wpX_p (fun K hK => ?_); go_simp; refine hK _ ?_; clear hK K) | (with_reducible refine wpX_p (fun K hK => ?_); go_simp; rw [if_neg (by simp [undef])]; refine hK _ ?_; clear hK K) | (with_reducible refine wpX_q (fun K hK => ?_); go_simp; rw [if_neg (by simp [undef])]; refine hK _ ?_; clear hK K))
                    clear x_c1 x_d1
                    (refine wpX_e (fun K hK => ?_); go_simp; (first | (refine hK _ _ ?_) | (rw [if_neg (by simp [undef])]; refine hK _ _ ?_)); clear hK K)
                    repeat (first | (with_reducible refine wpX_q (fun K hK => ?_); go_simp; refine hK _ ?_; clear hK K) | (with_reducible refine wpX_p (fun K hK => ?_); go_simp; refine hK _ ?_; clear hK K) | (with_reducible refine wpX_p (fun K hK => ?_); go_simp; rw [if_neg (by simp [undef])]; refine hK _ ?_; clear hK K) | (with_reducible refine wpX_q (fun K hK => ?_); go_simp; rw [if_neg (by simp [undef])]; refine hK _ ?_; clear hK K))
                    refine wpX_nil (fun w5 hw5 => ?_)
                    go_wp2_with fail
                    go_meet
                    exact ⟨by rw [HK.out], F1.then hw5⟩
                  · have HK := Lib.hid hk1
                    have en := beq_tt hne
                    have CA := Lib.hid (fun (W : World) (h : Fr [] wz W) => aheadN _ g x.id r.id W (hgz.fr h) HgL.out Hw.out)
                    clear hne hk1
                    refine wp_region_ordX Fr.pre [] (.op 0 2 (.op 1 0 (.op 2 2 (.op 3 2 (.op 4 2 (.op 5 0 (.op 6 2 (.op 7 2 (.op 8 2 (.op 9 2 (.op 10 0 (.op 11 2 (.op 12 0 (.op 13 2 (.op 14 2 (.op 15 2 (.op 16 0 (.op 17 2 (.op 18 1 (.op 19 2 (.op 20 2 .fin))))))))))))))))))))) _ (by kernel_rfl) (by kernel_rfl) (by simp only [pickX, List.getElem?_cons_succ, List.getElem?_cons_zero]; rfl) ?_
                    have F := (Fr.refl wz).drew
                    have x_c0 := Ext.cell (F.cell c00)
                    have x_c1 := Ext.cell (F.cell c01)
                    have x_d1 := Ext.cell (F.cell d1)
                    have x_d4 := Ext.cell (F.cell d4)
                    repeat (first | (with_reducible refine wpX_q (fun K hK => ?_); go_simp; refine hK _ ?_; clear hK K) | (with_reducible refine wpX_p (fun K hK => ?_); go_simp; refine hK _ ?_; clear hK K) | (with_reducible refine wpX_p (fun K hK => ?_); go_simp; rw [if_neg (by simp [undef])]; refine hK _ ?_; clear hK K) | (with_reducible refine wpX_q (fun K hK => ?_); go_simp; rw [if_neg (by simp [undef])]; refine hK _ ?_; clear hK K))
                    clear x_c0 x_c1 x_d1 x_d4
                    (refine wpX_e (fun K hK => ?_); go_simp; intro wq hq; have F := F.then hq; refine (CA.out _ F).mono ?_; rintro e wp ⟨rfl, g1⟩; have F := F.then (g1); refine ⟨_, rfl, (g1), hK _ _ ?_⟩; clear hK K hq; skip)
                    repeat (first | (with_reducible refine wpX_q (fun K hK => ?_); go_simp; refine hK _ ?_; clear hK K) | (with_reducible refine wpX_p (fun K hK => ?_); go_simp; refine hK _ ?_; clear hK K) | (with_reducible refine wpX_p (fun K hK => ?_); go_simp; rw [if_neg (by simp [undef])]; refine hK _ ?_; clear hK K) | (with_reducible refine wpX_q (fun K hK => ?_); go_simp; rw [if_neg (by simp [undef])]; refine hK _ ?_; clear hK K))
                    refine wpX_nil (fun w5 hw5 => ?_)
                    go_wp2_with fail
                    go_meet
                    exact ⟨by rw [HK.out], F.then hw5⟩
                case rest =>
                  obtain ⟨rfl, f5⟩ := hcut
                  subst hwz
                  have G5 := G'.then f5
                  have hown5 := own_fr hown' f5
                  have d0 := f5.cell d0
                  have d1 := f5.cell d1
                  have d2 := f5.cell d2
                  have d3 := f5.cell d3
                  have d4 := f5.cell d4
                  have d5 := f5.cell d5
                  have d6 := f5.cell d6
                  have c01 := f5.cell c01
                  clear hown' c00 hgz f5 G'
                  obtain ⟨Kp_, hKp⟩ : ∃ K, K = keepW g r x := ⟨_, rfl⟩
                  rw [← hKp]
                  cases Kp_ with
                  | false =>
                    have Hst : Hid (StW g L r (k + 1) b' O') := Lib.hid (by have := Hst.out; rwa [oneK, ← hKp, if_neg (by simp), List.append_nil] at this)
                    clear hKp d0 d1 d2 d3 d4 d5 d6 c01 hidx
                    go_wp2
                    go_roundw
                    case rel => exact ⟨k + 1, q', b', O', by go_num, rfl, by omega, Hq', Hst, hown5, G5⟩
                    case measure => simp [intOf]; omega
                  | true =>
                    have Hst : Hid (StW g L r (k + 1) b' (O' ++ [x])) := Lib.hid (by have := Hst.out; rwa [oneK, ← hKp, if_pos rfl] at this)
                    have hbs := G5.size
                    have hql : (O'.map Wr.rw).length ≤ 1000002 := by rw [List.length_map, ← Hq'.out]; exact Hql'.out
                    have hown5 : wc.ownsRow wo.heap.size 56 7 (.slice oa' q' oc') (O'.map Wr.rw).length ((O'.map Wr.rw).flatMap encRw) := by rw [List.length_map, ← Hq'.out]; exact hown5
                    clear hKp
                    go_wp2_with (at_builtin; refine wpList_appRw rfl (.tmp 117) (.tmp 123) rfl wo.heap.size _ _ rfl (own_fr hown5 ((Fr.refl _).alloc _)) _ [x.rw] rfl (row_new _ x.rw) (by simp only [List.length_singleton]; omega) (by simp; omega) ?_; intro v1 w6 hown1 hg1 hat1; have G6 := (G5.alloc _).grown hg1 (own_base0 hown5); have en1 : (O'.map Wr.rw ++ [x.rw]).length = q' + 1 := (by rw [List.length_append, List.length_map, ← Hq'.out]; rfl); have en2 : O'.map Wr.rw ++ [x.rw] = (O' ++ [x]).map Wr.rw := (by rw [List.map_append]; rfl); rw [en1, en2] at hown1; clear en1 en2 hown5 hg1 hat1 hql hbs G5 d0 d1 d2 d3 d4 d5 d6 c01 hidx)
                    go_roundw
                    case rel => exact ⟨k + 1, q' + 1, b', O' ++ [x], by go_num, rfl, by omega, Lib.hid (by have := Hq'.out; simp [← this]), Hst, hown1, G6⟩
                    case measure => simp [intOf]; omega
          · have HP := Lib.hid (Hst.out.fin (by have := Hn.out; omega))
            have F := FO.then hf2
            have hR1o := hR1
            have hR1 := hf2.row hR1
            have hBo : B + 1 < wo.heap.size := hBb
            have c01 := rowAt (hf2.row hR0) (j := 1) rfl
            have c00 := rowAt (hf2.row hR0) (j := 0) rfl
            have c10 := rowAt hR1 (j := 0) rfl
            have c11 := rowAt hR1 (j := 1) rfl
            have z10 := rowFz hR1 0
            have z11 := rowFz hR1 1
            cases b with
            | false =>
              clear Hst
              have hown := (ownsRow_setCell_below (ownsRow_setCell_below hown (a := ⟨B + 1, 0, none⟩) (by exact hBo) (.slice ga m gc)) (a := ⟨B + 1, 1, none⟩) (by exact hBo) (.slice oa q oc))
              go_wp2
              refine w21_ret hR1 rfl rfl rfl ⟨_, by rw [HZ.out], ?_, F.set2 hBw _ _⟩
              rw [writeL_ok HZ.out, HP.out]
              exact Recs.of_own hown (by simp [Hq.out]) (by have := Hq.out; have := Hql.out; simp; omega)
            | true =>
              have hR2' := hf2.row hR2
              have e0 := rowAt hR2' (j := 0) rfl
              have e1 := rowAt hR2' (j := 1) rfl
              have e2 := rowAt hR2' (j := 2) rfl
              have e3 := rowAt hR2' (j := 3) rfl
              have e4 := rowAt hR2' (j := 4) rfl
              have e5 := rowAt hR2' (j := 5) rfl
              have e6 := rowAt hR2' (j := 6) rfl
              have hbs := hf2.size
              have hql : (O.map Wr.rw).length ≤ 1000001 := by rw [List.length_map, ← Hq.out]; exact Hql.out
              have hown : wr.ownsRow wo.heap.size 56 7 (.slice oa q oc) (O.map Wr.rw).length ((O.map Wr.rw).flatMap encRw) := by rw [List.length_map, ← Hq.out]; exact hown
              clear hR2' Hst
              go_wp2_with (at_builtin; refine wpList_appRw rfl (.tmp 126) (.tmp 128) rfl wo.heap.size _ (O.map Wr.rw) rfl (own_fr hown ((Fr.refl _).alloc _)) _ [r.rw] rfl (row_new _ r.rw) (by simp only [List.length_singleton]; omega) (by simp; omega) ?_; intro v1 w4 hown1 hg1 hat1; have G4 := (hf2.alloc _).grown hg1 (own_base0 hown); have en1 : (O.map Wr.rw ++ [r.rw]).length = q + 1 := (by rw [List.length_append, List.length_map, ← Hq.out]; rfl); have en2 : O.map Wr.rw ++ [r.rw] = (O ++ [r]).map Wr.rw := (by rw [List.map_append]; rfl); rw [en1, en2] at hown1; clear en1 en2 hown hg1 hat1 hql hbs e0 e1 e2 e3 e4 e5 e6 c01 c00 c10 c11 z10 z11; have c00 := rowAt (G4.row hR0) (j := 0) rfl; have hR1 := G4.row hR1o; have c10 := rowAt hR1 (j := 0) rfl; have c11 := rowAt hR1 (j := 1) rfl; have z10 := rowFz hR1 0; have z11 := rowFz hR1 1; obtain ⟨oa2, oc2, rfl⟩ := own_form hown1)
              have F := FO.then G4
              have hown := (ownsRow_setCell_below (ownsRow_setCell_below hown1 (a := ⟨B + 1, 0, none⟩) (by exact hBo) (.slice ga m gc)) (a := ⟨B + 1, 1, none⟩) (by exact hBo) (.slice oa2 (q + 1) oc2))
              refine w21_ret hR1 rfl rfl rfl ⟨_, by rw [HZ.out], ?_, F.set2 hBw _ _⟩
              rw [writeL_ok HZ.out, HP.out]
              exact Recs.of_own hown (by simp [← Hq.out]) (by have := Hq.out; have := Hql.out; simp; omega)
end Go.Proofs.YtppgjglfoibfcaaGreat
