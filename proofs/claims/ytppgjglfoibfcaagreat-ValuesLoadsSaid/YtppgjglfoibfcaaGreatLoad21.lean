import Derived.Test.YtppgjglfoibfcaaGreatVals5
import Derived.Test.YtppgjglfoibfcaaGreatWrite21
set_option linter.unusedSimpArgs false
set_option linter.unusedVariables false
/-
  The document's Load; what is asked of no registers.
-/
namespace Go.Proofs.YtppgjglfoibfcaaGreat
open Go.RowKit

section
variable (w : World)
theorem writeNil (a b c : BS) : Calls Tryz.prog 20 #[.pointer none, .string a, .string b, .string c] w fun e w' => e = .returned (.int .i64 8) ∧ Fr [] w w' := by
  go_enter Tryz.func20, Tryz.ntmps20
  go_upto_region 1 with fail
  have f0 := ((Fr.refl w).alloc (.cells #[.pointer none] 33)).alloc (.cells #[.string c] 9)
  have hA0 := rowNew0 w (.cells #[.pointer none] 33) (.cells #[.string c] 9)
  have hA1 := rowNew1 w (.cells #[.pointer none] 33) (.cells #[.string c] 9)
  obtain ⟨B, hB⟩ : ∃ B, B = w.heap.size := ⟨_, rfl⟩
  rw [← hB] at hA0 hA1 ⊢
  clear hB
  generalize (w.alloc (.cells #[.pointer none] 33)).alloc (.cells #[.string c] 9) = w0 at f0 hA0 hA1 ⊢
  have c0 := rowAt hA0 (j := 0) rfl
  have c1 := rowAt hA1 (j := 0) rfl
  go_upto_region 2 with fail
  have f1 := (Fr.refl w0).alloc (.cells #[.string b, .string c] 132)
  have hA0 := f1.row hA0
  generalize w0.alloc (.cells #[.string b, .string c] 132) = w1 at f1 hA0 ⊢
  clear c0 c1
  have c0 := rowAt hA0 (j := 0) rfl
  go_wp2
  go_ret
  exact ⟨rfl, f0.then f1⟩
theorem ofNil (a : BS) : Calls Tryz.prog 27 #[.pointer none, .string a] w fun e w' => e = .returned (.slice none 0 0) ∧ Fr [] w w' := by
  go_enter Tryz.func27, Tryz.ntmps27
  go_wp2
  go_ret
  exact ⟨rfl, .refl _⟩
theorem namesNil : Calls Tryz.prog 79 #[.pointer none] w fun e w' => e = .returned (.slice none 0 0) ∧ w = w' := by
  go_enter Tryz.func79, Tryz.ntmps79
  go_wp2
  go_ret
  exact ⟨rfl, rfl⟩
theorem tellNil : Calls Tryz.prog 22 #[.pointer none] w fun e w' => e = .returned (.slice none 0 0) ∧ Fr [] w w' := by
  go_enter Tryz.func22, Tryz.ntmps22
  go_wp2_with (go_at_call 79; refine (namesNil _).mono ?_; rintro e w1 ⟨rfl, rfl⟩)
  go_loopw [3, 11] (fun u i wr => u = .slice none 0 0 ∧ i = .int .i64 0 ∧ Fr [] w wr) (fun _ _ _ => 0)
  case atStart => exact ⟨rfl, rfl, .refl _⟩
  case round =>
    obtain ⟨rfl, rfl, hf⟩ := hrel
    go_wp2
    go_ret
    exact ⟨rfl, hf⟩
theorem rowsNil : Calls Tryz.prog 25 #[.pointer none] w fun e w' => e = .returned (.slice none 0 0) ∧ Fr [] w w' := by
  go_enter Tryz.func25, Tryz.ntmps25
  go_wp2_with (go_at_call 79; refine (namesNil _).mono ?_; rintro e w1 ⟨rfl, rfl⟩)
  go_loopw [3, 11] (fun u i wr => u = .slice none 0 0 ∧ i = .int .i64 0 ∧ Fr [] w wr) (fun _ _ _ => 0)
  case atStart => exact ⟨rfl, rfl, .refl _⟩
  case round =>
    obtain ⟨rfl, rfl, hf⟩ := hrel
    go_wp2
    go_ret
    exact ⟨rfl, hf⟩
end
theorem l21_ret {w : World} {R : Nat} {e0 e1 gv u : Value} {z : Int} {act : Act} {Q : Ending → World → Prop} (hR : w.heap[R]? = some (.cells #[e0, e1] 37 (0, 0))) (hx : act.tmps[4]? = some (.pointer (some ⟨R, 0, none⟩))) (hy : act.tmps[5]? = some (.int .i64 z)) (hd : act.defers = [])
    (h : Q (.returned (.tuple #[.agg #[gv, u], .int .i64 z])) ((w.setCell ⟨R, 0, none⟩ gv).setCell ⟨R, 1, none⟩ u)) :
    bodyPost Tryz.prog Tryz.f30 Q .ret act ((w.setCell ⟨R, 0, none⟩ gv).setCell ⟨R, 1, none⟩ u) := by
  have hr := row2 (x := gv) (y := u) hR
  generalize (w.setCell ⟨R, 0, none⟩ gv).setCell ⟨R, 1, none⟩ u = w' at hr h ⊢
  have c0 := rowAt hr (j := 0) rfl
  have c1 := rowAt hr (j := 1) rfl
  refine bodyPost_ret (v := .tuple #[.agg #[gv, u], .int .i64 z]) ?_ hd h
  simp [results, Tryz.f30, Array.getD_eq_getD_getElem?, hx, hy]
  go_simp
theorem loadOk_all {R : List Rw} {k : Nat} (h : LoadOk (R.take k)) (hk : R.length ≤ k) : LoadOk R := by rwa [List.take_of_length_le hk] at h
/-- What the document's Load answers. -/
def Load21Post (gv rv : Value) (R : List Rw) (e : Ending) : Prop :=
  (LoadOk R ∧ e = .returned (.tuple #[.agg #[gv, rv], .int .i64 0])) ∨ (¬ LoadOk R ∧ e = .returned (.tuple #[.agg #[.slice none 0 0, .slice none 0 0], .int .i64 5]))

set_option maxRecDepth 100000 in
set_option maxHeartbeats 8000000 in
theorem load21 (ga : Option Addr) (gn gc : Nat) (rv : Value) (R : List Rw) (w : World) (hr : RowsR w rv R) (hl : R.length ≤ 1000000) (hnm : ∀ r ∈ R, r.name.size ≤ 1000000) :
    Calls Tryz.prog 30 #[.agg #[.slice ga gn gc], rv] w fun e w' => Load21Post (.slice ga gn gc) rv R e ∧ Fr [] w w' := by
  obtain ⟨n, hnx⟩ : ∃ n, n = R.length := ⟨_, rfl⟩
  obtain ⟨a, c, rfl⟩ := hr.formN n hnx.symm
  rw [← hnx] at hl
  have Hn := Lib.hid hnx
  have Hnm := Lib.hid hnm
  clear hnx hnm
  go_enter Tryz.func30, Tryz.ntmps30
  go_upto_region 1 with fail
  have fw := ((Fr.refl w).alloc (.cells #[.slice ga gn gc] 30)).alloc (.cells #[.slice none 0 0, .slice none 0 0] 37)
  have hA0 := rowNew0 w (.cells #[.slice ga gn gc] 30) (.cells #[.slice none 0 0, .slice none 0 0] 37)
  have hA1 := rowNew1 w (.cells #[.slice ga gn gc] 30) (.cells #[.slice none 0 0, .slice none 0 0] 37)
  obtain ⟨B, hB⟩ : ∃ B, B = w.heap.size := ⟨_, rfl⟩
  rw [← hB] at hA0 hA1 ⊢
  have hBw : w.heap.size ≤ B + 1 := by omega
  clear hB
  generalize (w.alloc (.cells #[.slice ga gn gc] 30)).alloc (.cells #[.slice none 0 0, .slice none 0 0] 37) = w0 at fw hA0 hA1 ⊢
  go_wp2
  go_loopw [6] (fun i wr => ∃ k : Nat, k ≤ n ∧ i = .int .i64 k ∧ Hid (LoadOk (R.take k)) ∧ Fr [] w0 wr) (fun i _ => n - (intOf i).toNat)
  case atStart => exact ⟨0, Nat.zero_le _, rfl, Lib.hid (by simp [LoadOk]), .refl _⟩
  case round =>
    obtain ⟨k, hk, rfl, Hok, hf⟩ := hrel
    have hA0 := hf.row hA0
    have hA1 := hf.row hA1
    have fw := fw.then hf
    by_cases hlt : k < n
    · obtain ⟨r, hx⟩ : ∃ s, R[k]? = some s := ⟨_, List.getElem?_eq_getElem (Hn.out ▸ hlt)⟩
      obtain ⟨b, o, hidx, hcell⟩ := (hr.fr fw).at_ lenRw Hn.out 35 56 Tryz.underlying35 Tryz.sizeOf56 k r hx
      obtain ⟨d0, d1, d2, d3, d4, d5, d6⟩ := cellsRw hcell
      have Hx := Lib.hid hx
      have HN := Lib.hid (Hnm.out r (List.mem_of_getElem? hx))
      clear hx hcell
      go_upto_region 5 with fail
      have F8 := (Fr.refl wr).alloc (.cells #[.int .i64 r.kind, .string r.name, .string r.text, .int .i64 r.n, .string r.id, .string r.at_, .bool r.gone] 56)
      have h8 := rowNew wr (.cells #[.int .i64 r.kind, .string r.name, .string r.text, .int .i64 r.n, .string r.id, .string r.at_, .bool r.gone] 56)
      obtain ⟨M, hM⟩ : ∃ M, M = wr.heap.size := ⟨_, rfl⟩
      rw [← hM] at h8 ⊢
      clear hM d0 d1 d2 d3 d4 d5 d6 hidx
      generalize wr.alloc (.cells #[.int .i64 r.kind, .string r.name, .string r.text, .int .i64 r.n, .string r.id, .string r.at_, .bool r.gone] 56) = wA at F8 h8 ⊢
      have hrA := hr.fr (fw.then F8)
      have a0 := rowAt h8 (j := 0) rfl
      have a1 := rowAt h8 (j := 1) rfl
      have a2 := rowAt h8 (j := 2) rfl
      have a3 := rowAt h8 (j := 3) rfl
      have a4 := rowAt h8 (j := 4) rfl
      have a5 := rowAt h8 (j := 5) rfl
      have a6 := rowAt h8 (j := 6) rfl
      have hgd := guardRw
      go_cut [50] (fun s wx => s = .bool (!(decide (rowOk r) && risesB R k r)) ∧ Fr [] wA wx)
      case first =>
        by_cases h1 : r = r.wr.rw
        · have hq : ∀ W, (binOp .neq 56 (.agg #[.int .i64 r.kind, .string r.name, .string r.text, .int .i64 r.n, .string r.id, .string r.at_, .bool r.gone]) (.agg #[.int .i64 3, .string r.name, .string r.text, .int .i64 0, .string r.id, .string ⟨#[]⟩, .bool false])).run Tryz.prog W = .ok (.bool false) W := fun W => by have := neqRw r r.wr.rw W; rw [decide_eq_true h1] at this; exact this
          have H1 := Lib.hid h1
          clear h1
          cases h2 : mayW r.wr with
          | false =>
            have CM : Hid (∀ W, Calls Tryz.prog 66 #[.string r.name, .string r.text, .string r.id] W fun e w' => e = .returned (.bool false) ∧ W = w') := Lib.hid (fun W => by have := may21 r.name r.text r.id W HN.out; rwa [show (⟨r.name, r.text, r.id⟩ : Wr) = r.wr from rfl, h2] at this)
            have HV : Hid ((!(decide (rowOk r) && risesB R k r)) = true) := Lib.hid (by rw [decide_eq_false (show ¬ rowOk r from fun h => by have := h.2; rw [h2] at this; cases this)]; rfl)
            clear h2
            refine wp_region_ordX Fr.pre [] (.op 0 0 (.op 1 2 (.op 2 0 (.op 3 2 (.op 4 0 (.op 5 2 (.op 6 0 (.op 7 0 (.op 8 2 (.op 9 2 (.op 10 2 (.op 11 0 (.op 12 2 (.op 13 0 (.op 14 2 (.op 15 0 (.op 16 1 (.op 17 2 (.op 18 2 (.op 19 2 (.op 20 2 (.op 21 2 (.op 22 2 (.op 23 2 (.op 24 2 (.op 25 2 (.op 26 2 (.op 27 0 (.op 28 0 (.op 29 1 (.op 30 2 (.op 31 2 (.op 32 2 .fin))))))))))))))))))))))))))))))))) _ (by kernel_rfl) (by kernel_rfl) (by simp only [pickX, List.getElem?_cons_succ, List.getElem?_cons_zero]; rfl) ?_
            have F := (Fr.refl wA).drew
            have x_0 := Ext.cell (F.cell a0)
            have x_1 := Ext.cell (F.cell a1)
            have x_2 := Ext.cell (F.cell a2)
            have x_3 := Ext.cell (F.cell a3)
            have x_4 := Ext.cell (F.cell a4)
            have x_5 := Ext.cell (F.cell a5)
            have x_6 := Ext.cell (F.cell a6)
            repeat (first | (with_reducible refine wpX_q (fun K hK => ?_); go_simp; refine hK _ ?_; clear hK K) | (with_reducible refine wpX_p (fun K hK => ?_); go_simp; refine hK _ ?_; clear hK K) | (with_reducible refine wpX_p (fun K hK => ?_); go_simp; rw [if_neg (by simp [undef])]; refine hK _ ?_; clear hK K) | (with_reducible refine wpX_q (fun K hK => ?_); go_simp; rw [if_neg (by simp [undef])]; refine hK _ ?_; clear hK K))
            (refine wpX_e (fun K hK => ?_); go_simp; intro wq hq; have F := F.then hq; refine (CM.out _).mono ?_; rintro e wp ⟨rfl, rfl⟩; have F := F.then (Fr.refl _); refine ⟨_, rfl, (Fr.refl _), hK _ _ ?_⟩; clear hK K hq; skip)
            repeat (first | (with_reducible refine wpX_q (fun K hK => ?_); go_simp; refine hK _ ?_; clear hK K) | (with_reducible refine wpX_p (fun K hK => ?_); go_simp; refine hK _ ?_; clear hK K) | (with_reducible refine wpX_p (fun K hK => ?_); go_simp; rw [if_neg (by simp [undef])]; refine hK _ ?_; clear hK K) | (with_reducible refine wpX_q (fun K hK => ?_); go_simp; rw [if_neg (by simp [undef])]; refine hK _ ?_; clear hK K))
            (refine wpX_e (fun K hK => ?_); go_simp; (first | (refine hK _ _ ?_) | (rw [if_neg (by simp [undef])]; refine hK _ _ ?_)); clear hK K)
            repeat (first | (with_reducible refine wpX_q (fun K hK => ?_); go_simp; refine hK _ ?_; clear hK K) | (with_reducible refine wpX_p (fun K hK => ?_); go_simp; refine hK _ ?_; clear hK K) | (with_reducible refine wpX_p (fun K hK => ?_); go_simp; rw [if_neg (by simp [undef])]; refine hK _ ?_; clear hK K) | (with_reducible refine wpX_q (fun K hK => ?_); go_simp; rw [if_neg (by simp [undef])]; refine hK _ ?_; clear hK K))
            refine wpX_nil (fun wz hwz => ?_)
            go_wp2_with fail
            go_meet
            exact ⟨by rw [HV.out], F.then hwz⟩
          | true =>
            have CM : Hid (∀ W, Calls Tryz.prog 66 #[.string r.name, .string r.text, .string r.id] W fun e w' => e = .returned (.bool true) ∧ W = w') := Lib.hid (fun W => by have := may21 r.name r.text r.id W HN.out; rwa [show (⟨r.name, r.text, r.id⟩ : Wr) = r.wr from rfl, h2] at this)
            have HV : Hid ((!(decide (rowOk r) && risesB R k r)) = !risesB R k r) := Lib.hid (by rw [decide_eq_true (show rowOk r from ⟨H1.out, h2⟩)]; rfl)
            clear h2
            by_cases hk0 : k = 0
            · have HVz : Hid (risesB R k r = true) := Lib.hid (by simp [risesB, hk0])
              have hz1 : decide ((0 : Int) < (k : Int)) = false := decide_eq_false (by omega)
              have hz2 : decide (0 < k) = false := decide_eq_false (by omega)
              clear hk0
              refine wp_region_ordX Fr.pre [] (.op 0 0 (.op 1 2 (.op 2 0 (.op 3 2 (.op 4 0 (.op 5 2 (.op 6 0 (.op 7 0 (.op 8 2 (.op 9 2 (.op 10 2 (.op 11 0 (.op 12 2 (.op 13 0 (.op 14 2 (.op 15 0 (.op 16 1 (.op 17 2 (.op 18 2 (.op 19 2 (.op 20 2 (.op 21 2 (.op 22 2 (.op 23 2 (.op 24 2 (.op 25 2 (.op 26 2 (.op 27 0 (.op 28 0 (.op 29 1 (.op 30 2 (.op 31 2 (.op 32 2 .fin))))))))))))))))))))))))))))))))) _ (by kernel_rfl) (by kernel_rfl) (by simp only [pickX, List.getElem?_cons_succ, List.getElem?_cons_zero]; rfl) ?_
              have F := (Fr.refl wA).drew
              have x_0 := Ext.cell (F.cell a0)
              have x_1 := Ext.cell (F.cell a1)
              have x_2 := Ext.cell (F.cell a2)
              have x_3 := Ext.cell (F.cell a3)
              have x_4 := Ext.cell (F.cell a4)
              have x_5 := Ext.cell (F.cell a5)
              have x_6 := Ext.cell (F.cell a6)
              repeat (first | (with_reducible refine wpX_q (fun K hK => ?_); go_simp; refine hK _ ?_; clear hK K) | (with_reducible refine wpX_p (fun K hK => ?_); go_simp; refine hK _ ?_; clear hK K) | (with_reducible refine wpX_p (fun K hK => ?_); go_simp; rw [if_neg (by simp [undef])]; refine hK _ ?_; clear hK K) | (with_reducible refine wpX_q (fun K hK => ?_); go_simp; rw [if_neg (by simp [undef])]; refine hK _ ?_; clear hK K))
              (refine wpX_e (fun K hK => ?_); go_simp; intro wq hq; have F := F.then hq; refine (CM.out _).mono ?_; rintro e wp ⟨rfl, rfl⟩; have F := F.then (Fr.refl _); refine ⟨_, rfl, (Fr.refl _), hK _ _ ?_⟩; clear hK K hq; skip)
              repeat (first | (with_reducible refine wpX_q (fun K hK => ?_); go_simp; refine hK _ ?_; clear hK K) | (with_reducible refine wpX_p (fun K hK => ?_); go_simp; refine hK _ ?_; clear hK K) | (with_reducible refine wpX_p (fun K hK => ?_); go_simp; rw [if_neg (by simp [undef])]; refine hK _ ?_; clear hK K) | (with_reducible refine wpX_q (fun K hK => ?_); go_simp; rw [if_neg (by simp [undef])]; refine hK _ ?_; clear hK K))
              (refine wpX_e (fun K hK => ?_); go_simp; (first | (refine hK _ _ ?_) | (rw [if_neg (by simp [undef])]; refine hK _ _ ?_)); clear hK K)
              repeat (first | (with_reducible refine wpX_q (fun K hK => ?_); go_simp; refine hK _ ?_; clear hK K) | (with_reducible refine wpX_p (fun K hK => ?_); go_simp; refine hK _ ?_; clear hK K) | (with_reducible refine wpX_p (fun K hK => ?_); go_simp; rw [if_neg (by simp [undef])]; refine hK _ ?_; clear hK K) | (with_reducible refine wpX_q (fun K hK => ?_); go_simp; rw [if_neg (by simp [undef])]; refine hK _ ?_; clear hK K))
              refine wpX_nil (fun wz hwz => ?_)
              go_wp2_with fail
              go_meet
              exact ⟨by rw [HV.out, HVz.out]; rfl, F.then hwz⟩
            · have hz : 0 < k := by omega
              have hw1 : IntKind.i64.wrap ((k : Int) - 1) = (k : Int) - 1 := IntWalk.i64_in _ (by omega)
              obtain ⟨q, hp⟩ : ∃ q, R[k - 1]? = some q := ⟨_, List.getElem?_eq_getElem (by have := Hn.out; omega)⟩
              have HVz : Hid (risesB R k r = decide (RLt q r)) := Lib.hid (by simp [risesB, hk0, hp])
              obtain ⟨b, o, hidx, hcell⟩ := hrA.at_ lenRw Hn.out 35 56 Tryz.underlying35 Tryz.sizeOf56 (k - 1) q hp
              rw [show ((k - 1 : Nat) : Int) = (k : Int) - 1 by omega] at hidx
              obtain ⟨d0, d1, d2, d3, d4, d5, d6⟩ := cellsRw hcell
              have CL := Lib.hid (fun W : World => less21 q r W)
              clear hcell hp hk0
              unfold Rw.ag at CL
              generalize decide (RLt q r) = D at HVz CL
              refine wp_region_ordX Fr.pre [] (.op 0 0 (.op 1 2 (.op 2 0 (.op 3 2 (.op 4 0 (.op 5 2 (.op 6 0 (.op 7 0 (.op 8 2 (.op 9 2 (.op 10 2 (.op 11 0 (.op 12 2 (.op 13 0 (.op 14 2 (.op 15 0 (.op 16 1 (.op 17 2 (.op 18 2 (.op 19 2 (.op 20 2 (.op 21 2 (.op 22 2 (.op 23 2 (.op 24 2 (.op 25 2 (.op 26 2 (.op 27 0 (.op 28 0 (.op 29 1 (.op 30 2 (.op 31 2 (.op 32 2 .fin))))))))))))))))))))))))))))))))) _ (by kernel_rfl) (by kernel_rfl) (by simp only [pickX, List.getElem?_cons_succ, List.getElem?_cons_zero]; rfl) ?_
              have F := (Fr.refl wA).drew
              have a0 := F.cell a0
              have a1 := F.cell a1
              have a2 := F.cell a2
              have a3 := F.cell a3
              have a4 := F.cell a4
              have a5 := F.cell a5
              have a6 := F.cell a6
              have d0 := F.cell d0
              have d1 := F.cell d1
              have d2 := F.cell d2
              have d3 := F.cell d3
              have d4 := F.cell d4
              have d5 := F.cell d5
              have d6 := F.cell d6
              have x_0 := Ext.cell a0
              have x_1 := Ext.cell a1
              have x_2 := Ext.cell a2
              have x_3 := Ext.cell a3
              have x_4 := Ext.cell a4
              have x_5 := Ext.cell a5
              have x_6 := Ext.cell a6
              repeat (first | (with_reducible refine wpX_q (fun K hK => ?_); go_simp; refine hK _ ?_; clear hK K) | (with_reducible refine wpX_p (fun K hK => ?_); go_simp; refine hK _ ?_; clear hK K) | (with_reducible refine wpX_p (fun K hK => ?_); go_simp; rw [if_neg (by simp [undef])]; refine hK _ ?_; clear hK K) | (with_reducible refine wpX_q (fun K hK => ?_); go_simp; rw [if_neg (by simp [undef])]; refine hK _ ?_; clear hK K))
              clear x_0 x_1 x_2 x_3 x_4 x_5 x_6
              (refine wpX_e (fun K hK => ?_); go_simp; intro wq hq; have F := F.then hq; (try clear x_a0 x_a1 x_a2 x_a3 x_a4 x_a5 x_a6 x_d0 x_d1 x_d2 x_d3 x_d4 x_d5 x_d6); have a0 := (hq).cell a0; have a1 := (hq).cell a1; have a2 := (hq).cell a2; have a3 := (hq).cell a3; have a4 := (hq).cell a4; have a5 := (hq).cell a5; have a6 := (hq).cell a6; have d0 := (hq).cell d0; have d1 := (hq).cell d1; have d2 := (hq).cell d2; have d3 := (hq).cell d3; have d4 := (hq).cell d4; have d5 := (hq).cell d5; have d6 := (hq).cell d6; refine (CM.out _).mono ?_; rintro e wp ⟨rfl, rfl⟩; have a0 := (Fr.refl _).cell a0; have a1 := (Fr.refl _).cell a1; have a2 := (Fr.refl _).cell a2; have a3 := (Fr.refl _).cell a3; have a4 := (Fr.refl _).cell a4; have a5 := (Fr.refl _).cell a5; have a6 := (Fr.refl _).cell a6; have d0 := (Fr.refl _).cell d0; have d1 := (Fr.refl _).cell d1; have d2 := (Fr.refl _).cell d2; have d3 := (Fr.refl _).cell d3; have d4 := (Fr.refl _).cell d4; have d5 := (Fr.refl _).cell d5; have d6 := (Fr.refl _).cell d6; have F := F.then (Fr.refl _); refine ⟨_, rfl, (Fr.refl _), hK _ _ ?_⟩; clear hK K hq; have x_a0 := Ext.cell a0; have x_a1 := Ext.cell a1; have x_a2 := Ext.cell a2; have x_a3 := Ext.cell a3; have x_a4 := Ext.cell a4; have x_a5 := Ext.cell a5; have x_a6 := Ext.cell a6; have x_d0 := Ext.cell d0; have x_d1 := Ext.cell d1; have x_d2 := Ext.cell d2; have x_d3 := Ext.cell d3; have x_d4 := Ext.cell d4; have x_d5 := Ext.cell d5; have x_d6 := Ext.cell d6; )
              repeat (first | (with_reducible refine wpX_q (fun K hK => ?_); go_simp; refine hK _ ?_; clear hK K) | (with_reducible refine wpX_p (fun K hK => ?_); go_simp; refine hK _ ?_; clear hK K) | (with_reducible refine wpX_p (fun K hK => ?_); go_simp; rw [if_neg (by simp [undef])]; refine hK _ ?_; clear hK K) | (with_reducible refine wpX_q (fun K hK => ?_); go_simp; rw [if_neg (by simp [undef])]; refine hK _ ?_; clear hK K))
              (refine wpX_e (fun K hK => ?_); go_simp; intro wq hq; have F := F.then hq; refine (CL.out _).mono ?_; rintro e wp ⟨rfl, g1⟩; have F := F.then (g1); refine ⟨_, rfl, (g1), hK _ _ ?_⟩; clear hK K hq; skip)
              repeat (first | (with_reducible refine wpX_q (fun K hK => ?_); go_simp; refine hK _ ?_; clear hK K) | (with_reducible refine wpX_p (fun K hK => ?_); go_simp; refine hK _ ?_; clear hK K) | (with_reducible refine wpX_p (fun K hK => ?_); go_simp; rw [if_neg (by simp [undef])]; refine hK _ ?_; clear hK K) | (with_reducible refine wpX_q (fun K hK => ?_); go_simp; rw [if_neg (by simp [undef])]; refine hK _ ?_; clear hK K))
              refine wpX_nil (fun wz hwz => ?_)
              go_wp2_with fail
              go_meet
              exact ⟨by rw [HV.out, HVz.out], F.then hwz⟩
        · have hq : ∀ W, (binOp .neq 56 (.agg #[.int .i64 r.kind, .string r.name, .string r.text, .int .i64 r.n, .string r.id, .string r.at_, .bool r.gone]) (.agg #[.int .i64 3, .string r.name, .string r.text, .int .i64 0, .string r.id, .string ⟨#[]⟩, .bool false])).run Tryz.prog W = .ok (.bool true) W := fun W => by have := neqRw r r.wr.rw W; rw [decide_eq_false h1] at this; exact this
          have HV : Hid ((!(decide (rowOk r) && risesB R k r)) = true) := Lib.hid (by rw [decide_eq_false (show ¬ rowOk r from fun h => h1 h.1)]; rfl)
          clear h1
          refine wp_region_ordX Fr.pre [] (.op 0 0 (.op 1 2 (.op 2 0 (.op 3 2 (.op 4 0 (.op 5 2 (.op 6 0 (.op 7 0 (.op 8 2 (.op 9 2 (.op 10 2 (.op 11 0 (.op 12 2 (.op 13 0 (.op 14 2 (.op 15 0 (.op 16 1 (.op 17 2 (.op 18 2 (.op 19 2 (.op 20 2 (.op 21 2 (.op 22 2 (.op 23 2 (.op 24 2 (.op 25 2 (.op 26 2 (.op 27 0 (.op 28 0 (.op 29 1 (.op 30 2 (.op 31 2 (.op 32 2 .fin))))))))))))))))))))))))))))))))) _ (by kernel_rfl) (by kernel_rfl) (by simp only [pickX, List.getElem?_cons_succ, List.getElem?_cons_zero]; rfl) ?_
          have F := (Fr.refl wA).drew
          have x_0 := Ext.cell (F.cell a0)
          have x_1 := Ext.cell (F.cell a1)
          have x_2 := Ext.cell (F.cell a2)
          have x_3 := Ext.cell (F.cell a3)
          have x_4 := Ext.cell (F.cell a4)
          have x_5 := Ext.cell (F.cell a5)
          have x_6 := Ext.cell (F.cell a6)
          repeat (first | (with_reducible refine wpX_q (fun K hK => ?_); go_simp; refine hK _ ?_; clear hK K) | (with_reducible refine wpX_p (fun K hK => ?_); go_simp; refine hK _ ?_; clear hK K) | (with_reducible refine wpX_p (fun K hK => ?_); go_simp; rw [if_neg (by simp [undef])]; refine hK _ ?_; clear hK K) | (with_reducible refine wpX_q (fun K hK => ?_); go_simp; rw [if_neg (by simp [undef])]; refine hK _ ?_; clear hK K))
          (refine wpX_e (fun K hK => ?_); go_simp; (first | (refine hK _ _ ?_) | (rw [if_neg (by simp [undef])]; refine hK _ _ ?_)); clear hK K)
          repeat (first | (with_reducible refine wpX_q (fun K hK => ?_); go_simp; refine hK _ ?_; clear hK K) | (with_reducible refine wpX_p (fun K hK => ?_); go_simp; refine hK _ ?_; clear hK K) | (with_reducible refine wpX_p (fun K hK => ?_); go_simp; rw [if_neg (by simp [undef])]; refine hK _ ?_; clear hK K) | (with_reducible refine wpX_q (fun K hK => ?_); go_simp; rw [if_neg (by simp [undef])]; refine hK _ ?_; clear hK K))
          (refine wpX_e (fun K hK => ?_); go_simp; (first | (refine hK _ _ ?_) | (rw [if_neg (by simp [undef])]; refine hK _ _ ?_)); clear hK K)
          repeat (first | (with_reducible refine wpX_q (fun K hK => ?_); go_simp; refine hK _ ?_; clear hK K) | (with_reducible refine wpX_p (fun K hK => ?_); go_simp; refine hK _ ?_; clear hK K) | (with_reducible refine wpX_p (fun K hK => ?_); go_simp; rw [if_neg (by simp [undef])]; refine hK _ ?_; clear hK K) | (with_reducible refine wpX_q (fun K hK => ?_); go_simp; rw [if_neg (by simp [undef])]; refine hK _ ?_; clear hK K))
          refine wpX_nil (fun wz hwz => ?_)
          go_wp2_with fail
          go_meet
          exact ⟨by rw [HV.out], F.then hwz⟩
      case rest =>
        obtain ⟨rfl, f1⟩ := hcut
        have f9 := F8.then f1
        have hA1 := f9.row hA1
        have FA := fw.then f9
        clear a0 a1 a2 a3 a4 a5 a6 h8 hrA hgd F8 f1
        cases hD : (decide (rowOk r) && risesB R k r) with
        | false =>
          have HN : Hid (¬ LoadOk R) := Lib.hid (fun h => by
            have h2 := (loadOk_snoc Hx.out).1 (loadOk_pre h (k + 1))
            rw [decide_eq_true h2.2.1, h2.2.2] at hD; cases hD)
          have c10 := rowAt hA1 (j := 0) rfl
          have c11 := rowAt hA1 (j := 1) rfl
          have z10 := rowFz hA1 0
          have z11 := rowFz hA1 1
          clear hD
          go_wp2
          refine l21_ret hA1 rfl rfl rfl ⟨.inr ⟨HN.out, rfl⟩, FA.set2 hBw _ _⟩
        | true =>
          have HOK : Hid (LoadOk (R.take (k + 1))) := Lib.hid (by
            have h2 := Bool.and_eq_true_iff.1 hD
            exact (loadOk_snoc Hx.out).2 ⟨Hok.out, of_decide_eq_true h2.1, h2.2⟩)
          clear hD
          go_wp2
          go_roundw
          case rel => exact ⟨k + 1, by omega, by go_num, HOK, hf.then f9⟩
          case measure => simp [intOf]; omega
    · have HOK : Hid (LoadOk R) := Lib.hid (loadOk_all Hok.out (by have := Hn.out; omega))
      have c00 := rowAt hA0 (j := 0) rfl
      have c10 := rowAt hA1 (j := 0) rfl
      have c11 := rowAt hA1 (j := 1) rfl
      have z10 := rowFz hA1 0
      have z11 := rowFz hA1 1
      go_wp2
      refine l21_ret hA1 rfl rfl rfl ⟨.inl ⟨HOK.out, rfl⟩, fw.set2 hBw _ _⟩
end Go.Proofs.YtppgjglfoibfcaaGreat
