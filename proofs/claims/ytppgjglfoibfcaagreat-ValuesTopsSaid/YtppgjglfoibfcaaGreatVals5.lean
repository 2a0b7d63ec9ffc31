import Derived.Test.YtppgjglfoibfcaaGreatVals4
import Derived.Deep.RegionHeld3
import Derived.Deep.AppendLies
set_option linter.unusedSimpArgs false
set_option linter.unusedVariables false
/-
  Package values: Load, walked.
-/
namespace Go.Proofs.YtppgjglfoibfcaaGreat
open Go.RowKit

def LoadPost (w : World) (dv : Value) (R : List Rw) (e : Ending) (w' : World) : Prop :=
  (LoadOk R ∧ ∃ vb bm, e = .returned (.tuple #[.pointer (some ⟨vb, 0, none⟩), .int .i64 0]) ∧ w.heap.size ≤ vb ∧ w.heap.size ≤ bm ∧ ValsAt w' vb bm dv (R.map Rw.wr) R.length) ∨ (¬ LoadOk R ∧ e = .returned (.tuple #[.pointer none, .int .i64 5]))
theorem loadPost_no {w w' : World} {dv : Value} {R : List Rw} {e : Ending} {k : Nat} {r : Rw} (hr : R[k]? = some r) (h : ¬ (rowOk r ∧ risesB R k r = true)) (he : e = .returned (.tuple #[.pointer none, .int .i64 5])) : LoadPost w dv R e w' :=
  .inr ⟨fun hl => h ((loadOk_snoc hr).1 (loadOk_pre hl (k + 1))).2, he⟩
theorem mayW_name {r : Wr} (h : mayW r = true) : r.name.size ≤ 12 := by
  simp only [mayW, nameOk, Bool.and_eq_true, decide_eq_true_eq] at h
  exact h.1.1.2.2
theorem ints2 (w : World) (a b : Int) : (w.alloc (.cells #[.int .i64 a, .int .i64 b] 3)).cell? ⟨w.heap.size, 0, none⟩ = some (.int .i64 a) ∧ (w.alloc (.cells #[.int .i64 a, .int .i64 b] 3)).cell? ⟨w.heap.size, 1, none⟩ = some (.int .i64 b) :=
  ⟨World.cell?_alloc_new w #[.int .i64 a, .int .i64 b] 3 0, World.cell?_alloc_new w #[.int .i64 a, .int .i64 b] 3 1⟩

set_option maxRecDepth 100000 in
set_option maxHeartbeats 8000000 in
theorem loadV (p : Option Addr) (dv rv : Value) (R : List Rw) (w : World) (hp : dv = .pointer p) (hr : RowsR w rv R) (hl : R.length ≤ 100000) :
    Calls Tryz.prog 29 #[dv, rv] w fun e w' => LoadPost w dv R e w' ∧ Fr [] w w' := by
  obtain ⟨n, hnx⟩ : ∃ n, n = R.length := ⟨_, rfl⟩
  obtain ⟨a, c, rfl⟩ := hr.formN n hnx.symm
  have CE := Lib.hid (emptyV p dv hp w)
  have Hp := Lib.hid hp
  rw [← hnx] at hl
  have Hn := Lib.hid hnx
  subst hp
  clear hnx
  go_enter Tryz.func29, Tryz.ntmps29
  go_wp2_with (go_at_call 18; refine CE.out.mono ?_; rintro e w1 ⟨vb, rfl, hv, hvb, f1⟩)
  have hbm : w.heap.size ≤ w.heap.size := Nat.le_refl _
  obtain ⟨bm, hbmx⟩ : ∃ b, b = w.heap.size := ⟨_, rfl⟩
  rw [← hbmx] at hv
  have Hbm := Lib.hid (show w.heap.size ≤ bm by omega)
  have hl0 : LdAt w.heap.size w1 vb bm (.pointer p) [] := by
    obtain ⟨l, h1, h2, h3, h4⟩ := hv.map
    have hl0 : l = [] := List.eq_nil_of_length_eq_zero (by omega)
    subst hl0
    exact ⟨hv.blk, [], ⟨#[]⟩, w1, h1, by simp, by simp [keysL], .reflS (fun k hk => by rw [List.mem_singleton.1 hk]; exact h1.isMp), rowLt hv.blk, h1.lt, f1.size, fun n _ => .inr ⟨rfl, rfl⟩, World.ownsRow_nil _ _ _ _, by simp [lk, regW], .inl rfl, by simp⟩
  have Hl0 := Lib.hid hl0
  clear hbmx hbm hv hl0 CE
  have hr1 := hr.fr f1
  go_loopw [16] (fun i wr => ∃ k : Nat, k ≤ n ∧ i = .int .i64 k ∧ Hid (LoadOk (R.take k)) ∧ Hid (LdAt w.heap.size wr vb bm (.pointer p) ((R.take k).map Rw.wr)) ∧ Fr [] w wr) (fun i _ => n - (intOf i).toNat)
  case atStart => exact ⟨0, Nat.zero_le _, rfl, Lib.hid (by simp [LoadOk]), Lib.hid (by simpa using Hl0.out), f1⟩
  case round =>
    obtain ⟨k, hk, rfl, Hok, Hld, hf⟩ := hrel
    by_cases hlt : k < n
    · obtain ⟨r, hx⟩ : ∃ s, R[k]? = some s := ⟨_, List.getElem?_eq_getElem (Hn.out ▸ hlt)⟩
      obtain ⟨b, o, hidx, hcell⟩ := (hr.fr hf).at_ lenRw Hn.out 35 56 Tryz.underlying35 Tryz.sizeOf56 k r hx
      obtain ⟨d0, d1, d2, d3, d4, d5, d6⟩ := cellsRw hcell
      have Hx := Lib.hid hx
      clear hx hcell
      go_upto_region 7 with fail
      have F8 := ((Fr.refl wr).alloc (.cells #[.int .i64 r.kind, .string r.name, .string r.text, .int .i64 r.n, .string r.id, .string r.at_, .bool r.gone] 56)).alloc (.cells #[.string r.text, .string r.id] 132)
      have F10 := F8.alloc (.cells #[.int .i64 3, .string r.name, .string r.text, .int .i64 0, .string r.id, .string ⟨#[]⟩, .bool false] 56)
      have h8 := rowNew0 wr (.cells #[.int .i64 r.kind, .string r.name, .string r.text, .int .i64 r.n, .string r.id, .string r.at_, .bool r.gone] 56) (.cells #[.string r.text, .string r.id] 132)
      have h9 := rowNew1 wr (.cells #[.int .i64 r.kind, .string r.name, .string r.text, .int .i64 r.n, .string r.id, .string r.at_, .bool r.gone] 56) (.cells #[.string r.text, .string r.id] 132)
      have h10 : (((wr.alloc (.cells #[.int .i64 r.kind, .string r.name, .string r.text, .int .i64 r.n, .string r.id, .string r.at_, .bool r.gone] 56)).alloc (.cells #[.string r.text, .string r.id] 132)).alloc (.cells #[.int .i64 3, .string r.name, .string r.text, .int .i64 0, .string r.id, .string ⟨#[]⟩, .bool false] 56)).heap[wr.heap.size + 1 + 1]? = some (.cells #[.int .i64 3, .string r.name, .string r.text, .int .i64 0, .string r.id, .string ⟨#[]⟩, .bool false] 56 (0, 0)) := by
        have := rowNew ((wr.alloc (.cells #[.int .i64 r.kind, .string r.name, .string r.text, .int .i64 r.n, .string r.id, .string r.at_, .bool r.gone] 56)).alloc (.cells #[.string r.text, .string r.id] 132)) (.cells #[.int .i64 3, .string r.name, .string r.text, .int .i64 0, .string r.id, .string ⟨#[]⟩, .bool false] 56)
        simpa [World.size_alloc] using this
      have fl := (Fr.refl ((wr.alloc (.cells #[.int .i64 r.kind, .string r.name, .string r.text, .int .i64 r.n, .string r.id, .string r.at_, .bool r.gone] 56)).alloc (.cells #[.string r.text, .string r.id] 132))).alloc (.cells #[.int .i64 3, .string r.name, .string r.text, .int .i64 0, .string r.id, .string ⟨#[]⟩, .bool false] 56)
      have h8 := fl.row h8
      have h9 := fl.row h9
      obtain ⟨M, hM⟩ : ∃ M, M = wr.heap.size := ⟨_, rfl⟩
      have HM := Lib.hid hM
      rw [← hM] at h8 h9 h10 ⊢
      clear hM F8 fl d0 d1 d2 d3 d4 d5 d6 hidx
      generalize ((wr.alloc (.cells #[.int .i64 r.kind, .string r.name, .string r.text, .int .i64 r.n, .string r.id, .string r.at_, .bool r.gone] 56)).alloc (.cells #[.string r.text, .string r.id] 132)).alloc (.cells #[.int .i64 3, .string r.name, .string r.text, .int .i64 0, .string r.id, .string ⟨#[]⟩, .bool false] 56) = wA at F10 h8 h9 h10 ⊢
      have hrA := (hr.fr hf).fr F10
      obtain ⟨D, hD⟩ : ∃ D, D = risesB R k r := ⟨_, rfl⟩
      have HD := Lib.hid hD
      clear hD
      have r1 := rowAt h8 (j := 1) rfl
      have r4 := rowAt h8 (j := 4) rfl
      go_cut [11] (fun s wx => s = .bool D ∧ Fr [] wA wx)
      case first =>
        by_cases hk0 : k = 0
        · have hz : ((k : Int) == 0) = true := by rw [hk0]; rfl
          have HDt : Hid (D = true) := Lib.hid (by rw [HD.out]; simp [risesB, hk0])
          clear hk0
          refine wp_region_ordX Fr.pre [] (.op 0 2 (.op 1 2 (.op 2 2 (.op 3 2 (.op 4 2 (.op 5 2 (.op 6 2 (.op 7 2 (.op 8 0 (.op 9 2 (.op 10 0 (.op 12 2 (.op 13 2 (.op 14 2 (.op 15 2 (.op 16 2 (.op 17 0 (.op 18 2 (.op 19 0 (.op 11 1 (.op 20 1 (.op 21 1 (.op 22 1 (.op 23 2 (.op 24 2 (.op 25 2 .fin)))))))))))))))))))))))))) _ (by kernel_rfl) (by kernel_rfl) (by simp only [pickX, List.getElem?_cons_succ, List.getElem?_cons_zero]; rfl) ?_
          have F := (Fr.refl wA).drew
          repeat (first | (with_reducible refine wpX_q (fun K hK => ?_); go_simp; refine hK _ ?_; clear hK K) | (with_reducible refine wpX_p (fun K hK => ?_); go_simp; refine hK _ ?_; clear hK K) | (with_reducible refine wpX_p (fun K hK => ?_); go_simp; rw [if_neg (by simp [undef])]; refine hK _ ?_; clear hK K) | (with_reducible refine wpX_q (fun K hK => ?_); go_simp; rw [if_neg (by simp [undef])]; refine hK _ ?_; clear hK K))
          (refine wpX_e (fun K hK => ?_); go_simp; (first | (refine hK _ _ ?_) | (rw [if_neg (by simp [undef])]; refine hK _ _ ?_)); clear hK K)
          repeat (first | (with_reducible refine wpX_q (fun K hK => ?_); go_simp; refine hK _ ?_; clear hK K) | (with_reducible refine wpX_p (fun K hK => ?_); go_simp; refine hK _ ?_; clear hK K) | (with_reducible refine wpX_p (fun K hK => ?_); go_simp; rw [if_neg (by simp [undef])]; refine hK _ ?_; clear hK K) | (with_reducible refine wpX_q (fun K hK => ?_); go_simp; rw [if_neg (by simp [undef])]; refine hK _ ?_; clear hK K))
          (refine wpX_e (fun K hK => ?_); go_simp; (first | (refine hK _ _ ?_) | (rw [if_neg (by simp [undef])]; refine hK _ _ ?_)); clear hK K)
          repeat (first | (with_reducible refine wpX_q (fun K hK => ?_); go_simp; refine hK _ ?_; clear hK K) | (with_reducible refine wpX_p (fun K hK => ?_); go_simp; refine hK _ ?_; clear hK K) | (with_reducible refine wpX_p (fun K hK => ?_); go_simp; rw [if_neg (by simp [undef])]; refine hK _ ?_; clear hK K) | (with_reducible refine wpX_q (fun K hK => ?_); go_simp; rw [if_neg (by simp [undef])]; refine hK _ ?_; clear hK K))
          (refine wpX_e (fun K hK => ?_); go_simp; (first | (refine hK _ _ ?_) | (rw [if_neg (by simp [undef])]; refine hK _ _ ?_)); clear hK K)
          repeat (first | (with_reducible refine wpX_q (fun K hK => ?_); go_simp; refine hK _ ?_; clear hK K) | (with_reducible refine wpX_p (fun K hK => ?_); go_simp; refine hK _ ?_; clear hK K) | (with_reducible refine wpX_p (fun K hK => ?_); go_simp; rw [if_neg (by simp [undef])]; refine hK _ ?_; clear hK K) | (with_reducible refine wpX_q (fun K hK => ?_); go_simp; rw [if_neg (by simp [undef])]; refine hK _ ?_; clear hK K))
          (refine wpX_e (fun K hK => ?_); go_simp; (first | (refine hK _ _ ?_) | (rw [if_neg (by simp [undef])]; refine hK _ _ ?_)); clear hK K)
          repeat (first | (with_reducible refine wpX_q (fun K hK => ?_); go_simp; refine hK _ ?_; clear hK K) | (with_reducible refine wpX_p (fun K hK => ?_); go_simp; refine hK _ ?_; clear hK K) | (with_reducible refine wpX_p (fun K hK => ?_); go_simp; rw [if_neg (by simp [undef])]; refine hK _ ?_; clear hK K) | (with_reducible refine wpX_q (fun K hK => ?_); go_simp; rw [if_neg (by simp [undef])]; refine hK _ ?_; clear hK K))
          refine wpX_nil (fun wz hwz => ?_)
          go_wp2_with fail
          go_meet
          exact ⟨by rw [HDt.out], F.then hwz⟩
        · have hz : ((k : Int) == 0) = false := beq_eq_false_iff_ne.2 (by omega)
          have hw1 : IntKind.i64.wrap ((k : Int) - 1) = (k : Int) - 1 := IntWalk.i64_in _ (by omega)
          obtain ⟨q, hp⟩ : ∃ q, R[k - 1]? = some q := ⟨_, List.getElem?_eq_getElem (by have := Hn.out; omega)⟩
          have HDt : Hid (D = decide (orI (cmpS q.name r.name) (cmpS q.id r.id) < 0)) := Lib.hid (by rw [HD.out, or_lt]; simp [risesB, hk0, hp])
          obtain ⟨b, o, hidx, hcell⟩ := hrA.at_ lenRw Hn.out 35 56 Tryz.underlying35 Tryz.sizeOf56 (k - 1) q hp
          rw [show ((k - 1 : Nat) : Int) = (k : Int) - 1 by omega] at hidx
          obtain ⟨d0, d1, d2, d3, d4, d5, d6⟩ := cellsRw hcell
          clear d0 d2 d3 d5 d6 hcell hp hk0
          obtain ⟨C1, hC1⟩ : ∃ C, C = cmpS q.name r.name := ⟨_, rfl⟩
          obtain ⟨C2, hC2⟩ : ∃ C, C = cmpS q.id r.id := ⟨_, rfl⟩
          rw [← hC1, ← hC2] at HDt
          have CA := Lib.hid (fun W : World => (by have := compare55 q.name r.name W; rw [← hC1] at this; exact this : Calls Tryz.prog 78 #[.string q.name, .string r.name] W fun e w' => e = .returned (.int .i64 C1) ∧ W = w'))
          have CB := Lib.hid (fun W : World => (by have := compare55 q.id r.id W; rw [← hC2] at this; exact this : Calls Tryz.prog 78 #[.string q.id, .string r.id] W fun e w' => e = .returned (.int .i64 C2) ∧ W = w'))
          clear hC1 hC2
          refine wp_region_ordX Fr.pre [] (.op 0 2 (.op 1 2 (.op 2 2 (.op 3 2 (.op 4 2 (.op 5 2 (.op 6 2 (.op 7 2 (.op 8 0 (.op 9 2 (.op 10 0 (.op 12 2 (.op 13 2 (.op 14 2 (.op 15 2 (.op 16 2 (.op 17 0 (.op 18 2 (.op 19 0 (.op 11 1 (.op 20 1 (.op 21 1 (.op 22 1 (.op 23 2 (.op 24 2 (.op 25 2 .fin)))))))))))))))))))))))))) _ (by kernel_rfl) (by kernel_rfl) (by simp only [pickX, List.getElem?_cons_succ, List.getElem?_cons_zero]; rfl) ?_
          have F := (Fr.refl wA).drew
          have x_1 := Ext.cell (F.cell d1)
          have x_2 := Ext.cell (F.cell d4)
          have x_3 := Ext.cell (F.cell r1)
          have x_4 := Ext.cell (F.cell r4)
          repeat (first | (with_reducible refine wpX_q (fun K hK => ?_); go_simp; refine hK _ ?_; clear hK K) | (with_reducible refine wpX_p (fun K hK => ?_); go_simp; refine hK _ ?_; clear hK K) | (with_reducible refine wpX_p (fun K hK => ?_); go_simp; rw [if_neg (by simp [undef])]; refine hK _ ?_; clear hK K) | (with_reducible refine wpX_q (fun K hK => ?_); go_simp; rw [if_neg (by simp [undef])]; refine hK _ ?_; clear hK K))
          clear x_1 x_2 x_3 x_4
          (refine wpX_e (fun K hK => ?_); go_simp; intro wq hq; have F := F.then hq; refine (CA.out _).mono ?_; rintro e wp ⟨rfl, rfl⟩; have F := F.then (Fr.refl _); refine ⟨_, rfl, (Fr.refl _), hK _ _ ?_⟩; clear hK K hq; skip)
          repeat (first | (with_reducible refine wpX_q (fun K hK => ?_); go_simp; refine hK _ ?_; clear hK K) | (with_reducible refine wpX_p (fun K hK => ?_); go_simp; refine hK _ ?_; clear hK K) | (with_reducible refine wpX_p (fun K hK => ?_); go_simp; rw [if_neg (by simp [undef])]; refine hK _ ?_; clear hK K) | (with_reducible refine wpX_q (fun K hK => ?_); go_simp; rw [if_neg (by simp [undef])]; refine hK _ ?_; clear hK K))
          (refine wpX_e (fun K hK => ?_); go_simp; intro wq hq; have F := F.then hq; refine (CB.out _).mono ?_; rintro e wp ⟨rfl, rfl⟩; have F := F.then (Fr.refl _); refine ⟨_, rfl, (Fr.refl _), hK _ _ ?_⟩; clear hK K hq; skip)
          repeat (first | (with_reducible refine wpX_q (fun K hK => ?_); go_simp; refine hK _ ?_; clear hK K) | (with_reducible refine wpX_p (fun K hK => ?_); go_simp; refine hK _ ?_; clear hK K) | (with_reducible refine wpX_p (fun K hK => ?_); go_simp; rw [if_neg (by simp [undef])]; refine hK _ ?_; clear hK K) | (with_reducible refine wpX_q (fun K hK => ?_); go_simp; rw [if_neg (by simp [undef])]; refine hK _ ?_; clear hK K))
          refine wpX_e (fun K hK => ?_)
          go_simp
          intro w7 hw7
          have F := F.then hw7
          obtain ⟨k0, k1⟩ := ints2 w7 C1 C2
          go_simp
          refine ⟨(Fr.refl w7).alloc _, hK _ _ ?_⟩
          clear hK K
          repeat (first | (with_reducible refine wpX_q (fun K hK => ?_); go_simp; refine hK _ ?_; clear hK K) | (with_reducible refine wpX_p (fun K hK => ?_); go_simp; refine hK _ ?_; clear hK K) | (with_reducible refine wpX_p (fun K hK => ?_); go_simp; rw [if_neg (by simp [undef])]; refine hK _ ?_; clear hK K) | (with_reducible refine wpX_q (fun K hK => ?_); go_simp; rw [if_neg (by simp [undef])]; refine hK _ ?_; clear hK K))
          refine wpX_e (fun K hK => ?_)
          go_simp
          intro w8 hw8
          have F := (F.alloc (.cells #[.int .i64 C1, .int .i64 C2] 3)).then hw8
          have RR := or53 _ _ _ _ (hw8.cell k0) (hw8.cell k1)
          change Calls _ _ _ _ (fun e w' => e = .returned (.int .i64 (orI C1 C2)) ∧ w8 = w') at RR
          refine RR.mono ?_
          rintro e w8' ⟨rfl, rfl⟩
          refine ⟨_, rfl, .refl _, hK _ _ ?_⟩
          clear hK K RR
          repeat (first | (with_reducible refine wpX_q (fun K hK => ?_); go_simp; refine hK _ ?_; clear hK K) | (with_reducible refine wpX_p (fun K hK => ?_); go_simp; refine hK _ ?_; clear hK K) | (with_reducible refine wpX_p (fun K hK => ?_); go_simp; rw [if_neg (by simp [undef])]; refine hK _ ?_; clear hK K) | (with_reducible refine wpX_q (fun K hK => ?_); go_simp; rw [if_neg (by simp [undef])]; refine hK _ ?_; clear hK K))
          refine wpX_nil (fun wz hwz => ?_)
          go_wp2_with fail
          go_meet
          exact ⟨by rw [HDt.out], F.then hwz⟩
      case rest =>
        obtain ⟨rfl, f1⟩ := hcut
        have h8 := f1.row h8
        have h9 := f1.row h9
        have h10 := f1.row h10
        have FA := F10.then f1
        clear r1 r4 F10 f1 hrA
        have a0 := rowAt h8 (j := 0) rfl
        have a1 := rowAt h8 (j := 1) rfl
        have a2 := rowAt h8 (j := 2) rfl
        have a3 := rowAt h8 (j := 3) rfl
        have a4 := rowAt h8 (j := 4) rfl
        have a5 := rowAt h8 (j := 5) rfl
        have a6 := rowAt h8 (j := 6) rfl
        have b0 := rowAt h9 (j := 0) rfl
        have b1 := rowAt h9 (j := 1) rfl
        have e0 := rowAt h10 (j := 0) rfl
        have e1 := rowAt h10 (j := 1) rfl
        have e2 := rowAt h10 (j := 2) rfl
        have e3 := rowAt h10 (j := 3) rfl
        have e4 := rowAt h10 (j := 4) rfl
        have e5 := rowAt h10 (j := 5) rfl
        have e6 := rowAt h10 (j := 6) rfl
        have hgd := guardRw
        have HQ := Lib.hid (fun W : World => neqRw r r.wr.rw W)
        have CM := Lib.hid (fun W : World => mayV r.name r.text r.id W)
        go_upto_region 8 with fail
        by_cases hb : r = r.wr.rw
        · have hq : ∀ W, (binOp .neq 56 (.agg #[.int .i64 r.kind, .string r.name, .string r.text, .int .i64 r.n, .string r.id, .string r.at_, .bool r.gone]) (.agg #[.int .i64 3, .string r.name, .string r.text, .int .i64 0, .string r.id, .string ⟨#[]⟩, .bool false])).run Tryz.prog W = .ok (.bool false) W := fun W => by have := HQ.out W; rw [decide_eq_true hb] at this; exact this
          have Hb := Lib.hid hb
          clear hb
          cases hM1 : mayW r.wr with
          | false =>
            have CM : Hid (∀ W, Calls Tryz.prog 68 #[.string r.name, .agg #[.string r.text, .string r.id]] W fun e w' => e = .returned (.bool false) ∧ Fr [] W w') := Lib.hid (fun W => by have := CM.out W; rwa [show (⟨r.name, r.text, r.id⟩ : Wr) = r.wr from rfl, hM1] at this)
            have HN := Lib.hid (show ¬ (rowOk r ∧ risesB R k r = true) from fun h => by have := h.1.2; rw [hM1] at this; cases this)
            clear hM1
            go_wp2_with (go_at_call 68; refine (CM.out _).mono ?_; rintro e w2 ⟨rfl, f2⟩)
            exact bodyPost_ret (v := .tuple #[.pointer none, .int .i64 5]) (by simp [results, Tryz.results29, go_sem]) rfl ⟨loadPost_no Hx.out HN.out rfl, hf.then (FA.then f2)⟩
          | true =>
            have CM : Hid (∀ W, Calls Tryz.prog 68 #[.string r.name, .agg #[.string r.text, .string r.id]] W fun e w' => e = .returned (.bool true) ∧ Fr [] W w') := Lib.hid (fun W => by have := CM.out W; rwa [show (⟨r.name, r.text, r.id⟩ : Wr) = r.wr from rfl, hM1] at this)
            have HM1 := Lib.hid hM1
            clear hM1
            cases D with
            | false =>
              have HN := Lib.hid (show ¬ (rowOk r ∧ risesB R k r = true) from fun h => by have := h.2; rw [← HD.out] at this; cases this)
              go_wp2_with (go_at_call 68; refine (CM.out _).mono ?_; rintro e w2 ⟨rfl, f2⟩)
              exact bodyPost_ret (v := .tuple #[.pointer none, .int .i64 5]) (by simp [results, Tryz.results29, go_sem]) rfl ⟨loadPost_no Hx.out HN.out rfl, hf.then (FA.then f2)⟩
            | true =>
              have HOK : Hid (LoadOk (R.take (k + 1))) := Lib.hid ((loadOk_snoc Hx.out).2 ⟨Hok.out, ⟨Hb.out, HM1.out⟩, HD.out.symm⟩)
              go_upto_region 10 with (go_at_call 68; refine (CM.out _).mono ?_; rintro e w2 ⟨rfl, f2⟩)
              clear a0 a1 a2 a3 a4 a5 a6 b0 b1 e0 e1 e2 e3 e4 e5 e6 hgd hq CM
              have FB := FA.then f2
              have h8 := f2.row h8
              have h9 := f2.row h9
              have hpw : Hid (∀ y ∈ (R.take k).map Rw.wr, WLt y r.wr) := Lib.hid (by
                have := HOK.out.2
                rw [take_snoc Hx.out, List.pairwise_append] at this
                intro y hy
                obtain ⟨z, hz, rfl⟩ := List.mem_map.1 hy
                exact this.2.2 z hz r (by simp))
              obtain ⟨L, hLx⟩ : ∃ L, L = (R.take k).map Rw.wr := ⟨_, rfl⟩
              have hLl : L.length ≤ 100000 := by rw [hLx, List.length_map]; have := List.length_take_le k R; omega
              have HLx := Lib.hid hLx
              rw [← hLx] at hpw
              have hN : LdN w.heap.size wr vb bm (.pointer p) L r.name := by rw [hLx]; exact Hld.out.at_ (by rw [← hLx]; omega) (x := r.wr) (by rw [← hLx]; exact hpw.out)
              clear hLx Hld Hok
              obtain ⟨hblk, l, wB, hMp, hl2, hl3, hfB, hvB, hbB, hB0, h7, hown⟩ := hN
              have Hl2 := Lib.hid hl2
              have Hl3 := Lib.hid hl3
              have H7 := Lib.hid h7
              have hrl : (regW L r.name).length ≤ 100000 := Nat.le_trans (List.length_filter_le _ _) hLl
              have HRL := Lib.hid hrl
              clear hl2 hl3 h7 hLl hrl
              obtain ⟨u0, hu0⟩ : ∃ u, u = (lk l r.name).getD (.slice none 0 0) := ⟨_, rfl⟩
              rw [← hu0] at hown
              have Hu0 := Lib.hid hu0
              clear hu0
              have hT : ∀ g, u0.ownBlock = some g → wB.heap.size ≤ g ∧ g < M := fun g hg => by have := own_in hown g hg; have := HM.out; omega
              have HT := Lib.hid hT
              have hown2 := own_fr hown FB
              have hM2 := hMp.fr FB (by simp)
              have hblk2 := FB.row hblk
              have hfB2 := hfB.then FB
              have nvb : u0.ownBlock ≠ some vb := fun e => by have := HT.out vb e; omega
              have nbm : u0.ownBlock ≠ some bm := fun e => by have := HT.out bm e; omega
              have nM : u0.ownBlock ≠ some M := fun e => by have := HT.out M e; omega
              have nM1 : u0.ownBlock ≠ some (M + 1) := fun e => by have := HT.out (M + 1) e; omega
              obtain ⟨ua, uc, rfl⟩ := own_form hown
              have hbs : wB.heap.size ≤ w2.heap.size := hfB2.size
              have c1 := rowAt hblk2 (j := 1) rfl
              have c2 := rowAt h8 (j := 1) rfl
              have c3 := rowAt h9 (j := 0) rfl
              have c4 := rowAt h9 (j := 1) rfl
              have hlk := lookW hM2 r.name
              rw [← Hu0.out] at hlk
              have hx12 : r.name.size ≤ 12 := mayW_name HM1.out
              have Hx12 := Lib.hid hx12
              clear hx12 hown hMp hblk hfB h8 h9
              have lvb := rowLt hblk2
              have lM : M < w2.heap.size := World.block_lt_of_cell? w2 _ c2
              have lM1 : M + 1 < w2.heap.size := World.block_lt_of_cell? w2 _ c3
              have Hlook : Hid (∀ w', Mp w' bm l → (Instr.lookup 126 (.map (some bm)) (.string r.name) false).run Tryz.prog w' = .ok (.slice ua (regW L r.name).length uc) w') := Lib.hid (fun w' h => by rw [Hu0.out]; exact lookW h r.name)
              go_region_held3 (fun w' => w'.cell? ⟨vb, 1, none⟩ = some (.map (some bm)) ∧ w'.cell? ⟨M, 1, none⟩ = some (.string r.name) ∧ w'.cell? ⟨M + 1, 0, none⟩ = some (.string r.text) ∧ w'.cell? ⟨M + 1, 1, none⟩ = some (.string r.id))
                (first
                  | go_keep
                  | (go_split_ands
                     refine ⟨?_, ?_, ?_, ?_⟩
                     · exact f4.cell (by assumption)
                     · exact f4.cell (by assumption)
                     · exact f4.cell (by assumption)
                     · exact f4.cell (by assumption))
                  | (go_split_ands
                     refine ⟨?_, ?_, ?_, ?_⟩
                     · (rw [hgrow.cell_far _ (by simp; omega) (Ne.symm nvb)]; assumption)
                     · (rw [hgrow.cell_far _ (by simp; omega) (Ne.symm nM)]; assumption)
                     · (rw [hgrow.cell_far _ (by simp; omega) (Ne.symm nM1)]; assumption)
                     · (rw [hgrow.cell_far _ (by simp; omega) (Ne.symm nM1)]; assumption)))
                (first
                  | (refine step_appR lenWt oneWt rfl (.tmp 84) (.tmp 86) 134 rfl 132 _ 32 Tryz.underlying134 infoWt rfl (by decide) (by decide) wB.heap.size (.slice ua (regW L r.name).length uc) (regW L r.name) rfl (own_fr hown2 (((Fr.refl _).alloc _).drew)) _ [r.wr] rfl (Recs.fr (wt_new _ r.wr) ((Fr.refl _).drew)) (by have := HRL.out; simp only [List.length_singleton]; omega) (by simp; omega) ?_; intro v1 w3 hown1 hgrow hat1; have hM3 := mp_grown (hM2.fr (((Fr.refl _).alloc _).drew) (by simp)) hgrow nbm)
                  | (rw [Hlook.out _ (hM2.fr (Fr.refl _).drew (by simp))]; simp only [Result.andThen_ok, Oper.upon])
                  | (rw [Hlook.out _ (hM2.fr (((Fr.refl _).alloc _).drew) (by simp))]; simp only [Result.andThen_ok, Oper.upon])
                  | (obtain ⟨w4, hput, hM4, f4⟩ := hM3.put Tryz.underlying126 Tryz.underlying9 r.name v1; rw [hput]; simp only [Result.andThen_ok, Oper.upon]))
              all_goals
                have hvm : vb ∉ [bm] := by
                  intro h
                  obtain ⟨es, c, hh, _⟩ := hM2
                  rw [List.mem_singleton] at h
                  rw [h, hh] at hblk2
                  cases hblk2
                have hbW : wB.heap[vb]? = some (.cells #[.pointer p, .map (some bm)] 128 (0, 0)) := (hfB2.block vb hvB hvm).symm.trans hblk2
                have hf3 : Fr [bm] wB w3 := ((hfB2.alloc _).drew).grown hgrow (own_base0 hown2)
                have Hnew : Hid (LdAt w.heap.size w4 vb bm (.pointer p) (L ++ [r.wr])) := Lib.hid (LdN.step (x := r.wr) hB0 Hl2.out Hl3.out hvB hbB H7.out Hx12.out hpw.out hf3 f4 hbW hM4 hown1)
                have Hrt : Hid ((R.take (k + 1)).map Rw.wr = L ++ [r.wr]) := Lib.hid (by rw [take_snoc Hx.out, List.map_append, HLx.out]; rfl)
                have hfin : Fr [] w w4 := (((((hf.then FB).alloc _).drew).grown hgrow (fun j hj => Nat.le_trans hB0 (own_base0 hown2 j hj))).drop f4 (fun z hz => by rw [List.mem_singleton.1 hz]; exact Hbm.out))
                have Hfin := Lib.hid hfin
                clear hvm hbW hf3 hfin hM2 hM3 hM4 hown1 hown2 hgrow hfB2 FB hblk2 c1 c2 c3 c4 hlk hat1 f4
                go_wp2
                go_roundw
                case rel => exact ⟨k + 1, by omega, by go_num, HOK, by rw [Hrt.out]; exact Hnew, Hfin.out⟩
                case measure => simp [intOf]; omega
        · have HN := Lib.hid (show ¬ (rowOk r ∧ risesB R k r = true) from fun h => hb h.1.1)
          have hq : ∀ W, (binOp .neq 56 (.agg #[.int .i64 r.kind, .string r.name, .string r.text, .int .i64 r.n, .string r.id, .string r.at_, .bool r.gone]) (.agg #[.int .i64 3, .string r.name, .string r.text, .int .i64 0, .string r.id, .string ⟨#[]⟩, .bool false])).run Tryz.prog W = .ok (.bool true) W := fun W => by have := HQ.out W; rw [decide_eq_false hb] at this; exact this
          clear hb
          go_wp2
          exact bodyPost_ret (v := .tuple #[.pointer none, .int .i64 5]) (by simp [results, Tryz.results29, go_sem]) rfl ⟨loadPost_no Hx.out HN.out rfl, hf.then FA⟩
    · have HR : Hid (LoadOk R) := Lib.hid (by have := Hok.out; rwa [List.take_of_length_le (by have := Hn.out; omega)] at this)
      have HV : Hid (ValsAt wr vb bm (.pointer p) (R.map Rw.wr) R.length) := Lib.hid (by
        have h1 := Hld.out
        rw [List.take_of_length_le (by have := Hn.out; omega)] at h1
        have := h1.vals (by rw [List.length_map]; have := Hn.out; omega) (loadOk_sorted HR.out)
        rwa [List.length_map] at this)
      go_wp2
      exact bodyPost_ret (v := .tuple #[.pointer (some ⟨vb, 0, none⟩), .int .i64 0]) (by simp [results, Tryz.results29, go_sem]) rfl ⟨.inl ⟨HR.out, vb, bm, rfl, hvb, Hbm.out, HV.out⟩, hf⟩
end Go.Proofs.YtppgjglfoibfcaaGreat
