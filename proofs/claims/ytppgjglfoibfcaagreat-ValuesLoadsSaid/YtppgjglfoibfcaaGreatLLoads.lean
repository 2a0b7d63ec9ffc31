import Derived.Test.YtppgjglfoibfcaaGreatLDoes
import Derived.Test.YtppgjglfoibfcaaGreatTopsD
import Derived.Test.YtppgjglfoibfcaaGreatLoad21
set_option linter.unusedSimpArgs false
set_option linter.unusedVariables false
/-
  Chapter 21: ValuesLoads.
-/
namespace Go.Proofs.YtppgjglfoibfcaaGreat
open Go.RowKit

section
variable {vb bm : Nat} {p : Option Addr} {w : World} {L : List Wr} {K : Nat}
theorem rowsA3 (h : ValsA w vb bm p L K) (hL : L.length ≤ 1000) (hK : K ≤ 1000) : Calls Tryz.prog 25 #[.pointer (some ⟨vb, 0, none⟩)] w fun e w' => ∃ u, e = .returned u ∧ RowsR w' u (L.map Wr.rw) ∧ Fr [] w w' :=
  (rowsV vb bm _ L K w h.out (by omega) (by omega)).mono fun _ _ ⟨u, h1, h2, h3⟩ => ⟨u, h1, Recs.of_own h2 rfl (by simp; omega), h3⟩
theorem writeA3 {g : G} (x : Dd) (h : ValsA w vb bm p L K) (hd : DagA [bm] w (.pointer p) g) (hw : Wf g) (hgl : g.length ≤ 30) (hL : L.length ≤ 1000) (hr : x.name.size ≤ 60) :
    Calls Tryz.prog 20 #[.pointer (some ⟨vb, 0, none⟩), .string x.name, .string x.text, .string x.id] w fun e w' => e = .returned (.int .i64 (writeE L x.wr)) ∧ ValsA w' vb bm p (writeL g L x.wr) (K + 1) ∧ Fr [bm] w w' :=
  (writeV vb bm p _ g L K x.wr w rfl h.out hd.out.r hw (by omega) (by omega) (by show x.name.size ≤ _; omega)).mono fun _ _ ⟨h1, h2, h3⟩ => ⟨h1, ⟨h2⟩, h3⟩
theorem write21A3 {g : G} {gv rv : Value} (x : Dd) (hg : Nodes w gv g) (hr : RowsR w rv (L.map Wr.rw)) (hn : x.name.size ≤ 60) (hw : Wf g) (hgl : g.length ≤ 30) (hl : L.length ≤ 1000) (hL : WSorted L) :
    Calls Tryz.prog 19 #[.agg #[gv, rv], .string x.name, .string x.text, .string x.id] w fun e w' => ∃ u, e = .returned (.tuple #[.agg #[gv, u], .int .i64 (writeE L x.wr)]) ∧ RowsR w' u ((writeL g L x.wr).map Wr.rw) ∧ Fr [] w w' :=
  write21 gv rv g L x.wr w hg hr (by show x.name.size ≤ _; omega) hw (by omega) (by omega) hL
theorem loadT {rv : Value} {R : List Rw} (hr : RowsR w rv R) (hl : R.length ≤ 40) (h : LoadOk R) : Calls Tryz.prog 29 #[.pointer p, rv] w fun e w' => ∃ vb bm, e = .returned (.tuple #[.pointer (some ⟨vb, 0, none⟩), .int .i64 0]) ∧ w.heap.size ≤ bm ∧ ValsA w' vb bm p (R.map Rw.wr) R.length ∧ Fr [] w w' := by
  refine (loadV p _ rv R w rfl hr (by omega)).mono fun e w' ⟨hp, f⟩ => ?_
  rcases hp with ⟨-, vb, bm, h1, -, h2, h3⟩ | ⟨hn, -⟩
  · exact ⟨vb, bm, h1, h2, ⟨h3⟩, f⟩
  · exact absurd h hn
theorem loadF {rv : Value} {R : List Rw} (hr : RowsR w rv R) (hl : R.length ≤ 40) (h : ¬ LoadOk R) : Calls Tryz.prog 29 #[.pointer p, rv] w fun e w' => e = .returned (.tuple #[.pointer none, .int .i64 5]) ∧ Fr [] w w' := by
  refine (loadV p _ rv R w rfl hr (by omega)).mono fun e w' ⟨hp, f⟩ => ?_
  rcases hp with ⟨hn, -⟩ | ⟨-, h1⟩
  · exact absurd hn h
  · exact ⟨h1, f⟩
/-- A row that the law looks at. -/
def OkR (x : Rw) : Prop := OkDd ⟨false, x.name, x.text, x.id⟩ ∧ x.at_.size ≤ 100
instance okRDec (x : Rw) : Decidable (OkR x) := inferInstanceAs (Decidable (_ ∧ _))
theorem load21T {ga : Option Addr} {gn gc : Nat} {rv : Value} {R : List Rw} (hr : RowsR w rv R) (hl : R.length ≤ 40) (hk : ∀ r ∈ R, OkR r) (h : LoadOk R) : Calls Tryz.prog 30 #[.agg #[.slice ga gn gc], rv] w fun e w' => e = .returned (.tuple #[.agg #[.slice ga gn gc, rv], .int .i64 0]) ∧ Fr [] w w' := by
  refine (load21 ga gn gc rv R w hr (by omega) (fun r hr => by have := (hk r hr).1.1; simp at this; omega)).mono fun e w' ⟨hp, f⟩ => ?_
  rcases hp with ⟨-, h1⟩ | ⟨hn, -⟩
  · exact ⟨h1, f⟩
  · exact absurd h hn
theorem load21F {ga : Option Addr} {gn gc : Nat} {rv : Value} {R : List Rw} (hr : RowsR w rv R) (hl : R.length ≤ 40) (hk : ∀ r ∈ R, OkR r) (h : ¬ LoadOk R) : Calls Tryz.prog 30 #[.agg #[.slice ga gn gc], rv] w fun e w' => e = .returned (.tuple #[.agg #[.slice none 0 0, .slice none 0 0], .int .i64 5]) ∧ Fr [] w w' := by
  refine (load21 ga gn gc rv R w hr (by omega) (fun r hr => by have := (hk r hr).1.1; simp at this; omega)).mono fun e w' ⟨hp, f⟩ => ?_
  rcases hp with ⟨hn, -⟩ | ⟨-, h1⟩
  · exact absurd hn h
  · exact ⟨h1, f⟩
theorem fewOne (d : Dd) : FewD [d] ↔ OkDd d := by
  constructor
  · intro h; exact h.2 d (by simp)
  · intro h; exact ⟨by simp, fun x hx => by rw [List.mem_singleton.1 hx]; exact h⟩
theorem fewOT {v : Value} {d : Dd} (hs : Deeds w v [d]) (h : OkDd d) : Calls Tryz.prog 15 #[v] w fun e w' => e = .returned (.bool true) ∧ w = w' := fewDT hs ((fewOne d).2 h)
theorem fewOF {v : Value} {d : Dd} (hs : Deeds w v [d]) (h : ¬ OkDd d) : Calls Tryz.prog 15 #[v] w fun e w' => e = .returned (.bool false) ∧ w = w' := fewDF hs (fun k => h ((fewOne d).1 k))
end

set_option maxRecDepth 100000 in
set_option maxHeartbeats 8000000 in
theorem valuesLoads4 (v rv lv : Value) (L : List Nd) (R : List Rw) (l : List Dd) (w : World) (hs : Nodes w v L) (hr : RowsR w rv R) (hl : Deeds w lv l) :
    Calls Tryz.prog 4 #[v, rv, lv] w fun e w' => e = .returned (.bool true) ∧ Fr [] w w' := by
  obtain ⟨a, c, rfl, hc, hm, hn⟩ := hs.form
  obtain ⟨la, lc, rfl, hlc, hlm, hln⟩ := hl.form
  obtain ⟨m, hmx⟩ : ∃ n, n = R.length := ⟨_, rfl⟩
  obtain ⟨ra, rc, rfl⟩ := hr.formN m hmx.symm
  have Hm := Lib.hid hmx
  clear hmx
  by_cases hF : Few L
  case neg =>
    have HF := Lib.hid hF; clear hF
    go_enter Tryz.func4, Tryz.ntmps4
    go_wp2_with (first
      | (go_at_call 14; refine (fewLF hs HF.out).mono ?_; rintro e w0 ⟨rfl, rfl⟩)
      | (go_at_call 16; refine (awakeV _).mono ?_; rintro e w1 ⟨rfl, f1⟩))
    go_ret
    exact ⟨rfl, f1⟩
  have HF := Lib.hid hF; clear hF
  by_cases hm40 : (40 : Int) < (m : Int)
  case pos =>
    go_enter Tryz.func4, Tryz.ntmps4
    go_wp2_with (first
      | (go_at_call 14; refine (fewLT hs HF.out).mono ?_; rintro e w0 ⟨rfl, rfl⟩)
      | (go_at_call 16; refine (awakeV _).mono ?_; rintro e w1 ⟨rfl, f1⟩))
    go_ret
    exact ⟨rfl, f1⟩
  have hmm : m ≤ 40 := by omega
  by_cases hD : FewD l
  case neg =>
    have HD := Lib.hid hD; clear hD
    go_enter Tryz.func4, Tryz.ntmps4
    go_wp2_with (first
      | (go_at_call 14; refine (fewLT hs HF.out).mono ?_; rintro e w0 ⟨rfl, rfl⟩)
      | (go_at_call 15; refine (fewDF hl HD.out).mono ?_; rintro e w0 ⟨rfl, rfl⟩)
      | (go_at_call 16; refine (awakeV _).mono ?_; rintro e w1 ⟨rfl, f1⟩))
    go_ret
    exact ⟨rfl, f1⟩
  have HD := Lib.hid hD; clear hD
  obtain ⟨n, hnx⟩ : ∃ n, n = l.length := ⟨_, rfl⟩
  have hn40 : n ≤ 40 := by rw [hnx]; exact HD.out.1
  rw [← hnx] at hl hlc hln ⊢
  have Hn := Lib.hid hnx; clear hnx
  go_enter Tryz.func4, Tryz.ntmps4
  go_wp2_with (first
    | (go_at_call 14; refine (fewLT hs HF.out).mono ?_; rintro e w0 ⟨rfl, rfl⟩)
    | (go_at_call 15; refine (fewDT hl HD.out).mono ?_; rintro e w0 ⟨rfl, rfl⟩))
  go_loopw [7] (fun i wr => ∃ k : Nat, k ≤ m ∧ i = .int .i64 k ∧ Hid (∀ x ∈ R.take k, OkR x) ∧ Fr [] w wr) (fun i _ => m - (intOf i).toNat)
  case atStart => exact ⟨0, Nat.zero_le _, rfl, Lib.hid (by simp), .refl _⟩
  obtain ⟨k, hk, rfl, Hok, hf⟩ := hrel
  by_cases hlt : k < m
  case pos =>
    obtain ⟨x, hx⟩ : ∃ x, R[k]? = some x := ⟨_, List.getElem?_eq_getElem (Hm.out ▸ hlt)⟩
    have Hx := Lib.hid hx
    obtain ⟨b, o, hidx, hcell⟩ := (hr.fr hf).at_ lenRw Hm.out 35 56 Tryz.underlying35 Tryz.sizeOf56 k x hx
    obtain ⟨-, d1, d2, -, d4, d5, -⟩ := cellsRw hcell
    clear hx hcell
    go_upto_region 6 with fail
    go_cut [63] (fun s wx => s = .bool (!decide (OkR x)) ∧ Fr [] wr wx)
    case first =>
      by_cases h1 : OkDd ⟨false, x.name, x.text, x.id⟩
      · have HD1 := Lib.hid h1
        obtain ⟨B, hB⟩ : ∃ B, B = decide (x.at_.size ≤ 100) := ⟨_, rfl⟩
        have z5 : decide ((100 : Int) < (x.at_.size : Int)) = !B := by rw [hB, Bool.eq_iff_iff]; simp; omega
        have HV : Hid ((!decide (OkR x)) = !B) := Lib.hid (by rw [hB]; congr 1; rw [Bool.eq_iff_iff]; simp [OkR, h1])
        clear hB h1
        refine wp_region_ordX Fr.pre [] (.op 0 2 (.op 1 2 (.op 2 2 (.op 3 2 (.op 4 0 (.op 5 2 (.op 6 2 (.op 7 2 (.op 8 2 (.op 9 0 (.op 10 2 (.op 11 2 (.op 12 2 (.op 13 2 (.op 14 0 (.op 15 0 (.op 16 1 (.op 17 1 (.op 18 2 (.op 19 2 (.op 20 2 (.op 21 2 (.op 22 2 (.op 23 2 (.op 24 0 (.op 25 0 (.op 26 2 (.op 27 2 .fin)))))))))))))))))))))))))))) _ (by kernel_rfl) (by kernel_rfl) (by simp only [pickX, List.getElem?_cons_succ, List.getElem?_cons_zero]; rfl) ?_
        have F := (Fr.refl wr).drew
        have d5 := F.cell d5
        have x_1 := Ext.cell (F.cell d1)
        have x_2 := Ext.cell (F.cell d2)
        have x_4 := Ext.cell (F.cell d4)
        repeat (first | (with_reducible refine wpX_q (fun K hK => ?_); go_simp; refine hK _ ?_; clear hK K) | (with_reducible refine wpX_p (fun K hK => ?_); go_simp; refine hK _ ?_; clear hK K) | (with_reducible refine wpX_p (fun K hK => ?_); go_simp; rw [if_neg (by simp [undef])]; refine hK _ ?_; clear hK K) | (with_reducible refine wpX_q (fun K hK => ?_); go_simp; rw [if_neg (by simp [undef])]; refine hK _ ?_; clear hK K))
        clear x_1 x_2 x_4
        refine wpX_e (fun K hK => ?_)
        go_simp
        intro w7 hw7
        have F := F.then hw7
        have hd1 := deed_new w7 ⟨false, x.name, x.text, x.id⟩
        have fd := (Fr.refl w7).alloc (.cells #[.bool false, .string x.name, .string x.text, .string x.id] 42)
        have d5 := fd.cell (hw7.cell d5)
        have F := F.then fd
        go_simp
        refine hK _ _ ?_
        clear hK K fd
        repeat (first | (with_reducible refine wpX_q (fun K hK => ?_); go_simp; refine hK _ ?_; clear hK K) | (with_reducible refine wpX_p (fun K hK => ?_); go_simp; refine hK _ ?_; clear hK K) | (with_reducible refine wpX_p (fun K hK => ?_); go_simp; rw [if_neg (by simp [undef])]; refine hK _ ?_; clear hK K) | (with_reducible refine wpX_q (fun K hK => ?_); go_simp; rw [if_neg (by simp [undef])]; refine hK _ ?_; clear hK K))
        (refine wpX_e (fun K hK => ?_); go_simp; intro wq hq; have F := F.then hq; (try clear x_d5); have hd1 := hd1.fr (hq); have d5 := (hq).cell d5; refine (fewOT hd1 HD1.out).mono ?_; rintro e wp ⟨rfl, rfl⟩; have hd1 := hd1.fr (Fr.refl _); have d5 := (Fr.refl _).cell d5; have F := F.then (Fr.refl _); refine ⟨_, rfl, (Fr.refl _), hK _ _ ?_⟩; clear hK K hq; have x_d5 := Ext.cell d5; )
        repeat (first | (with_reducible refine wpX_q (fun K hK => ?_); go_simp; refine hK _ ?_; clear hK K) | (with_reducible refine wpX_p (fun K hK => ?_); go_simp; refine hK _ ?_; clear hK K) | (with_reducible refine wpX_p (fun K hK => ?_); go_simp; rw [if_neg (by simp [undef])]; refine hK _ ?_; clear hK K) | (with_reducible refine wpX_q (fun K hK => ?_); go_simp; rw [if_neg (by simp [undef])]; refine hK _ ?_; clear hK K))
        refine wpX_nil (fun wz hwz => ?_)
        go_wp2_with fail
        go_meet
        exact ⟨by rw [HV.out], F.then hwz⟩
      · have HD1 := Lib.hid h1
        have HV : Hid ((!decide (OkR x)) = true) := Lib.hid (by rw [decide_eq_false (show ¬ OkR x from fun h => h1 h.1)]; rfl)
        clear h1
        refine wp_region_ordX Fr.pre [] (.op 0 2 (.op 1 2 (.op 2 2 (.op 3 2 (.op 4 0 (.op 5 2 (.op 6 2 (.op 7 2 (.op 8 2 (.op 9 0 (.op 10 2 (.op 11 2 (.op 12 2 (.op 13 2 (.op 14 0 (.op 15 0 (.op 16 1 (.op 17 1 (.op 18 2 (.op 19 2 (.op 20 2 (.op 21 2 (.op 22 2 (.op 23 2 (.op 24 0 (.op 25 0 (.op 26 2 (.op 27 2 .fin)))))))))))))))))))))))))))) _ (by kernel_rfl) (by kernel_rfl) (by simp only [pickX, List.getElem?_cons_succ, List.getElem?_cons_zero]; rfl) ?_
        have F := (Fr.refl wr).drew
        have x_1 := Ext.cell (F.cell d1)
        have x_2 := Ext.cell (F.cell d2)
        have x_4 := Ext.cell (F.cell d4)
        repeat (first | (with_reducible refine wpX_q (fun K hK => ?_); go_simp; refine hK _ ?_; clear hK K) | (with_reducible refine wpX_p (fun K hK => ?_); go_simp; refine hK _ ?_; clear hK K) | (with_reducible refine wpX_p (fun K hK => ?_); go_simp; rw [if_neg (by simp [undef])]; refine hK _ ?_; clear hK K) | (with_reducible refine wpX_q (fun K hK => ?_); go_simp; rw [if_neg (by simp [undef])]; refine hK _ ?_; clear hK K))
        clear x_1 x_2 x_4
        refine wpX_e (fun K hK => ?_)
        go_simp
        intro w7 hw7
        have F := F.then hw7
        have hd1 := deed_new w7 ⟨false, x.name, x.text, x.id⟩
        have fd := (Fr.refl w7).alloc (.cells #[.bool false, .string x.name, .string x.text, .string x.id] 42)
        have F := F.then fd
        go_simp
        refine hK _ _ ?_
        clear hK K fd
        repeat (first | (with_reducible refine wpX_q (fun K hK => ?_); go_simp; refine hK _ ?_; clear hK K) | (with_reducible refine wpX_p (fun K hK => ?_); go_simp; refine hK _ ?_; clear hK K) | (with_reducible refine wpX_p (fun K hK => ?_); go_simp; rw [if_neg (by simp [undef])]; refine hK _ ?_; clear hK K) | (with_reducible refine wpX_q (fun K hK => ?_); go_simp; rw [if_neg (by simp [undef])]; refine hK _ ?_; clear hK K))
        (refine wpX_e (fun K hK => ?_); go_simp; intro wq hq; have F := F.then hq; have hd1 := hd1.fr (hq); refine (fewOF hd1 HD1.out).mono ?_; rintro e wp ⟨rfl, rfl⟩; have hd1 := hd1.fr (Fr.refl _); have F := F.then (Fr.refl _); refine ⟨_, rfl, (Fr.refl _), hK _ _ ?_⟩; clear hK K hq; skip)
        repeat (first | (with_reducible refine wpX_q (fun K hK => ?_); go_simp; refine hK _ ?_; clear hK K) | (with_reducible refine wpX_p (fun K hK => ?_); go_simp; refine hK _ ?_; clear hK K) | (with_reducible refine wpX_p (fun K hK => ?_); go_simp; rw [if_neg (by simp [undef])]; refine hK _ ?_; clear hK K) | (with_reducible refine wpX_q (fun K hK => ?_); go_simp; rw [if_neg (by simp [undef])]; refine hK _ ?_; clear hK K))
        refine wpX_nil (fun wz hwz => ?_)
        go_wp2_with fail
        go_meet
        exact ⟨by rw [HV.out], F.then hwz⟩
    case rest =>
      obtain ⟨rfl, f1⟩ := hcut
      have F := hf.then f1
      clear hidx d1 d2 d4 d5 f1 hf
      by_cases hO : OkR x
      · rw [decide_eq_true hO]
        have HO : Hid (∀ y ∈ R.take (k + 1), OkR y) := Lib.hid (fun y hy => by
          rw [take_snoc Hx.out, List.mem_append, List.mem_singleton] at hy
          rcases hy with hy | rfl
          · exact Hok.out y hy
          · exact hO)
        clear hO
        go_wp2
        go_roundw
        case rel => exact ⟨k + 1, by omega, by go_num, HO, F⟩
        case measure => simp [intOf]; omega
      · rw [decide_eq_false hO]
        clear hO
        go_wp2_with (go_at_call 16; refine (awakeV _).mono ?_; rintro e w1 ⟨rfl, f1⟩)
        go_ret
        exact ⟨rfl, F.then f1⟩
  have HOK : Hid (∀ x ∈ R, OkR x) := Lib.hid (by have := Hok.out; rwa [List.take_of_length_le (by have := Hm.out; omega)] at this)
  have hmR : R.length ≤ 40 := by rw [← Hm.out]; exact hmm
  have HmR := Lib.hid hmR
  clear Hok hmR hm40 hk
  go_upto_region 9 with (go_at_call 17; refine (make14 _ _ _ (hs.fr hf) (Nat.le_trans HF.out.1 (by decide))).mono ?_; rintro e w1 ⟨dv, mN, mH, gv, rfl, hd, -, -, hg, f1⟩; obtain ⟨db, rfl⟩ := hd.ptr; obtain ⟨ga, gc, rfl, _⟩ := hg.form)
  have f2 := (Fr.refl w1).alloc (.cells #[.slice ga (makeG L).length gc] 30)
  have hRc := World.cell?_alloc_new (w := w1) #[.slice ga (makeG L).length gc] 30 0
  have hd := hd.fr f2 (by simp) (by simp)
  have hg := hg.fr f2
  have F := hf.then (f1.then f2)
  obtain ⟨R9, hRR⟩ : ∃ R, R = w1.heap.size := ⟨_, rfl⟩
  rw [← hRR] at hRc ⊢
  clear hRR
  generalize w1.alloc (.cells #[.slice ga (makeG L).length gc] 30) = wS at hd hg hRc F ⊢
  clear f1 f2 hs hc hm hn hf
  have hlG := Lib.hid (Nat.le_trans (len_makeG L) HF.out.1 : (makeG L).length ≤ 30)
  have hwf := wf_makeG L
  have hRc : wS.cell? ⟨R9, 0, none⟩ = some (.slice ga (makeG L).length gc) := hRc
  clear HF
  generalize makeG L = g at hd hg hRc hlG hwf ⊢
  have Hwf := Lib.hid hwf; clear hwf
  obtain ⟨p, hp⟩ : ∃ p : Option Addr, p = some ⟨db, 0, none⟩ := ⟨_, rfl⟩
  rw [← hp] at hd ⊢
  clear hp
  obtain ⟨gn, hgn⟩ : ∃ x, x = g.length := ⟨_, rfl⟩
  rw [← hgn] at hg hRc ⊢
  clear hgn
  have hr := hr.fr F
  by_cases hOK : LoadOk R
  case neg =>
    have HN := Lib.hid hOK
    clear hOK
    go_upto_region 10 with (go_at_call 29; refine (loadF hr HmR.out HN.out).mono ?_; rintro e wE ⟨rfl, f1⟩)
    have hRc := f1.cell hRc
    have hr := hr.fr f1
    have F := F.then f1
    clear f1
    go_upto_region 11 with (go_at_call 30; refine (load21F hr HmR.out HOK.out HN.out).mono ?_; rintro e w2 ⟨rfl, f1⟩)
    have f2 := (Fr.refl w2).alloc (.cells #[.slice none 0 0, .slice none 0 0] 37)
    have hR12 := rowNew w2 (.cells #[.slice none 0 0, .slice none 0 0] 37)
    have F := (F.then f1).then f2
    obtain ⟨R12, hRR⟩ : ∃ R, R = w2.heap.size := ⟨_, rfl⟩
    rw [← hRR] at hR12 ⊢
    clear hRR f1 f2 hRc hr hd hg
    generalize w2.alloc (.cells #[.slice none 0 0, .slice none 0 0] 37) = wB at hR12 F ⊢
    go_wp2
    go_loopw [14] (fun i wr => i = .int .i64 0 ∧ Fr [] wB wr) (fun _ _ => 0)
    case atStart => exact ⟨rfl, .refl _⟩
    obtain ⟨rfl, f1⟩ := hrel
    have F := F.then f1
    have hR12 := f1.row hR12
    clear f1
    have e1 := rowAt hR12 (j := 1) rfl
    have FF := F
    clear F
    have h0 : RowsR wr (.slice none 0 0) [] := Recs.nil _
    by_cases hz : 0 < n
    all_goals
      go_upto_region 19 with fail
      refine wp_region_ordX Fr.pre [] (.op 0 2 (.op 2 2 (.op 3 0 (.op 1 1 (.op 4 1 (.op 5 2 (.op 6 2 (.op 7 1 (.op 8 2 (.op 9 2 (.op 10 2 (.op 11 2 (.op 12 1 (.op 13 0 (.op 14 2 (.op 15 2 (.op 16 2 (.op 17 2 (.op 18 1 (.op 19 0 (.op 20 2 (.op 21 2 (.op 22 2 (.op 23 2 (.op 24 1 (.op 25 0 (.op 26 2 (.op 27 2 (.op 28 2 (.op 29 1 (.op 30 2 (.op 31 2 .fin)))))))))))))))))))))))))))))))) _ (by kernel_rfl) (by kernel_rfl) (by simp only [pickX, List.getElem?_cons_succ, List.getElem?_cons_zero]; rfl) ?_
      have F := (Fr.refl wr).drew
      have h0 := h0.fr F
      have e1 := F.cell e1
      have x_e1 := Ext.cell e1
      repeat (first | (with_reducible refine wpX_q (fun K hK => ?_); go_simp; refine hK _ ?_; clear hK K) | (with_reducible refine wpX_p (fun K hK => ?_); go_simp; refine hK _ ?_; clear hK K) | (with_reducible refine wpX_p (fun K hK => ?_); go_simp; rw [if_neg (by simp [undef])]; refine hK _ ?_; clear hK K) | (with_reducible refine wpX_q (fun K hK => ?_); go_simp; rw [if_neg (by simp [undef])]; refine hK _ ?_; clear hK K))
      (refine wpX_e (fun K hK => ?_); go_simp; intro wq hq; have F := F.then hq; (try clear x_e1); have h0 := h0.fr (hq); have e1 := (hq).cell e1; refine (rowsNil _).mono ?_; rintro e wp ⟨rfl, g1⟩; have h0 := h0.fr (g1); have e1 := (g1).cell e1; have F := F.then (g1); refine ⟨_, rfl, (g1), hK _ _ ?_⟩; clear hK K hq; have x_e1 := Ext.cell e1; )
      repeat (first | (with_reducible refine wpX_q (fun K hK => ?_); go_simp; refine hK _ ?_; clear hK K) | (with_reducible refine wpX_p (fun K hK => ?_); go_simp; refine hK _ ?_; clear hK K) | (with_reducible refine wpX_p (fun K hK => ?_); go_simp; rw [if_neg (by simp [undef])]; refine hK _ ?_; clear hK K) | (with_reducible refine wpX_q (fun K hK => ?_); go_simp; rw [if_neg (by simp [undef])]; refine hK _ ?_; clear hK K))
      (refine wpX_e (fun K hK => ?_); go_simp; intro wq hq; have F := F.then hq; have h0 := h0.fr (hq); refine (sameRows _ _ _ _ _ h0 h0 rfl).mono ?_; rintro e wp ⟨rfl, g1⟩; have h0 := h0.fr (g1); have F := F.then (g1); refine ⟨_, rfl, (g1), hK _ _ ?_⟩; clear hK K hq; skip)
      repeat (first | (with_reducible refine wpX_q (fun K hK => ?_); go_simp; refine hK _ ?_; clear hK K) | (with_reducible refine wpX_p (fun K hK => ?_); go_simp; refine hK _ ?_; clear hK K) | (with_reducible refine wpX_p (fun K hK => ?_); go_simp; rw [if_neg (by simp [undef])]; refine hK _ ?_; clear hK K) | (with_reducible refine wpX_q (fun K hK => ?_); go_simp; rw [if_neg (by simp [undef])]; refine hK _ ?_; clear hK K))
      (refine wpX_e (fun K hK => ?_); go_simp; intro wq hq; have F := F.then hq; refine (writeNil _ _ _ _).mono ?_; rintro e wp ⟨rfl, g1⟩; have F := F.then (g1); refine ⟨_, rfl, (g1), hK _ _ ?_⟩; clear hK K hq; skip)
      repeat (first | (with_reducible refine wpX_q (fun K hK => ?_); go_simp; refine hK _ ?_; clear hK K) | (with_reducible refine wpX_p (fun K hK => ?_); go_simp; refine hK _ ?_; clear hK K) | (with_reducible refine wpX_p (fun K hK => ?_); go_simp; rw [if_neg (by simp [undef])]; refine hK _ ?_; clear hK K) | (with_reducible refine wpX_q (fun K hK => ?_); go_simp; rw [if_neg (by simp [undef])]; refine hK _ ?_; clear hK K))
      (refine wpX_e (fun K hK => ?_); go_simp; intro wq hq; have F := F.then hq; refine (ofNil _ _).mono ?_; rintro e wp ⟨rfl, g1⟩; have F := F.then (g1); refine ⟨_, rfl, (g1), hK _ _ ?_⟩; clear hK K hq; skip)
      repeat (first | (with_reducible refine wpX_q (fun K hK => ?_); go_simp; refine hK _ ?_; clear hK K) | (with_reducible refine wpX_p (fun K hK => ?_); go_simp; refine hK _ ?_; clear hK K) | (with_reducible refine wpX_p (fun K hK => ?_); go_simp; rw [if_neg (by simp [undef])]; refine hK _ ?_; clear hK K) | (with_reducible refine wpX_q (fun K hK => ?_); go_simp; rw [if_neg (by simp [undef])]; refine hK _ ?_; clear hK K))
      (refine wpX_e (fun K hK => ?_); go_simp; intro wq hq; have F := F.then hq; refine (tellNil _).mono ?_; rintro e wp ⟨rfl, g1⟩; have F := F.then (g1); refine ⟨_, rfl, (g1), hK _ _ ?_⟩; clear hK K hq; skip)
      repeat (first | (with_reducible refine wpX_q (fun K hK => ?_); go_simp; refine hK _ ?_; clear hK K) | (with_reducible refine wpX_p (fun K hK => ?_); go_simp; refine hK _ ?_; clear hK K) | (with_reducible refine wpX_p (fun K hK => ?_); go_simp; rw [if_neg (by simp [undef])]; refine hK _ ?_; clear hK K) | (with_reducible refine wpX_q (fun K hK => ?_); go_simp; rw [if_neg (by simp [undef])]; refine hK _ ?_; clear hK K))
      (refine wpX_e (fun K hK => ?_); go_simp; intro wq hq; have F := F.then hq; refine (rowsNil _).mono ?_; rintro e wp ⟨rfl, g1⟩; have F := F.then (g1); refine ⟨_, rfl, (g1), hK _ _ ?_⟩; clear hK K hq; skip)
      repeat (first | (with_reducible refine wpX_q (fun K hK => ?_); go_simp; refine hK _ ?_; clear hK K) | (with_reducible refine wpX_p (fun K hK => ?_); go_simp; refine hK _ ?_; clear hK K) | (with_reducible refine wpX_p (fun K hK => ?_); go_simp; rw [if_neg (by simp [undef])]; refine hK _ ?_; clear hK K) | (with_reducible refine wpX_q (fun K hK => ?_); go_simp; rw [if_neg (by simp [undef])]; refine hK _ ?_; clear hK K))
      (refine wpX_e (fun K hK => ?_); go_simp; intro wq hq; have F := F.then hq; refine (awakeV _).mono ?_; rintro e wp ⟨rfl, g1⟩; have F := F.then (g1); refine ⟨_, rfl, (g1), hK _ _ ?_⟩; clear hK K hq; skip)
      repeat (first | (with_reducible refine wpX_q (fun K hK => ?_); go_simp; refine hK _ ?_; clear hK K) | (with_reducible refine wpX_p (fun K hK => ?_); go_simp; refine hK _ ?_; clear hK K) | (with_reducible refine wpX_p (fun K hK => ?_); go_simp; rw [if_neg (by simp [undef])]; refine hK _ ?_; clear hK K) | (with_reducible refine wpX_q (fun K hK => ?_); go_simp; rw [if_neg (by simp [undef])]; refine hK _ ?_; clear hK K))
      refine wpX_nil (fun wz hwz => ?_)
      have F := F.then hwz
      clear hwz
      go_wp2
      go_ret
      exact ⟨rfl, FF.then F⟩
  have HY := Lib.hid hOK
  clear hOK
  go_upto_region 10 with (go_at_call 29; refine (loadT hr HmR.out HY.out).mono ?_; rintro e wE ⟨vb, bm, rfl, hbm, hv, f1⟩)
  have hdn : DagA [bm] wE (.pointer p) g := by
    have x := isMp_lt (hd.maps mN (by simp))
    have y := isMp_lt (hd.maps mH (by simp))
    exact ⟨.inr ⟨mN, mH, hd.fr f1 List.not_mem_nil List.not_mem_nil, by simp; omega, by simp; omega⟩⟩
  have hg := hg.fr f1
  have hRc := f1.cell hRc
  have hr := hr.fr f1
  have Hb : Hid (∀ x, x ∈ [bm] → w.heap.size ≤ x) := Lib.hid (fun x hx => by simp at hx; subst hx; exact Nat.le_trans F.size hbm)
  have F := F.then f1
  have ls : ∀ x ∈ [bm], x ∈ [bm] := fun _ h => h
  clear hd f1 hbm
  go_upto_region 11 with (go_at_call 30; refine (load21T hr HmR.out HOK.out HY.out).mono ?_; rintro e w2 ⟨rfl, f1⟩)
  have f2 := (Fr.refl w2).alloc (.cells #[.slice ga gn gc, .slice ra m rc] 37)
  have hR12 := rowNew w2 (.cells #[.slice ga gn gc, .slice ra m rc] 37)
  have fb := f1.then f2
  have hdn := hdn.fr fb
  have hg := hg.fr fb
  have hr := hr.fr fb
  have hv := hv.fr fb
  obtain ⟨R12, hRR⟩ : ∃ R, R = w2.heap.size := ⟨_, rfl⟩
  have HR12 : Hid (w.heap.size ≤ R12) := Lib.hid (by have := (F.then f1).size; omega)
  have F := F.then fb
  rw [← hRR] at hR12 ⊢
  clear hRR f1 f2 hRc fb
  generalize w2.alloc (.cells #[.slice ga gn gc, .slice ra m rc] 37) = wB at hR12 hdn hg hr hv F ⊢
  have hr0 : RowsR wB (.slice ra m rc) ((R.map Rw.wr).map Wr.rw) := by rw [loadOk_rows HY.out]; exact hr
  have hL0 : (R.map Rw.wr).length = m := by rw [List.length_map]; exact Hm.out.symm
  have hv : ValsA wB vb bm p (R.map Rw.wr) m := by rw [Hm.out]; exact hv
  generalize R.map Rw.wr = LR at hr0 hL0 hv
  have HL0 := Lib.hid hL0
  clear hL0 hr HY HOK HmR Hm
  go_wp2
  go_loopw [14] (fun i wr => ∃ (k : Nat) (u : Value) (L0 : List Wr), k ≤ n ∧ i = .int .i64 k ∧ ValsA wr vb bm p L0 (m + k) ∧ DagA [bm] wr (.pointer p) g ∧ Nodes wr (.slice ga gn gc) g ∧ RowsR wr u (L0.map Wr.rw) ∧ wr.heap[R12]? = some (.cells #[.slice ga gn gc, u] 37 (0, 0)) ∧ Hid (L0.length ≤ m + k) ∧ Fr [] w wr) (fun i _ => n - (intOf i).toNat)
  case atStart => exact ⟨0, _, LR, Nat.zero_le _, rfl, hv, hdn, hg, hr0, hR12, Lib.hid (Nat.le_of_eq HL0.out), F⟩
  clear hv hdn hg hr0 hR12 F HL0
  obtain ⟨k, u, L0, hk, rfl, hv, hdn, hg, hu, hR12, HL, F⟩ := hrel
  by_cases hlt : k < n
  case neg =>
    obtain ⟨ua, uq, uc, rfl⟩ := hu.formX
    have e1 := rowAt hR12 (j := 1) rfl
    have HL1 : Hid (L0.length ≤ 1000) := Lib.hid (by have := HL.out; omega)
    have HK1 : Hid (m + k ≤ 1000) := Lib.hid (by omega)
    have FF := F
    clear F hdn hg hR12 HL
    go_upto_region 19 with fail
    refine wp_region_ordX Fr.pre [] (.op 0 2 (.op 2 2 (.op 3 0 (.op 1 1 (.op 4 1 (.op 5 2 (.op 6 2 (.op 7 1 (.op 8 2 (.op 9 2 (.op 10 2 (.op 11 2 (.op 12 1 (.op 13 0 (.op 14 2 (.op 15 2 (.op 16 2 (.op 17 2 (.op 18 1 (.op 19 0 (.op 20 2 (.op 21 2 (.op 22 2 (.op 23 2 (.op 24 1 (.op 25 0 (.op 26 2 (.op 27 2 (.op 28 2 (.op 29 1 (.op 30 2 (.op 31 2 .fin)))))))))))))))))))))))))))))))) _ (by kernel_rfl) (by kernel_rfl) (by simp only [pickX, List.getElem?_cons_succ, List.getElem?_cons_zero]; rfl) ?_
    have F := (Fr.refl wr).drew
    have hv := hv.fr F
    have hu := hu.fr F
    have e1 := F.cell e1
    have x_e1 := Ext.cell e1
    repeat (first | (with_reducible refine wpX_q (fun K hK => ?_); go_simp; refine hK _ ?_; clear hK K) | (with_reducible refine wpX_p (fun K hK => ?_); go_simp; refine hK _ ?_; clear hK K) | (with_reducible refine wpX_p (fun K hK => ?_); go_simp; rw [if_neg (by simp [undef])]; refine hK _ ?_; clear hK K) | (with_reducible refine wpX_q (fun K hK => ?_); go_simp; rw [if_neg (by simp [undef])]; refine hK _ ?_; clear hK K))
    (refine wpX_e (fun K hK => ?_); go_simp; intro wq hq; have F := F.then hq; (try clear x_e1); have hv := hv.fr (hq); have hu := hu.fr (hq); have e1 := (hq).cell e1; refine (rowsA3 hv HL1.out HK1.out).mono ?_; rintro e wp ⟨u1, rfl, h1, g1⟩; have hv := hv.fr (g1); have hu := hu.fr (g1); have e1 := (g1).cell e1; obtain ⟨a1, n1, k1, rfl⟩ := h1.formX; have F := F.then (g1); refine ⟨_, rfl, (g1), hK _ _ ?_⟩; clear hK K hq; have x_e1 := Ext.cell e1; )
    repeat (first | (with_reducible refine wpX_q (fun K hK => ?_); go_simp; refine hK _ ?_; clear hK K) | (with_reducible refine wpX_p (fun K hK => ?_); go_simp; refine hK _ ?_; clear hK K) | (with_reducible refine wpX_p (fun K hK => ?_); go_simp; rw [if_neg (by simp [undef])]; refine hK _ ?_; clear hK K) | (with_reducible refine wpX_q (fun K hK => ?_); go_simp; rw [if_neg (by simp [undef])]; refine hK _ ?_; clear hK K))
    (refine wpX_e (fun K hK => ?_); go_simp; intro wq hq; have F := F.then hq; have h1 := h1.fr (hq); have hu := hu.fr (hq); refine (sameRows _ _ _ _ _ h1 hu rfl).mono ?_; rintro e wp ⟨rfl, g1⟩; have h1 := h1.fr (g1); have hu := hu.fr (g1); have F := F.then (g1); refine ⟨_, rfl, (g1), hK _ _ ?_⟩; clear hK K hq; skip)
    repeat (first | (with_reducible refine wpX_q (fun K hK => ?_); go_simp; refine hK _ ?_; clear hK K) | (with_reducible refine wpX_p (fun K hK => ?_); go_simp; refine hK _ ?_; clear hK K) | (with_reducible refine wpX_p (fun K hK => ?_); go_simp; rw [if_neg (by simp [undef])]; refine hK _ ?_; clear hK K) | (with_reducible refine wpX_q (fun K hK => ?_); go_simp; rw [if_neg (by simp [undef])]; refine hK _ ?_; clear hK K))
    (refine wpX_e (fun K hK => ?_); go_simp; intro wq hq; have F := F.then hq; refine (writeNil _ _ _ _).mono ?_; rintro e wp ⟨rfl, g1⟩; have F := F.then (g1); refine ⟨_, rfl, (g1), hK _ _ ?_⟩; clear hK K hq; skip)
    repeat (first | (with_reducible refine wpX_q (fun K hK => ?_); go_simp; refine hK _ ?_; clear hK K) | (with_reducible refine wpX_p (fun K hK => ?_); go_simp; refine hK _ ?_; clear hK K) | (with_reducible refine wpX_p (fun K hK => ?_); go_simp; rw [if_neg (by simp [undef])]; refine hK _ ?_; clear hK K) | (with_reducible refine wpX_q (fun K hK => ?_); go_simp; rw [if_neg (by simp [undef])]; refine hK _ ?_; clear hK K))
    (refine wpX_e (fun K hK => ?_); go_simp; intro wq hq; have F := F.then hq; refine (ofNil _ _).mono ?_; rintro e wp ⟨rfl, g1⟩; have F := F.then (g1); refine ⟨_, rfl, (g1), hK _ _ ?_⟩; clear hK K hq; skip)
    repeat (first | (with_reducible refine wpX_q (fun K hK => ?_); go_simp; refine hK _ ?_; clear hK K) | (with_reducible refine wpX_p (fun K hK => ?_); go_simp; refine hK _ ?_; clear hK K) | (with_reducible refine wpX_p (fun K hK => ?_); go_simp; rw [if_neg (by simp [undef])]; refine hK _ ?_; clear hK K) | (with_reducible refine wpX_q (fun K hK => ?_); go_simp; rw [if_neg (by simp [undef])]; refine hK _ ?_; clear hK K))
    (refine wpX_e (fun K hK => ?_); go_simp; intro wq hq; have F := F.then hq; refine (tellNil _).mono ?_; rintro e wp ⟨rfl, g1⟩; have F := F.then (g1); refine ⟨_, rfl, (g1), hK _ _ ?_⟩; clear hK K hq; skip)
    repeat (first | (with_reducible refine wpX_q (fun K hK => ?_); go_simp; refine hK _ ?_; clear hK K) | (with_reducible refine wpX_p (fun K hK => ?_); go_simp; refine hK _ ?_; clear hK K) | (with_reducible refine wpX_p (fun K hK => ?_); go_simp; rw [if_neg (by simp [undef])]; refine hK _ ?_; clear hK K) | (with_reducible refine wpX_q (fun K hK => ?_); go_simp; rw [if_neg (by simp [undef])]; refine hK _ ?_; clear hK K))
    (refine wpX_e (fun K hK => ?_); go_simp; intro wq hq; have F := F.then hq; refine (rowsNil _).mono ?_; rintro e wp ⟨rfl, g1⟩; have F := F.then (g1); refine ⟨_, rfl, (g1), hK _ _ ?_⟩; clear hK K hq; skip)
    repeat (first | (with_reducible refine wpX_q (fun K hK => ?_); go_simp; refine hK _ ?_; clear hK K) | (with_reducible refine wpX_p (fun K hK => ?_); go_simp; refine hK _ ?_; clear hK K) | (with_reducible refine wpX_p (fun K hK => ?_); go_simp; rw [if_neg (by simp [undef])]; refine hK _ ?_; clear hK K) | (with_reducible refine wpX_q (fun K hK => ?_); go_simp; rw [if_neg (by simp [undef])]; refine hK _ ?_; clear hK K))
    (refine wpX_e (fun K hK => ?_); go_simp; intro wq hq; have F := F.then hq; refine (awakeV _).mono ?_; rintro e wp ⟨rfl, g1⟩; have F := F.then (g1); refine ⟨_, rfl, (g1), hK _ _ ?_⟩; clear hK K hq; skip)
    repeat (first | (with_reducible refine wpX_q (fun K hK => ?_); go_simp; refine hK _ ?_; clear hK K) | (with_reducible refine wpX_p (fun K hK => ?_); go_simp; refine hK _ ?_; clear hK K) | (with_reducible refine wpX_p (fun K hK => ?_); go_simp; rw [if_neg (by simp [undef])]; refine hK _ ?_; clear hK K) | (with_reducible refine wpX_q (fun K hK => ?_); go_simp; rw [if_neg (by simp [undef])]; refine hK _ ?_; clear hK K))
    refine wpX_nil (fun wz hwz => ?_)
    have F := F.then hwz
    clear hwz
    go_wp2
    go_ret
    exact ⟨rfl, FF.then F⟩
  case pos =>
    obtain ⟨x, hx⟩ : ∃ x, l[k]? = some x := ⟨_, List.getElem?_eq_getElem (Hn.out ▸ hlt)⟩
    obtain ⟨b, o, hidx, hcell⟩ := (hl.fr F).at_ lenDd Hn.out 23 42 Tryz.underlying23 Tryz.sizeOf42 k x hx
    have c1 : wr.cell? ⟨b, o + 1, none⟩ = some (.string x.name) := hcell 1 _ rfl
    have c2 : wr.cell? ⟨b, o + 2, none⟩ = some (.string x.text) := hcell 2 _ rfl
    have c3 : wr.cell? ⟨b, o + 3, none⟩ = some (.string x.id) := hcell 3 _ rfl
    have HN : Hid (x.name.size ≤ 60) := Lib.hid (HD.out.2 x (List.mem_of_getElem? hx)).1
    have HL1 : Hid (L0.length ≤ 1000) := Lib.hid (by have := HL.out; omega)
    have HL2 : Hid ((writeL g L0 x.wr).length ≤ m + (k + 1)) := Lib.hid (by have := len_writeL g L0 x.wr; have := HL.out; omega)
    have Hsrt := Lib.hid hv.out.srt
    obtain ⟨ua, uq, uc, rfl⟩ := hu.formX
    clear hcell hx
    go_upto_region 16 with fail
    refine wp_region_ordX Fr.pre [16] (.op 0 2 (.op 1 2 (.op 2 2 (.op 3 2 (.op 4 2 (.op 5 0 (.op 6 2 (.op 7 2 (.op 8 2 (.op 9 2 (.op 10 0 (.op 11 2 (.op 12 2 (.op 13 2 (.op 14 2 (.op 15 0 (.op 16 1 .fin))))))))))))))))) _ (by kernel_rfl) (by kernel_rfl) (by simp only [pickX, List.getElem?_cons_succ, List.getElem?_cons_zero]; rfl) ?_
    have F0 := F
    have F := (Fr.refl wr).drew
    have hv := hv.fr F
    have hdn := hdn.fr F
    have c1 := F.cell c1
    have c2 := F.cell c2
    have c3 := F.cell c3
    have x_1 := Ext.cell c1
    have x_2 := Ext.cell c2
    have x_3 := Ext.cell c3
    repeat (first | (with_reducible refine wpX_q (fun K hK => ?_); go_simp; refine hK _ ?_; clear hK K) | (with_reducible refine wpX_p (fun K hK => ?_); go_simp; refine hK _ ?_; clear hK K) | (with_reducible refine wpX_p (fun K hK => ?_); go_simp; rw [if_neg (by simp [undef])]; refine hK _ ?_; clear hK K) | (with_reducible refine wpX_q (fun K hK => ?_); go_simp; rw [if_neg (by simp [undef])]; refine hK _ ?_; clear hK K))
    clear x_1 x_2 x_3
    refine wpX_e (fun K hK => ?_)
    go_simp
    intro wq hq
    have F := F.then hq
    have hv := hv.fr hq
    have hdn := hdn.fr hq
    refine (writeA3 x hv hdn Hwf.out hlG.out HL1.out HN.out).mono ?_
    rintro e wp ⟨rfl, hv, g1⟩
    refine ⟨_, rfl, hK _ _ ?_⟩
    clear hK K
    repeat (first | (with_reducible refine wpX_q (fun K hK => ?_); go_simp; refine hK _ ?_; clear hK K) | (with_reducible refine wpX_p (fun K hK => ?_); go_simp; refine hK _ ?_; clear hK K) | (with_reducible refine wpX_p (fun K hK => ?_); go_simp; rw [if_neg (by simp [undef])]; refine hK _ ?_; clear hK K) | (with_reducible refine wpX_q (fun K hK => ?_); go_simp; rw [if_neg (by simp [undef])]; refine hK _ ?_; clear hK K))
    refine wpX_nil (fun wz hwz => ?_)
    have hdn : DagA [bm] wz (.pointer p) g := (⟨hdn.out.fr g1 ls⟩ : DagA [bm] wp (.pointer p) g).fr hwz
    have c1 := hwz.cell (g1.cell (hq.cell c1))
    have c2 := hwz.cell (g1.cell (hq.cell c2))
    have c3 := hwz.cell (g1.cell (hq.cell c3))
    have hv := hv.fr hwz
    have hg := ((hg.fr F).fr g1).fr hwz
    have hu := ((hu.fr F).fr g1).fr hwz
    have hR12 := hwz.row (g1.row (F.row hR12))
    have F := ((F0.then F).drop g1 Hb.out).then hwz
    clear F0 g1 hq hwz
    have d0 := rowAt hR12 (j := 0) rfl
    have d1 := rowAt hR12 (j := 1) rfl
    go_upto_region 17 with fail
    refine wp_region_ordX Fr.pre [20] (.op 0 0 (.op 1 2 (.op 2 2 (.op 3 2 (.op 4 2 (.op 5 0 (.op 6 2 (.op 7 2 (.op 8 2 (.op 9 2 (.op 10 0 (.op 11 2 (.op 12 2 (.op 13 2 (.op 14 2 (.op 15 0 (.op 16 1 (.op 17 2 (.op 18 2 (.op 19 2 (.op 20 1 .fin))))))))))))))))))))) _ (by kernel_rfl) (by kernel_rfl) (by simp only [pickX, List.getElem?_cons_succ, List.getElem?_cons_zero]; rfl) ?_
    have F0 := F
    have F := (Fr.refl wz).drew
    have hv := hv.fr F
    have hdn := hdn.fr F
    have hg := hg.fr F
    have hu := hu.fr F
    have hR12 := F.row hR12
    have x_1 := Ext.cell (F.cell c1)
    have x_2 := Ext.cell (F.cell c2)
    have x_3 := Ext.cell (F.cell c3)
    have x_d0 := Ext.cell (F.cell d0)
    have x_d1 := Ext.cell (F.cell d1)
    repeat (first | (with_reducible refine wpX_q (fun K hK => ?_); go_simp; refine hK _ ?_; clear hK K) | (with_reducible refine wpX_p (fun K hK => ?_); go_simp; refine hK _ ?_; clear hK K) | (with_reducible refine wpX_p (fun K hK => ?_); go_simp; rw [if_neg (by simp [undef])]; refine hK _ ?_; clear hK K) | (with_reducible refine wpX_q (fun K hK => ?_); go_simp; rw [if_neg (by simp [undef])]; refine hK _ ?_; clear hK K))
    clear x_1 x_2 x_3 x_d0 x_d1 c1 c2 c3 d0 d1 hidx
    (refine wpX_e (fun K hK => ?_); go_simp; intro wq hq; have F := F.then hq; have hu := hu.fr (hq); have hv := hv.fr (hq); have hdn := hdn.fr (hq); have hg := hg.fr (hq); have hR12 := (hq).row hR12; refine (write21A3 x hg hu HN.out Hwf.out hlG.out HL1.out Hsrt.out).mono ?_; rintro e wp ⟨u2, rfl, hu2, g1⟩; have hu := hu.fr (g1); have hv := hv.fr (g1); have hdn := hdn.fr (g1); have hg := hg.fr (g1); have hR12 := (g1).row hR12; obtain ⟨ua2, q2, uc2, rfl⟩ := hu2.formX; have F := F.then (g1); refine ⟨_, rfl, (g1), hK _ _ ?_⟩; clear hK K hq; skip)
    repeat (first | (with_reducible refine wpX_q (fun K hK => ?_); go_simp; refine hK _ ?_; clear hK K) | (with_reducible refine wpX_p (fun K hK => ?_); go_simp; refine hK _ ?_; clear hK K) | (with_reducible refine wpX_p (fun K hK => ?_); go_simp; rw [if_neg (by simp [undef])]; refine hK _ ?_; clear hK K) | (with_reducible refine wpX_q (fun K hK => ?_); go_simp; rw [if_neg (by simp [undef])]; refine hK _ ?_; clear hK K))
    refine wpX_e (fun K hK => ?_)
    go_simp
    intro wq hq
    have F := F.then hq
    have hR12 := hq.row hR12
    have hu := hu2.fr hq
    have hv := hv.fr hq
    have hdn := hdn.fr hq
    have hg := hg.fr hq
    have c0_ := rowAt hR12 (j := 0) rfl
    have c1_ := rowAt hR12 (j := 1) rfl
    have z0_ := rowFz hR12 0
    have z1_ := rowFz hR12 1
    go_simp
    refine hK _ _ ?_
    clear hK K
    repeat (first | (with_reducible refine wpX_q (fun K hK => ?_); go_simp; refine hK _ ?_; clear hK K) | (with_reducible refine wpX_p (fun K hK => ?_); go_simp; refine hK _ ?_; clear hK K) | (with_reducible refine wpX_p (fun K hK => ?_); go_simp; rw [if_neg (by simp [undef])]; refine hK _ ?_; clear hK K) | (with_reducible refine wpX_q (fun K hK => ?_); go_simp; rw [if_neg (by simp [undef])]; refine hK _ ?_; clear hK K))
    refine wpX_nil (fun wz hwz => ?_)
    have hf8 := Far.set2 hR12 (.slice ga gn gc) (.slice ua2 q2 uc2)
    have hv := (hv.far hf8).fr hwz
    have hdn := (hdn.far hf8).fr hwz
    have hg := Nodes.fr (Nodes.far hf8 hg) hwz
    have hu := Recs.fr (RowsR.far hf8 hu) hwz
    have F := ((F0.then F).set2 HR12.out (.slice ga gn gc) (.slice ua2 q2 uc2)).then hwz
    have hR12 := hwz.row (row2 (x := .slice ga gn gc) (y := .slice ua2 q2 uc2) hR12)
    clear hf8 c0_ c1_ z0_ z1_ hq hwz F0
    go_wp2
    go_roundw
    case rel => exact ⟨k + 1, _, writeL g L0 x.wr, by omega, by go_num, hv, hdn, hg, hu, hR12, HL2, F⟩
    case measure => simp [intOf]; omega
end Go.Proofs.YtppgjglfoibfcaaGreat
