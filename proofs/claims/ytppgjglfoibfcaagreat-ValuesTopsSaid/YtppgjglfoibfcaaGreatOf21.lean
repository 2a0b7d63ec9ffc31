import Derived.Test.YtppgjglfoibfcaaGreatReg1
import Derived.Deep.DeepCutAuto
import Derived.Deep.CutBlock
set_option linter.unusedSimpArgs false
set_option linter.unusedVariables false
/-
  The document's Tell, and Of.
-/
namespace Go.Proofs.YtppgjglfoibfcaaGreat
open Go.RowKit

theorem insP_split {l : List (BS × BS)} {x : BS × BS} {k : Nat} (h1 : ∀ y ∈ l.take k, PLt y x) (h2 : ∀ y, l[k]? = some y → PLt x y) : insP l x = l.take k ++ [x] ++ l.drop k := by
  induction l generalizing k with
  | nil => simp [insP]
  | cons z l ih =>
    cases k with
    | zero =>
      have := h2 z (by simp)
      unfold insP
      rw [if_neg (plt_asy _ _ this), if_neg (fun e => by subst e; exact plt_irr _ this)]
      simp
    | succ k =>
      have hz : PLt z x := h1 z (by simp)
      unfold insP
      rw [if_pos hz, ih (k := k) (fun y hy => h1 y (by simp [hy])) (fun y hy => h2 y (by simpa using hy))]
      simp
theorem insP_same {l : List (BS × BS)} {x : BS × BS} {k : Nat} (h1 : ∀ y ∈ l.take k, PLt y x) (h2 : l[k]? = some x) : insP l x = l := by
  induction l generalizing k with
  | nil => simp at h2
  | cons z l ih =>
    cases k with
    | zero =>
      obtain rfl : z = x := by simpa using h2
      unfold insP
      rw [if_neg (plt_irr _), if_pos rfl]
    | succ k =>
      have hz : PLt z x := h1 z (by simp)
      unfold insP
      rw [if_pos hz, ih (k := k) (fun y hy => h1 y (by simp [hy])) (by simpa using h2)]
theorem tellW_snoc {L : List Wr} {k : Nat} {x : Wr} (hx : L[k]? = some x) : tellW (L.take (k + 1)) = insP (tellW (L.take k)) x.word := by
  rw [take_snoc hx]; unfold tellW; rw [List.foldl_append]; rfl
theorem cellsWr' {w : World} {b o : Nat} {x : Wr} (h : ∀ j y, (encRw x.rw)[j]? = some y → w.cell? ⟨b, o + j, none⟩ = some y) :
    w.cell? ⟨b, o + 1, none⟩ = some (.string x.name) ∧ w.cell? ⟨b, o + 2, none⟩ = some (.string x.text) := ⟨h 1 _ rfl, h 2 _ rfl⟩

set_option maxRecDepth 100000 in
set_option maxHeartbeats 8000000 in
theorem tell21 (gv rv : Value) (g : G) (L : List Wr) (w : World) (hg : Nodes w gv g) (hr : RowsR w rv (L.map Wr.rw)) (hl : L.length ≤ 1000000) :
    Calls Tryz.prog 23 #[.agg #[gv, rv]] w fun e w' => ∃ u, e = .returned u ∧ Words w' u (tellW L) ∧ Fr [] w w' := by
  obtain ⟨ga, gc, rfl, _⟩ := hg.form
  obtain ⟨n, hnx⟩ : ∃ n, n = L.length := ⟨_, rfl⟩
  have hnr : n = (L.map Wr.rw).length := by rw [hnx]; simp
  have Hnr := Lib.hid hnr
  obtain ⟨a, c, rfl⟩ := hr.formN n hnr.symm
  obtain ⟨m, hmx⟩ : ∃ n, n = g.length := ⟨_, rfl⟩
  rw [← hmx] at hg ⊢
  have Hn := Lib.hid hnx
  rw [← hnx] at hl
  clear hnx hmx hnr hg
  go_enter Tryz.func23, Tryz.ntmps23
  go_upto_region 1 with fail
  have f0 := (Fr.refl w).alloc (.cells #[.slice ga m gc, .slice a n c] 37)
  have hR := rowNew w (.cells #[.slice ga m gc, .slice a n c] 37)
  obtain ⟨B, hB⟩ : ∃ B, B = w.heap.size := ⟨_, rfl⟩
  rw [← hB] at hR ⊢
  clear hB
  generalize w.alloc (.cells #[.slice ga m gc, .slice a n c] 37) = w0 at f0 hR ⊢
  have hr := hr.fr f0
  go_wp2
  go_loopw [3, 4] (fun u i wr => ∃ k : Nat, k ≤ n ∧ i = .int .i64 k ∧ Words wr u (tellW (L.take k)) ∧ Fr [] w0 wr) (fun _ i _ => n - (intOf i).toNat)
  case atStart => exact ⟨0, Nat.zero_le _, rfl, Recs.nil _, .refl _⟩
  case round =>
    obtain ⟨k, hk, rfl, hu, hf⟩ := hrel
    have hR' := hf.row hR
    have c01 := rowAt hR' (j := 1) rfl
    by_cases hlt : k < n
    · obtain ⟨x, hx⟩ : ∃ s, L[k]? = some s := ⟨_, List.getElem?_eq_getElem (Hn.out ▸ hlt)⟩
      obtain ⟨b1, o1, hidx, hcell⟩ := (hr.fr hf).at_ lenRw Hnr.out 35 56 Tryz.underlying35 Tryz.sizeOf56 k x.rw (by rw [List.getElem?_map, hx]; rfl)
      obtain ⟨d1, d2⟩ := cellsWr' hcell
      have Hx := Lib.hid (tellW_snoc hx)
      obtain ⟨O, hO⟩ : ∃ O, O = tellW (L.take k) := ⟨_, rfl⟩
      have hOl : O.length ≤ 1000000 := by rw [hO]; have := len_tellW (L.take k); have := List.length_take_le k L; omega
      rw [← hO] at hu Hx
      obtain ⟨q, hqx⟩ : ∃ q, q = O.length := ⟨_, rfl⟩
      rw [← hqx] at hOl
      obtain ⟨oa, oc, rfl⟩ := hu.formN q hqx.symm
      have Hq := Lib.hid hqx
      clear hx hcell hO hqx
      obtain ⟨wo, rfl⟩ : ∃ wo : World, wo = wr := ⟨_, rfl⟩
      go_upto_region 5 with fail
      go_cut [5] (fun s wx => ∃ N : Nat, s = .pointer (some ⟨N, 0, none⟩) ∧ wx.heap[N]? = some (.cells #[.string x.name, .string x.text] 125 (0, 0)) ∧ Fr [] wo wx)
      case first =>
        refine wp_region_ordX Fr.pre [14] (.op 0 2 (.op 1 0 (.op 2 2 (.op 3 2 (.op 4 2 (.op 5 0 (.op 6 2 (.op 7 0 (.op 8 2 (.op 9 2 (.op 10 2 (.op 11 0 (.op 12 0 (.op 13 1 (.op 14 1 .fin))))))))))))))) _ (by kernel_rfl) (by kernel_rfl) (by simp only [pickX, List.getElem?_cons_succ, List.getElem?_cons_zero]; rfl) ?_
        have F := (Fr.refl wo).drew
        have x_1 := Ext.cell (F.cell c01)
        have x_2 := Ext.cell (F.cell d1)
        have x_3 := Ext.cell (F.cell d2)
        repeat (first | (with_reducible refine wpX_q (fun K hK => ?_); go_simp; refine hK _ ?_; clear hK K) | (with_reducible refine wpX_p (fun K hK => ?_); go_simp; refine hK _ ?_; clear hK K) | (with_reducible refine wpX_p (fun K hK => ?_); go_simp; rw [if_neg (by simp [undef])]; refine hK _ ?_; clear hK K) | (with_reducible refine wpX_q (fun K hK => ?_); go_simp; rw [if_neg (by simp [undef])]; refine hK _ ?_; clear hK K))
        clear x_1 x_2 x_3
        (refine wpX_e (fun K hK => ?_); go_simp; intro wq hq; have F := F.then hq; have hp_ := (Fr.refl wq).alloc (.cells #[.string ⟨#[]⟩, .string ⟨#[]⟩] 125); have hNw := (MapKept.heap_alloc wq (.cells #[.string ⟨#[]⟩, .string ⟨#[]⟩] 125)).1; obtain ⟨N_hNw, e_hNw⟩ : ∃ N, N = wq.heap.size := ⟨_, rfl⟩; have l_hNw := F.size; rw [← e_hNw] at l_hNw hNw ⊢; have F := F.then hp_; refine ⟨hp_, hK _ _ ?_⟩; clear hK K hq hp_ e_hNw; skip)
        repeat (first | (with_reducible refine wpX_q (fun K hK => ?_); go_simp; refine hK _ ?_; clear hK K) | (with_reducible refine wpX_p (fun K hK => ?_); go_simp; refine hK _ ?_; clear hK K) | (with_reducible refine wpX_p (fun K hK => ?_); go_simp; rw [if_neg (by simp [undef])]; refine hK _ ?_; clear hK K) | (with_reducible refine wpX_q (fun K hK => ?_); go_simp; rw [if_neg (by simp [undef])]; refine hK _ ?_; clear hK K))
        refine wpX_e (fun K hK => ?_)
        go_simp
        intro wq hq
        have F := F.then hq
        have hN2 := hq.row hNw
        have c0_ := rowAt hN2 (j := 0) rfl
        have c1_ := rowAt hN2 (j := 1) rfl
        have z0_ := rowFz hN2 0
        have z1_ := rowFz hN2 1
        go_simp
        refine hK _ _ ?_
        clear hK K
        refine wpX_nil (fun wz hwz => ?_)
        go_wp2_with fail
        go_meet
        exact ⟨_, rfl, hwz.row (row2 hN2), (F.set2 l_hNw _ _).then hwz⟩
      case rest =>
        obtain ⟨N, rfl, hN, f1⟩ := hcut
        have hu1 := hu.fr f1
        clear d1 d2 c01 hu hidx
        go_upto_block 2 with fail
        go_cut [6] (fun s wx => ∃ kk : Nat, s = .int .i64 kk ∧ kk ≤ q ∧ Hid (∀ y ∈ O.take kk, PLt y x.word) ∧ Hid (∀ y, O[kk]? = some y → ¬ PLt y x.word) ∧ Fr [] wc wx)
        case first =>
          go_wp2_with fail
          go_loopw [6] (fun i wr => ∃ kk : Nat, kk ≤ q ∧ i = .int .i64 kk ∧ Hid (∀ y ∈ O.take kk, PLt y x.word) ∧ Fr [] wc wr) (fun i _ => q - (intOf i).toNat)
          case atStart => exact ⟨0, Nat.zero_le _, rfl, Lib.hid (by simp), .refl _⟩
          case round =>
            obtain ⟨kk, hkk, rfl, Hno, hf2⟩ := hrel
            have n0 := rowAt (hf2.row hN) (j := 0) rfl
            have n1 := rowAt (hf2.row hN) (j := 1) rfl
            by_cases hlt2 : kk < q
            · obtain ⟨y, hy⟩ : ∃ s, O[kk]? = some s := ⟨_, List.getElem?_eq_getElem (Hq.out ▸ hlt2)⟩
              obtain ⟨b2, o2, hidx, hcell⟩ := (hu1.fr hf2).at_ lenWd Hq.out 45 125 Tryz.underlying45 Tryz.sizeOf125 kk y hy
              obtain ⟨e0, e1⟩ := cellsWd hcell
              have Hy := Lib.hid hy
              clear hy hcell
              have h3 : (BLt y.1 x.name ∧ PLt y x.word) ∨ (¬ BLt y.1 x.name ∧ y.1 = x.name ∧ BLt y.2 x.text ∧ PLt y x.word) ∨ (¬ BLt y.1 x.name ∧ y.1 = x.name ∧ ¬ BLt y.2 x.text ∧ ¬ PLt y x.word) ∨ (¬ BLt y.1 x.name ∧ y.1 ≠ x.name ∧ ¬ PLt y x.word) := by
                by_cases h1 : BLt y.1 x.name
                · exact .inl ⟨h1, .inl h1⟩
                · by_cases h2 : y.1 = x.name
                  · by_cases h3 : BLt y.2 x.text
                    · exact .inr (.inl ⟨h1, h2, h3, .inr ⟨h2, h3⟩⟩)
                    · exact .inr (.inr (.inl ⟨h1, h2, h3, fun h => h.elim h1 fun h => h3 h.2⟩))
                  · exact .inr (.inr (.inr ⟨h1, h2, fun h => h.elim h1 fun h => h2 h.1⟩))
              rcases h3 with ⟨h1, hp⟩ | ⟨h1, h2, h3, hp⟩ | ⟨h1, h2, h3, hp⟩ | ⟨h1, h2, hp⟩
              · have t1 := less_tt h1
                have HP := Lib.hid hp
                clear h1 hp
                go_upto_region 7 with fail
                go_quiet (fail)
                go_wp2_with fail
                go_roundw
                case rel => exact ⟨kk + 1, by omega, by go_num, Lib.hid fun z hz => by rcases (mem_take_succ Hy.out).1 hz with h | h; exact Hno.out z h; subst h; exact HP.out, by first | exact hf2.drewN _ | exact hf2.drew | exact hf2⟩
                case measure => simp [intOf]; omega
              · have t1 := less_ff h1
                have t2 := beq_tt h2
                have t3 := less_tt h3
                have HP := Lib.hid hp
                clear h1 h2 h3 hp
                go_upto_region 7 with fail
                go_quiet (fail)
                go_wp2_with fail
                go_roundw
                case rel => exact ⟨kk + 1, by omega, by go_num, Lib.hid fun z hz => by rcases (mem_take_succ Hy.out).1 hz with h | h; exact Hno.out z h; subst h; exact HP.out, by first | exact hf2.drewN _ | exact hf2.drew | exact hf2⟩
                case measure => simp [intOf]; omega
              · have t1 := less_ff h1
                have t2 := beq_tt h2
                have t3 := less_ff h3
                have HP := Lib.hid hp
                clear h1 h2 h3 hp
                go_upto_region 7 with fail
                go_quiet (fail)
                go_wp2_with fail
                go_meet
                exact ⟨kk, rfl, hkk, Hno, Lib.hid (fun z hz => by rw [Hy.out] at hz; cases hz; exact HP.out), by first | exact hf2.drewN _ | exact hf2.drew | exact hf2⟩
              · have t1 := less_ff h1
                have t2 := beq_ff h2
                have HP := Lib.hid hp
                clear h1 h2 hp
                go_upto_region 7 with fail
                go_quiet (fail)
                go_wp2_with fail
                go_meet
                exact ⟨kk, rfl, hkk, Hno, Lib.hid (fun z hz => by rw [Hy.out] at hz; cases hz; exact HP.out), by first | exact hf2.drewN _ | exact hf2.drew | exact hf2⟩
            · go_upto_region 7 with fail
              go_quiet (fail)
              go_wp2_with fail
              go_meet
              exact ⟨kk, rfl, hkk, Hno, Lib.hid (fun z hz => by have := lt_of_getElem? hz; have := Hq.out; omega), by first | exact hf2.drewN _ | exact hf2.drew | exact hf2⟩
        case rest =>
          obtain ⟨kk, rfl, hkk, Hno, Hst, f2⟩ := hcut
          obtain ⟨wd, hwd⟩ : ∃ wd : World, wd = wc := ⟨_, rfl⟩
          subst hwd
          have hN2 := f2.row hN
          have hu2 := hu1.fr f2
          have n0 := rowAt hN2 (j := 0) rfl
          have n1 := rowAt hN2 (j := 1) rfl
          have G := (hf.then f1).then f2
          clear hf f1 f2 hu1 hN
          have hgd := guardWd
          by_cases hs : O[kk]? = some x.word
          · have hlt2 : kk < q := by have := lt_of_getElem? hs; rw [Hq.out]; exact this
            obtain ⟨b2, o2, hidx, hcell⟩ := hu2.at_ lenWd Hq.out 45 125 Tryz.underlying45 Tryz.sizeOf125 kk x.word hs
            obtain ⟨e0, e1⟩ := cellsWd hcell
            have e0 : wd.cell? ⟨b2, o2, none⟩ = some (.string x.name) := e0
            have e1 : wd.cell? ⟨b2, o2 + 1, none⟩ = some (.string x.text) := e1
            have hq : ∀ W, (binOp .eql 125 (.agg #[.string x.name, .string x.text]) (.agg #[.string x.name, .string x.text])).run Tryz.prog W = .ok (.bool true) W := fun W => by
              have := eqWd x.word x.word W; simpa [agWd, Wr.word] using this
            have HS := Lib.hid (insP_same Hno.out hs)
            clear hs hcell
            go_upto_region 9 with fail
            refine wp_region_ordX Fr.pre [] (.op 0 2 (.op 1 2 (.op 2 0 (.op 3 2 (.op 4 2 (.op 5 2 (.op 6 2 (.op 7 2 (.op 8 0 (.op 9 0 (.op 10 2 (.op 11 2 .fin)))))))))))) _ (by kernel_rfl) (by kernel_rfl) (by simp only [pickX, List.getElem?_cons_succ, List.getElem?_cons_zero]; rfl) ?_
            have F := (Fr.refl wd).drew
            have x_1 := Ext.cell (F.cell n0)
            have x_2 := Ext.cell (F.cell n1)
            have x_3 := Ext.cell (F.cell e0)
            have x_4 := Ext.cell (F.cell e1)
            repeat (first | (with_reducible refine wpX_q (fun K hK => ?_); go_simp; refine hK _ ?_; clear hK K) | (with_reducible refine wpX_p (fun K hK => ?_); go_simp; refine hK _ ?_; clear hK K) | (with_reducible refine wpX_p (fun K hK => ?_); go_simp; rw [if_neg (by simp [undef])]; refine hK _ ?_; clear hK K) | (with_reducible refine wpX_q (fun K hK => ?_); go_simp; rw [if_neg (by simp [undef])]; refine hK _ ?_; clear hK K))
            refine wpX_nil (fun wz hwz => ?_)
            have F := F.then hwz
            clear x_1 x_2 x_3 x_4 hwz n0 n1 e0 e1 hidx
            go_wp2
            go_roundw
            case rel => exact ⟨k + 1, by omega, by go_num, by rw [Hx.out, HS.out]; exact hu2.fr F, G.then F⟩
            case measure => simp [intOf]; omega
          · have hsp : ∀ y, O[kk]? = some y → PLt x.word y := fun y hy => by
              rcases plt_total x.word y with h | h | h
              · exact h
              · subst h; exact absurd hy hs
              · exact absurd h (Hst.out y hy)
            have HS := Lib.hid (insP_split Hno.out hsp)
            obtain ⟨a1, hs1, _, hr1, _⟩ := hu2.cut lenWd Hq.out 45 125 Tryz.underlying45 Tryz.sizeOf125 0 kk (Nat.zero_le _) hkk
            have hr1 := hr1 rfl
            obtain ⟨a2, hs2, _, _, hr2⟩ := hu2.cut lenWd Hq.out 45 125 Tryz.underlying45 Tryz.sizeOf125 kk q hkk (Nat.le_refl _)
            have hr2 := hr2 rfl
            simp only [Nat.sub_zero, List.drop_zero] at hs1 hr1
            have lk : (O.take kk).length ≤ 1000000 := by have := List.length_take_le kk O; omega
            have ld : ((O.drop kk).take (q - kk)).length ≤ 1000000 := by have := List.length_take_le (q - kk) (O.drop kk); omega
            have hcase : (q ≤ kk) ∨ (kk < q ∧ ∃ y, O[kk]? = some y ∧ y ≠ x.word) := by
              by_cases h : kk < q
              · obtain ⟨y, hy⟩ : ∃ s, O[kk]? = some s := ⟨_, List.getElem?_eq_getElem (Hq.out ▸ h)⟩
                exact .inr ⟨h, y, hy, fun e => hs (e ▸ hy)⟩
              · exact .inl (by omega)
            clear hs hsp
            have fin : (O.take kk ++ [x.word]) ++ (O.drop kk).take (q - kk) = insP O x.word := by
              rw [HS.out, List.take_of_length_le (l := O.drop kk) (by have := Hq.out; simp; omega)]
            have Fin := Lib.hid fin
            clear fin
            go_upto_region 9 with fail
            go_cut [75] (fun s wx => s = .bool false ∧ Fr [] wd wx)
            case first =>
              rcases hcase with h | ⟨h, y, hy, hne⟩
              · clear hr1 hr2
                have h2 : ¬ kk < q := by omega
                clear h
                refine wp_region_ordX Fr.pre [] (.op 0 2 (.op 1 2 (.op 2 0 (.op 3 2 (.op 4 2 (.op 5 2 (.op 6 2 (.op 7 2 (.op 8 0 (.op 9 0 (.op 10 2 (.op 11 2 .fin)))))))))))) _ (by kernel_rfl) (by kernel_rfl) (by simp only [pickX, List.getElem?_cons_succ, List.getElem?_cons_zero]; rfl) ?_
                have F := (Fr.refl wd).drew
                repeat (first | (with_reducible refine wpX_q (fun K hK => ?_); go_simp; refine hK _ ?_; clear hK K) | (with_reducible refine wpX_p (fun K hK => ?_); go_simp; refine hK _ ?_; clear hK K) | (with_reducible refine wpX_p (fun K hK => ?_); go_simp; rw [if_neg (by simp [undef])]; refine hK _ ?_; clear hK K) | (with_reducible refine wpX_q (fun K hK => ?_); go_simp; rw [if_neg (by simp [undef])]; refine hK _ ?_; clear hK K))
                refine wpX_nil (fun wz hwz => ?_)
                go_wp2_with fail
                go_meet
                exact ⟨rfl, F.then hwz⟩
              · obtain ⟨b2, o2, hidx, hcell⟩ := hu2.at_ lenWd Hq.out 45 125 Tryz.underlying45 Tryz.sizeOf125 kk y hy
                obtain ⟨e0, e1⟩ := cellsWd hcell
                have hq : ∀ W, (binOp .eql 125 (.agg #[.string y.1, .string y.2]) (.agg #[.string x.name, .string x.text])).run Tryz.prog W = .ok (.bool false) W := fun W => by
                  have := eqWd y x.word W; rw [decide_eq_false hne] at this; simpa [agWd, Wr.word] using this
                clear hy hne hcell hr1 hr2
                refine wp_region_ordX Fr.pre [] (.op 0 2 (.op 1 2 (.op 2 0 (.op 3 2 (.op 4 2 (.op 5 2 (.op 6 2 (.op 7 2 (.op 8 0 (.op 9 0 (.op 10 2 (.op 11 2 .fin)))))))))))) _ (by kernel_rfl) (by kernel_rfl) (by simp only [pickX, List.getElem?_cons_succ, List.getElem?_cons_zero]; rfl) ?_
                have F := (Fr.refl wd).drew
                have x_1 := Ext.cell (F.cell n0)
                have x_2 := Ext.cell (F.cell n1)
                have x_3 := Ext.cell (F.cell e0)
                have x_4 := Ext.cell (F.cell e1)
                repeat (first | (with_reducible refine wpX_q (fun K hK => ?_); go_simp; refine hK _ ?_; clear hK K) | (with_reducible refine wpX_p (fun K hK => ?_); go_simp; refine hK _ ?_; clear hK K) | (with_reducible refine wpX_p (fun K hK => ?_); go_simp; rw [if_neg (by simp [undef])]; refine hK _ ?_; clear hK K) | (with_reducible refine wpX_q (fun K hK => ?_); go_simp; rw [if_neg (by simp [undef])]; refine hK _ ?_; clear hK K))
                refine wpX_nil (fun wz hwz => ?_)
                go_wp2_with fail
                go_meet
                exact ⟨rfl, F.then hwz⟩
            case rest =>
              obtain ⟨rfl, f3⟩ := hcut
              have hs1 := hs1.fr f3
              have hs2 := hs2.fr f3
              have n0 := f3.cell n0
              have n1 := f3.cell n1
              have G := G.then f3
              obtain ⟨we, hwe⟩ : ∃ we : World, we = wc := ⟨_, rfl⟩
              subst hwe
              clear hu2 hN2 f3 hcase hgd
              have g0 := (Fr.refl we).alloc (.cells #[] 125)
              have n0' := g0.cell n0
              have n1' := g0.cell n1
              go_wp2_with (first
                | (at_builtin; refine wpList_appWd rfl (.tmp 76) (.tmp 79) rfl _ _ [] rfl (own_emptyR we 2 125 encWd) _ _ rfl (hs1.fr g0) (by simp; omega) (by simp) ?_; intro v1 w1 hown1 hg1 hat1; have g1 := g0.grown hg1 (fun j hj => by cases hj; exact Nat.le_refl _); have n0 := g1.cell n0; have n1 := g1.cell n1; have g2 := g1.alloc (.cells #[.string x.name, .string x.text] 125); clear n0' n1' hg1 hat1)
                | (at_builtin; refine wpList_appWd rfl (.tmp 81) (.tmp 83) rfl _ _ _ rfl (own_fr hown1 ((Fr.refl w1).alloc _)) _ _ rfl (word_new w1 x.word) (by simp; omega) (g2.size) ?_; intro v2 w2 hown2 hg2 hat2; have g3 := g2.grown hg2 (own_base0 hown1); clear hg2 hat2)
                | (at_builtin; refine wpList_appWd rfl (.tmp 85) (.tmp 88) rfl _ _ _ rfl hown2 _ _ rfl (hs2.fr g3) (by simp; omega) (g3.size) ?_; intro v3 w3 hown3 hg3 hat3; have g4 := g3.grown hg3 (own_base0 hown2); clear hg3 hat3))
              go_roundw
              case rel =>
                refine ⟨k + 1, by omega, by go_num, ?_, G.then g4⟩
                have h := Recs.of_own hown3 rfl (by simp; omega)
                rw [List.nil_append, Fin.out] at h
                rw [Hx.out]
                exact h
              case measure => simp [intOf]; omega
    · go_wp2
      go_ret
      rw [List.take_of_length_le (by have := Hn.out; omega)] at hu
      exact ⟨_, rfl, hu, f0.then hf⟩
end Go.Proofs.YtppgjglfoibfcaaGreat

set_option linter.unusedSimpArgs false
set_option linter.unusedVariables false
/-
  The document's Of.
-/
namespace Go.Proofs.YtppgjglfoibfcaaGreat
open Go.RowKit
def ofP (l : List (BS × BS)) (n : BS) : List BS := (l.filter fun p => decide (p.1 = n)).map (·.2)
theorem ofP_yes {l : List (BS × BS)} {n : BS} {k : Nat} {p : BS × BS} (hp : l[k]? = some p) (h : p.1 = n) : ofP (l.take k) n ++ [p.2] = ofP (l.take (k + 1)) n := by
  rw [take_snoc hp]; simp [ofP, List.filter_append, h]
theorem ofP_no {l : List (BS × BS)} {n : BS} {k : Nat} {p : BS × BS} (hp : l[k]? = some p) (h : p.1 ≠ n) : ofP (l.take k) n = ofP (l.take (k + 1)) n := by
  rw [take_snoc hp]; simp [ofP, List.filter_append, h]
theorem len_ofP (l : List (BS × BS)) (n : BS) : (ofP l n).length ≤ l.length := by unfold ofP; rw [List.length_map]; exact List.length_filter_le _ _
set_option maxRecDepth 100000 in
set_option maxHeartbeats 4000000 in
theorem of21 (gv rv : Value) (g : G) (L : List Wr) (n : BS) (w : World) (hg : Nodes w gv g) (hr : RowsR w rv (L.map Wr.rw)) (hl : L.length ≤ 1000000) :
    Calls Tryz.prog 28 #[.agg #[gv, rv], .string n] w fun e w' => ∃ u, e = .returned u ∧ Strs w' u (ofW L n) ∧ Fr [] w w' := by
  obtain ⟨ga, gc, rfl, _⟩ := hg.form
  obtain ⟨ra, rc, rfl, _⟩ := hr.form
  have f0 := (Fr.refl w).alloc (.cells #[.slice ga g.length gc, .slice ra (L.map Wr.rw).length rc] 37)
  have CT := Lib.hid (tell21 _ _ g L _ (hg.fr f0) (hr.fr f0) hl)
  have HL := Lib.hid (len_tellW L)
  clear hg hr
  rw [List.length_map] at CT f0 ⊢
  go_enter Tryz.func28, Tryz.ntmps28
  go_wp2_with (go_at_call 23; refine CT.out.mono ?_; rintro e w1 ⟨u, rfl, hu, f1⟩; obtain ⟨a, c, rfl, hc, hm, hn⟩ := hu.form)
  obtain ⟨O, hO⟩ : ∃ O, O = tellW L := ⟨_, rfl⟩
  rw [← hO] at hu hc hn HL ⊢
  have HO : Hid (ofW L n = ofP O n) := Lib.hid (by rw [hO]; rfl)
  obtain ⟨m, hmx⟩ : ∃ m, m = O.length := ⟨_, rfl⟩
  rw [← hmx] at hu hc hn HL ⊢
  have Hm := Lib.hid hmx
  have hm6 : m ≤ 1000000 := by have := HL.out; omega
  have FF := f0.then f1
  clear hmx hO CT
  go_loopw [6, 7] (fun u i wr => ∃ k : Nat, k ≤ m ∧ i = .int .i64 k ∧ wr.ownsRow w1.heap.size 9 1 u (ofP (O.take k) n).length ((ofP (O.take k) n).map .string) ∧ Fr [] w1 wr) (fun _ i _ => m - (intOf i).toNat)
  case atStart => exact ⟨0, Nat.zero_le _, rfl, World.ownsRow_nil _ _ _ _, .refl _⟩
  case round =>
    obtain ⟨k, hk, rfl, ho, hf⟩ := hrel
    by_cases hlt : k < m
    · obtain ⟨x, hx⟩ : ∃ s, O[k]? = some s := ⟨_, List.getElem?_eq_getElem (Hm.out ▸ hlt)⟩
      obtain ⟨b, o, hidx, hcell⟩ := (hu.fr hf).at_ lenWd Hm.out 45 125 Tryz.underlying45 Tryz.sizeOf125 k x hx
      obtain ⟨c1, c2⟩ := cellsWd hcell
      have Hx := Lib.hid hx
      have hbs := hf.size
      have hlen : (ofP (O.take k) n).length ≤ 1000000 := by have := len_ofP (O.take k) n; have := List.length_take_le k O; omega
      clear hx hcell
      by_cases hq : x.1 = n
      · have e1 := beq_tt hq
        have HS := Lib.hid (ofP_yes Hx.out hq)
        clear hq
        go_wp2_with (at_builtin; refine wpList_appS rfl (.tmp 23) (.tmp 29) rfl _ _ _ rfl (own_fr ho ((Fr.refl _).alloc _)) _ _ rfl (strs_new _ x.2) (by simp only [List.length_cons, List.length_nil]; omega) (by simp; omega) ?_; intro v1 w2 hown1 hg1 hat1; have f2 := (hf.alloc (.cells #[.string x.2] 9)).grown hg1 (fun j hj => own_base0 ho j hj); clear hg1 hat1)
        go_roundw
        case rel => exact ⟨k + 1, by omega, by go_num, by rw [← HS.out]; exact hown1, f2⟩
        case measure => simp [intOf]; omega
      · have e1 := beq_ff hq
        have HS := Lib.hid (ofP_no Hx.out hq)
        clear hq
        go_wp2
        go_roundw
        case rel => exact ⟨k + 1, by omega, by go_num, by rw [← HS.out]; exact ho, hf⟩
        case measure => simp [intOf]; omega
    · go_wp2
      go_ret
      rw [List.take_of_length_le (by have := Hm.out; omega), ← HO.out] at ho
      exact ⟨_, rfl, Strs.of_own ho (by rw [HO.out]; have := len_ofP O n; have := Hm.out; omega), FF.then hf⟩
end Go.Proofs.YtppgjglfoibfcaaGreat
