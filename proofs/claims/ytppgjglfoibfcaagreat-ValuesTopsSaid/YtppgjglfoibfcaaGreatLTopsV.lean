import Derived.Test.YtppgjglfoibfcaaGreatTopsD
set_option linter.unusedSimpArgs false
set_option linter.unusedVariables false
/-
  Chapter 21: ValuesTops.
-/
namespace Go.Proofs.YtppgjglfoibfcaaGreat
open Go.RowKit

set_option maxRecDepth 100000 in
set_option maxHeartbeats 8000000 in
theorem valuesTops5 (v lv : Value) (L : List Nd) (l : List Dd) (w : World) (hs : Nodes w v L) (hl : Deeds w lv l) :
    Calls Tryz.prog 5 #[v, lv] w fun e w' => e = .returned (.bool true) ∧ Fr [] w w' := by
  obtain ⟨a, c, rfl, hc, hm, hn⟩ := hs.form
  obtain ⟨la, lc, rfl, hlc, hlm, hln⟩ := hl.form
  by_cases hF : Few L
  case neg =>
    have HF := Lib.hid hF; clear hF
    go_enter Tryz.func5, Tryz.ntmps5
    go_wp2_with (first
      | (go_at_call 14; refine (fewLF hs HF.out).mono ?_; rintro e w0 ⟨rfl, rfl⟩)
      | (go_at_call 16; refine (awakeV _).mono ?_; rintro e w1 ⟨rfl, f1⟩))
    go_ret
    exact ⟨rfl, f1⟩
  have HF := Lib.hid hF; clear hF
  by_cases hD : FewD l
  case neg =>
    have HD := Lib.hid hD; clear hD
    go_enter Tryz.func5, Tryz.ntmps5
    go_wp2_with (first
      | (go_at_call 14; refine (fewLT hs HF.out).mono ?_; rintro e w0 ⟨rfl, rfl⟩)
      | (go_at_call 15; refine (fewDF hl HD.out).mono ?_; rintro e w0 ⟨rfl, rfl⟩)
      | (go_at_call 16; refine (awakeV _).mono ?_; rintro e w1 ⟨rfl, f1⟩))
    go_ret
    exact ⟨rfl, f1⟩
  have HD := Lib.hid hD; clear hD
  go_enter Tryz.func5, Tryz.ntmps5
  go_upto_region 4 with (first
    | (go_at_call 14; refine (fewLT hs HF.out).mono ?_; rintro e w0 ⟨rfl, rfl⟩)
    | (go_at_call 15; refine (fewDT hl HD.out).mono ?_; rintro e w0 ⟨rfl, rfl⟩)
    | (go_at_call 17; refine (make14 _ _ _ hs (Nat.le_trans HF.out.1 (by decide))).mono ?_; rintro e w1 ⟨dv, mN, mH, gv, rfl, hd, -, -, hg, f1⟩; obtain ⟨db, rfl⟩ := hd.ptr; obtain ⟨ga, gc, rfl, _⟩ := hg.form))
  have f2 := (Fr.refl w1).alloc (.cells #[.slice ga (makeG L).length gc] 30)
  have hRc := World.cell?_alloc_new (w := w1) #[.slice ga (makeG L).length gc] 30 0
  have hd := hd.fr f2 (by simp) (by simp)
  have hg := hg.fr f2
  have F := f1.then f2
  obtain ⟨R, hRR⟩ : ∃ R, R = w1.heap.size := ⟨_, rfl⟩
  rw [← hRR] at hRc ⊢
  clear hRR
  generalize w1.alloc (.cells #[.slice ga (makeG L).length gc] 30) = wS at hd hg hRc F ⊢
  clear f1 f2 hs hc hm hn
  have hlG := Lib.hid (Nat.le_trans (len_makeG L) HF.out.1 : (makeG L).length ≤ 30)
  have hwf := wf_makeG L
  have hRc : wS.cell? ⟨R, 0, none⟩ = some (.slice ga (makeG L).length gc) := hRc
  clear HF
  generalize makeG L = g at hd hg hRc hlG hwf ⊢
  have Hwf := Lib.hid hwf; clear hwf
  obtain ⟨p, hp⟩ : ∃ p : Option Addr, p = some ⟨db, 0, none⟩ := ⟨_, rfl⟩
  rw [← hp] at hd ⊢
  clear hp
  go_upto_region 5 with (go_at_call 18; refine (emptyA _ _).mono ?_; rintro e wE ⟨vb, rfl, hv, f1⟩)
  obtain ⟨bm, hbm⟩ : ∃ m, m = wS.heap.size := ⟨_, rfl⟩
  rw [← hbm] at hv
  have hdn : DagA [bm] wE (.pointer p) g := by
    have x := isMp_lt (hd.maps mN (by simp))
    have y := isMp_lt (hd.maps mH (by simp))
    exact ⟨.inr ⟨mN, mH, hd.fr f1 List.not_mem_nil List.not_mem_nil, by simp; omega, by simp; omega⟩⟩
  have hg := hg.fr f1
  have hRc := f1.cell hRc
  have Hb : Hid (∀ x, x ∈ [bm] → w.heap.size ≤ x) := Lib.hid (fun x hx => by simp at hx; subst hx; rw [hbm]; exact F.size)
  have F := F.then f1
  have ls : ∀ x ∈ [bm], x ∈ [bm] := fun _ h => h
  have hmp : IsMp wE bm := by obtain ⟨l, h1, _⟩ := hv.out.map; exact h1.isMp
  have Hmb := Lib.hid hmp.lt
  have Hvb := Lib.hid (row_lt hv.out.blk)
  clear hd f1 hbm
  have hn40 : l.length ≤ 40 := HD.out.1
  obtain ⟨n, hnx⟩ : ∃ n, n = l.length := ⟨_, rfl⟩
  rw [← hnx] at hl hlc hln hn40 ⊢
  have Hn := Lib.hid hnx; clear hnx
  go_wp2
  go_loopw [8, 9] (fun u i wr => ∃ (k q : Nat) (L0 : List Wr) (A : List Dd), k ≤ n ∧ i = .int .i64 k ∧ Hid (q = A.length) ∧ wr.ownsRow wE.heap.size 42 4 u q (A.flatMap encDd) ∧ ValsA wr vb bm p L0 k ∧ Hid (Aw (fun b => u.ownBlock ≠ some b ∧ b < wr.heap.size) wr bm) ∧ Fr [bm] wE wr ∧ Hid (TInv g L0 A) ∧ Hid (∀ a ∈ A, a ∈ l.take k) ∧ Hid (q ≤ k) ∧ Hid (L0.length ≤ k)) (fun _ i _ => n - (intOf i).toNat)
  case atStart => exact ⟨0, 0, [], [], Nat.zero_le _, rfl, Lib.hid rfl, own_nilR _ _ 4 42 encDd, hv, Lib.hid hv.aw0, (Fr.refl wE).more (by simp) (by simp; exact hmp), Lib.hid (TInv.nil g), Lib.hid (by simp), Lib.hid (Nat.le_refl _), Lib.hid (Nat.le_refl _)⟩
  case round =>
    obtain ⟨k, q, L0, A, hk, rfl, Hq, hown, hv, HAw, fE, HT, HA, Hqk, HL⟩ := hrel
    have F2 : Fr [] w wr := F.drop fE Hb.out
    obtain ⟨oa, oc, rfl⟩ := own_form hown
    by_cases hlt : k < n
    · obtain ⟨x, hx⟩ : ∃ x, l[k]? = some x := ⟨_, List.getElem?_eq_getElem (Hn.out ▸ hlt)⟩
      have Hx := Lib.hid hx
      clear hx
      obtain ⟨wo, rfl⟩ : ∃ wo : World, wo = wr := ⟨_, rfl⟩
      go_upto_block 2 with fail
      go_cut [10] (fun s wx => s = .bool (dupB (l.take k) x) ∧ Fr [] wo wx)
      case first =>
        as_aux_lemma =>
          go_wp2
          go_loopw [10, 11] (fun b j wr => ∃ k2 : Nat, k2 ≤ k ∧ j = .int .i64 k2 ∧ b = .bool (dupB (l.take k2) x) ∧ Fr [] wo wr) (fun _ j _ => k - (intOf j).toNat)
          case atStart => exact ⟨0, Nat.zero_le _, rfl, rfl, .refl _⟩
          case round =>
            obtain ⟨k2, hk2, rfl, rfl, hf⟩ := hrel
            by_cases hlt2 : k2 < k
            · obtain ⟨wi, rfl⟩ : ∃ wo : World, wo = wr := ⟨_, rfl⟩
              obtain ⟨y, hy⟩ : ∃ y, l[k2]? = some y := ⟨_, List.getElem?_eq_getElem (Hn.out ▸ (Nat.lt_trans hlt2 hlt))⟩
              obtain ⟨b, o, hidx, hcell⟩ := ((hl.fr F2).fr hf).at_ lenDd Hn.out 23 42 Tryz.underlying23 Tryz.sizeOf42 k x Hx.out
              obtain ⟨b2, o2, hidx2, hcell2⟩ := ((hl.fr F2).fr hf).at_ lenDd Hn.out 23 42 Tryz.underlying23 Tryz.sizeOf42 k2 y hy
              have c1 : wi.cell? ⟨b, o + 1, none⟩ = some (.string x.name) := hcell 1 _ rfl
              have c3 : wi.cell? ⟨b, o + 3, none⟩ = some (.string x.id) := hcell 3 _ rfl
              have d1 : wi.cell? ⟨b2, o2 + 1, none⟩ = some (.string y.name) := hcell2 1 _ rfl
              have d3 : wi.cell? ⟨b2, o2 + 3, none⟩ = some (.string y.id) := hcell2 3 _ rfl
              have Hs := Lib.hid (dupB_snoc x hy)
              have e1 := beq_dec y.name x.name
              have e3 := beq_dec y.id x.id
              clear hcell hcell2 hy
              generalize dupB (l.take k2) x = D at Hs ⊢
              generalize decide (y.name = x.name) = D1 at Hs e1
              generalize decide (y.id = x.id) = D2 at Hs e3
              go_upto_region 15 with fail
              cases D
              case' false => cases D1
              case' false.true => cases D2
              all_goals
                refine wp_region_ordX Fr.pre [] (.op 0 2 (.op 1 2 (.op 2 2 (.op 3 2 (.op 4 2 (.op 5 2 (.op 6 0 (.op 7 2 (.op 8 2 (.op 9 2 (.op 10 2 (.op 11 0 (.op 12 2 (.op 13 2 (.op 14 2 (.op 15 2 (.op 16 2 (.op 17 2 (.op 18 0 (.op 19 2 (.op 20 2 (.op 21 2 (.op 22 2 (.op 23 0 (.op 24 2 (.op 25 2 (.op 26 2 (.op 27 2 .fin)))))))))))))))))))))))))))) _ (by kernel_rfl) (by kernel_rfl) (by simp only [pickX, List.getElem?_cons_succ, List.getElem?_cons_zero]; rfl) ?_
                have F1 := (Fr.refl wi).drew
                have x_1 := Ext.cell (F1.cell c1)
                have x_2 := Ext.cell (F1.cell c3)
                have x_3 := Ext.cell (F1.cell d1)
                have x_4 := Ext.cell (F1.cell d3)
                repeat (first | (with_reducible refine wpX_q (fun K hK => ?_); go_simp; refine hK _ ?_; clear hK K) | (with_reducible refine wpX_p (fun K hK => ?_); go_simp; refine hK _ ?_; clear hK K) | (with_reducible refine wpX_p (fun K hK => ?_); go_simp; rw [if_neg (by simp [undef])]; refine hK _ ?_; clear hK K) | (with_reducible refine wpX_q (fun K hK => ?_); go_simp; rw [if_neg (by simp [undef])]; refine hK _ ?_; clear hK K))
                refine wpX_nil (fun wz hwz => ?_)
                clear c1 c3 d1 d3 e1 e3 x_1 x_2 x_3 x_4 hidx hidx2
                go_wp2
                go_roundw
                case rel => exact ⟨k2 + 1, by omega, by go_num, by rw [Hs.out]; rfl, hf.then (F1.then hwz)⟩
                case measure => simp [intOf]; omega
            · obtain rfl : k2 = k := by omega
              go_wp2_with fail
              go_meet
              exact ⟨rfl, hf⟩
      case rest =>
        obtain ⟨rfl, hf⟩ := hcut
        have HAw : Hid (Aw (fun b => (Value.slice oa q oc).ownBlock ≠ some b ∧ b < wc.heap.size) wc bm) := Lib.hid ((HAw.out.fr hf List.not_mem_nil (Nat.lt_of_lt_of_le Hmb.out fE.size)).imp fun b h => ⟨h.1, Nat.lt_of_lt_of_le h.2 hf.size⟩)
        have F3 := F2.then hf
        have fE := fE.then hf
        have hv := hv.fr hf
        have hown := own_fr hown hf
        have HA1 : Hid (∀ a ∈ A, a ∈ l.take (k + 1)) := Lib.hid (fun a ha => (mem_take_succ Hx.out).2 (.inl (HA.out a ha)))
        have Hqk1 : Hid (q ≤ k + 1) := Lib.hid (by have := Hqk.out; omega)
        have HL1 : Hid (L0.length ≤ k + 1) := Lib.hid (by have := HL.out; omega)
        clear F2 hf
        cases hDup : dupB (l.take k) x with
        | true =>
          have hv := hv.mono (Nat.le_succ k)
          clear hDup
          go_wp2
          go_roundw
          case rel => exact ⟨k + 1, q, L0, A, by omega, by go_num, Hq, hown, hv, HAw, fE, HT, HA1, Hqk1, HL1⟩
          case measure => simp [intOf]; omega
        | false =>
          have HDup := Lib.hid hDup
          clear hDup
          have HN : Hid (x.name.size ≤ 60) := Lib.hid (HD.out.2 x (List.mem_of_getElem? Hx.out)).1
          have HL40 : Hid (L0.length ≤ 40) := Lib.hid (by have := HL.out; omega)
          have hdn1 : DagA [bm] wc (.pointer p) g := ⟨hdn.out.fr fE ls⟩
          obtain ⟨b, o, hidx, hcell⟩ := (hl.fr F3).at_ lenDd Hn.out 23 42 Tryz.underlying23 Tryz.sizeOf42 k x Hx.out
          have c1 : wc.cell? ⟨b, o + 1, none⟩ = some (.string x.name) := hcell 1 _ rfl
          have c2 : wc.cell? ⟨b, o + 2, none⟩ = some (.string x.text) := hcell 2 _ rfl
          have c3 : wc.cell? ⟨b, o + 3, none⟩ = some (.string x.id) := hcell 3 _ rfl
          clear hcell
          have Hbm : Hid (bm < wc.heap.size) := Lib.hid (Nat.lt_of_lt_of_le Hmb.out fE.size)
          go_upto_region 17 with fail
          go_cut [93] (fun s wx => s = .bool (decide (writeE L0 x.wr = 0)) ∧ ValsA wx vb bm p (writeL g L0 x.wr) (k + 1) ∧ Hid (Aw (fun b => (Value.slice oa q oc).ownBlock ≠ some b ∧ b < wx.heap.size) wx bm) ∧ wx.ownsRow wE.heap.size 42 4 (.slice oa q oc) q (A.flatMap encDd) ∧ Fr [bm] wE wx)
          case first =>
            as_aux_lemma =>
              refine wp_region_ordX Fr.pre [16] (.op 0 2 (.op 1 2 (.op 2 2 (.op 3 2 (.op 4 2 (.op 5 0 (.op 6 2 (.op 7 2 (.op 8 2 (.op 9 2 (.op 10 0 (.op 11 2 (.op 12 2 (.op 13 2 (.op 14 2 (.op 15 0 (.op 16 1 (.op 17 2 .fin)))))))))))))))))) _ (by kernel_rfl) (by kernel_rfl) (by simp only [pickX, List.getElem?_cons_succ, List.getElem?_cons_zero]; rfl) ?_
              have F := (Fr.refl wc).drew
              have hv := hv.fr F
              have hdn1 := hdn1.fr F
              have x_1 := Ext.cell (F.cell c1)
              have x_2 := Ext.cell (F.cell c2)
              have x_3 := Ext.cell (F.cell c3)
              repeat (first | (with_reducible refine wpX_q (fun K hK => ?_); go_simp; refine hK _ ?_; clear hK K) | (with_reducible refine wpX_p (fun K hK => ?_); go_simp; refine hK _ ?_; clear hK K) | (with_reducible refine wpX_p (fun K hK => ?_); go_simp; rw [if_neg (by simp [undef])]; refine hK _ ?_; clear hK K) | (with_reducible refine wpX_q (fun K hK => ?_); go_simp; rw [if_neg (by simp [undef])]; refine hK _ ?_; clear hK K))
              clear x_1 x_2 x_3
              refine wpX_e (fun K hK => ?_)
              go_simp
              intro wq hq
              have F := F.then hq
              have hv := hv.fr hq
              have hdn1 := hdn1.fr hq
              refine (writeA2 x hv hdn1 Hwf.out hlG.out HL40.out HN.out).mono ?_
              rintro e wp ⟨rfl, hv, g1, hAw⟩
              have HAw := Lib.hid (hAw (fun b => (Value.slice oa q oc).ownBlock ≠ some b ∧ b < wp.heap.size) (fun b h1 h2 => ⟨fun e => by have := (own_in hown b e).2; have := F.size; omega, h2⟩) ((HAw.out.fr F List.not_mem_nil Hbm.out).imp fun b h => ⟨h.1, Nat.lt_of_lt_of_le h.2 (Nat.le_trans F.size g1.size)⟩))
              have hown := own_fr (own_fr hown F) g1
              have fE := (fE.then F).and g1
              refine ⟨_, rfl, hK _ _ ?_⟩
              clear hK K hq F hAw
              generalize hE0 : writeE L0 x.wr = E0
              have HE0 := Lib.hid hE0
              clear hE0
              repeat (first | (with_reducible refine wpX_q (fun K hK => ?_); go_simp; refine hK _ ?_; clear hK K) | (with_reducible refine wpX_p (fun K hK => ?_); go_simp; refine hK _ ?_; clear hK K) | (with_reducible refine wpX_p (fun K hK => ?_); go_simp; rw [if_neg (by simp [undef])]; refine hK _ ?_; clear hK K) | (with_reducible refine wpX_q (fun K hK => ?_); go_simp; rw [if_neg (by simp [undef])]; refine hK _ ?_; clear hK K))
              refine wpX_nil (fun wz hwz => ?_)
              go_wp2_with fail
              go_meet
              exact ⟨by rw [HE0.out]; rfl, hv.fr hwz, Lib.hid ((HAw.out.fr hwz List.not_mem_nil (Nat.lt_of_lt_of_le Hmb.out fE.size)).imp fun b h => ⟨h.1, Nat.lt_of_lt_of_le h.2 hwz.size⟩), own_fr hown hwz, fE.then hwz⟩
          case rest =>
            obtain ⟨rfl, hv, HAw, hown, fE⟩ := hcut
            have F3 := F.drop fE Hb.out
            clear hdn1 c1 c2 c3 hidx
            by_cases hE : writeE L0 x.wr = 0
            · rw [decide_eq_true hE]
              have HT2 := Lib.hid (HT.out.put Hwf.out x (fun a ha => dupB_no HDup.out a (HA.out a ha)) hE)
              have HA2 : Hid (∀ a ∈ A ++ [x], a ∈ l.take (k + 1)) := Lib.hid (fun a ha => by
                rcases List.mem_append.1 ha with ha | ha
                · exact HA1.out a ha
                · obtain rfl : a = x := by simpa using ha
                  exact (mem_take_succ Hx.out).2 (.inr rfl))
              have HL2 : Hid ((writeL g L0 x.wr).length ≤ k + 1) := Lib.hid (by have := len_writeL g L0 x.wr; have := HL.out; omega)
              have Hq2 : Hid (q + 1 = (A ++ [x]).length) := Lib.hid (by rw [List.length_append, ← Hq.out]; rfl)
              have hown : wc.ownsRow wE.heap.size 42 4 (.slice oa q oc) A.length (A.flatMap encDd) := by rw [← Hq.out]; exact hown
              have hAq : A.length ≤ 40 := by have := Hqk.out; have := Hq.out; omega
              have HAq := Lib.hid hAq
              obtain ⟨b, o, hidx, hcell⟩ := (hl.fr F3).at_ lenDd Hn.out 23 42 Tryz.underlying23 Tryz.sizeOf42 k x Hx.out
              have c0 : wc.cell? ⟨b, o, none⟩ = some (.bool x.gone) := by simpa using hcell 0 _ rfl
              have c1 : wc.cell? ⟨b, o + 1, none⟩ = some (.string x.name) := hcell 1 _ rfl
              have c2 : wc.cell? ⟨b, o + 2, none⟩ = some (.string x.text) := hcell 2 _ rfl
              have c3 : wc.cell? ⟨b, o + 3, none⟩ = some (.string x.id) := hcell 3 _ rfl
              have hEs := fE.size
              clear hcell hE hAq
              go_wp2_with (at_builtin; refine wpList_appDd rfl (.tmp 94) (.tmp 99) rfl wE.heap.size _ A rfl (own_fr hown ((Fr.refl _).alloc _)) _ [x] rfl (deed_new _ x) (by have := HAq.out; simp only [List.length_singleton]; omega) (by simp; omega) ?_; intro v1 w4 hown1 hg1 hat1; obtain ⟨hv4, hA4, f4⟩ := appTop hown hv HAw.out fE Hvb.out Hmb.out hg1 hat1; have HA4 := Lib.hid hA4; clear hA4 hg1 hat1)
              rw [← Hq2.out] at hown1
              go_roundw
              case rel => exact ⟨k + 1, q + 1, writeL g L0 x.wr, A ++ [x], by omega, by go_num, Hq2, hown1, hv4, HA4, f4, HT2, HA2, Lib.hid (by have := Hqk.out; omega), HL2⟩
              case measure => simp [intOf]; omega
            · rw [decide_eq_false hE]
              have HT2 := Lib.hid (HT.out.skip x hE)
              have HL2 : Hid ((writeL g L0 x.wr).length ≤ k + 1) := Lib.hid (by rw [writeL_no rfl hE]; exact HL1.out)
              clear hE
              go_wp2
              go_roundw
              case rel => exact ⟨k + 1, q, writeL g L0 x.wr, A, by omega, by go_num, Hq, hown, hv, HAw, fE, HT2, HA1, Hqk1, HL2⟩
              case measure => simp [intOf]; omega
    · as_aux_lemma =>
        have hLn : L0.length ≤ 40 := by have := HL.out; omega
        have hq40 : q ≤ 40 := by have := Hqk.out; omega
        have hkb : k ≤ 1000 := by omega
        obtain ⟨wo, rfl⟩ : ∃ wo : World, wo = wr := ⟨_, rfl⟩
        go_upto_region 20 with (go_at_call 25; refine (rowsA hv hLn hkb).mono ?_; rintro e wF ⟨u, rfl, hu, f1⟩)
        obtain ⟨m, hm⟩ : ∃ m, m = (L0.map Wr.rw).length := ⟨_, rfl⟩
        obtain ⟨ra, rc, rfl⟩ := hu.formN m hm.symm
        have hA : Deeds wF (.slice oa q oc) A := Recs.fr (Recs.of_own hown Hq.out (by rw [← Hq.out]; omega)) f1
        have hgF : Nodes wF (.slice ga g.length gc) g := (hg.fr fE).fr f1
        have hRF : wF.cell? ⟨R, 0, none⟩ = some (.slice ga g.length gc) := f1.cell (fE.cell hRc)
        have F4 : Fr [] w wF := F2.then f1
        have HmL : Hid (L0.length = m) := Lib.hid (by rw [hm]; simp)
        have Hm := Lib.hid hm
        have hm40 : m ≤ 40 := by rw [hm]; simpa using hLn
        clear hm hv hown HAw fE F2 f1 hg hRc hlt hkb hLn HA Hqk HL hdn hl F
        go_wp2
        go_loopw [13, 14] (fun t i wr => ∃ k : Nat, k ≤ q ∧ i = .int .i64 k ∧ t = .int .i64 (numT L0 A k) ∧ Fr [] wF wr) (fun _ i _ => q - (intOf i).toNat)
        case atStart => exact ⟨0, Nat.zero_le _, rfl, rfl, .refl _⟩
        case round =>
          obtain ⟨i, hi, rfl, rfl, f2⟩ := hrel
          by_cases hlt : i < q
          · obtain ⟨x, hx⟩ : ∃ x, A[i]? = some x := ⟨_, List.getElem?_eq_getElem (Hq.out ▸ hlt)⟩
            have Hx := Lib.hid hx
            have HS := Lib.hid (numT_snoc (L := L0) hx)
            have HTT := Lib.hid (top_there Hwf.out HT.out (List.mem_of_getElem? hx))
            have hN40 : numT L0 A i ≤ 40 := Nat.le_trans (numT_le L0 A i) (by omega)
            clear hx
            obtain ⟨N0, hN0⟩ : ∃ N0, N0 = numT L0 A i := ⟨_, rfl⟩
            rw [← hN0] at HS hN40 ⊢
            clear hN0
            obtain ⟨wo, rfl⟩ : ∃ wo : World, wo = wr := ⟨_, rfl⟩
            go_wp2
            go_loopw [15, 16] (fun s j wr => ∃ k2 : Nat, k2 ≤ q ∧ j = .int .i64 k2 ∧ s = .bool (topQ g A k2 x) ∧ Fr [] wo wr) (fun _ j _ => q - (intOf j).toNat)
            case atStart => exact ⟨0, Nat.zero_le _, rfl, rfl, .refl _⟩
            case round =>
              as_aux_lemma =>
                obtain ⟨k2, hk2, rfl, rfl, f3⟩ := hrel
                obtain ⟨wi, rfl⟩ : ∃ wi : World, wi = wr := ⟨_, rfl⟩
                by_cases hlt2 : k2 < q
                · obtain ⟨y, hy⟩ : ∃ y, A[k2]? = some y := ⟨_, List.getElem?_eq_getElem (Hq.out ▸ hlt2)⟩
                  have f4 := f2.then f3
                  obtain ⟨b, o, hidx, hcell⟩ := (hA.fr f4).at_ lenDd Hq.out 23 42 Tryz.underlying23 Tryz.sizeOf42 i x Hx.out
                  obtain ⟨b2, o2, hidx2, hcell2⟩ := (hA.fr f4).at_ lenDd Hq.out 23 42 Tryz.underlying23 Tryz.sizeOf42 k2 y hy
                  have c1 : wi.cell? ⟨b, o + 1, none⟩ = some (.string x.name) := hcell 1 _ rfl
                  have c3 : wi.cell? ⟨b, o + 3, none⟩ = some (.string x.id) := hcell 3 _ rfl
                  have d1 : wi.cell? ⟨b2, o2 + 1, none⟩ = some (.string y.name) := hcell2 1 _ rfl
                  have d3 : wi.cell? ⟨b2, o2 + 3, none⟩ = some (.string y.id) := hcell2 3 _ rfl
                  have r0 := f4.cell hRF
                  have hgI := hgF.fr f4
                  have Hs := Lib.hid (topQ_snoc (g := g) x hy)
                  have e1 := beq_dec y.name x.name
                  clear hcell hcell2 hy
                  generalize topQ g A k2 x = D at Hs ⊢
                  generalize decide (y.name = x.name) = D1 at Hs e1
                  go_upto_region 28 with fail
                  cases D
                  case' true => cases D1
                  all_goals
                    refine wp_region_ordX Fr.pre [] (.op 0 2 (.op 1 2 (.op 2 2 (.op 3 2 (.op 4 2 (.op 5 2 (.op 6 0 (.op 7 2 (.op 8 2 (.op 9 2 (.op 10 2 (.op 11 0 (.op 12 2 (.op 13 2 (.op 14 0 (.op 15 2 (.op 16 2 (.op 17 2 (.op 18 2 (.op 19 0 (.op 20 2 (.op 21 2 (.op 22 2 (.op 23 2 (.op 24 0 (.op 25 1 (.op 26 2 (.op 27 2 (.op 28 2 (.op 29 2 .fin)))))))))))))))))))))))))))))) _ (by kernel_rfl) (by kernel_rfl) (by simp only [pickX, List.getElem?_cons_succ, List.getElem?_cons_zero]; rfl) ?_
                    have F := (Fr.refl wi).drew
                    have x_1 := Ext.cell (F.cell c1)
                    have x_2 := Ext.cell (F.cell c3)
                    have x_3 := Ext.cell (F.cell d1)
                    have x_4 := Ext.cell (F.cell d3)
                    have x_5 := Ext.cell (F.cell r0)
                    have hgI := hgI.fr F
                    repeat (first | (with_reducible refine wpX_q (fun K hK => ?_); go_simp; refine hK _ ?_; clear hK K) | (with_reducible refine wpX_p (fun K hK => ?_); go_simp; refine hK _ ?_; clear hK K) | (with_reducible refine wpX_p (fun K hK => ?_); go_simp; rw [if_neg (by simp [undef])]; refine hK _ ?_; clear hK K) | (with_reducible refine wpX_q (fun K hK => ?_); go_simp; rw [if_neg (by simp [undef])]; refine hK _ ?_; clear hK K))
                  case' false => (refine wpX_e (fun K hK => ?_); go_simp; (first | (refine hK _ _ ?_) | (rw [if_neg (by simp [undef])]; refine hK _ _ ?_)); clear hK K)
                  case' true.false => (refine wpX_e (fun K hK => ?_); go_simp; (first | (refine hK _ _ ?_) | (rw [if_neg (by simp [undef])]; refine hK _ _ ?_)); clear hK K)
                  case' true.true =>
                    (refine wpX_e (fun K hK => ?_); go_simp; intro wq hq; have F := F.then hq; have hgI := hgI.fr (hq); refine (aheadN _ g x.id y.id _ hgI (Nat.le_trans hlG.out (by decide)) Hwf.out).mono ?_; rintro e wp ⟨rfl, g1⟩; have hgI := hgI.fr (g1); have F := F.then (g1); refine ⟨_, rfl, (g1), hK _ _ ?_⟩; clear hK K hq; skip)
                  all_goals
                    repeat (first | (with_reducible refine wpX_q (fun K hK => ?_); go_simp; refine hK _ ?_; clear hK K) | (with_reducible refine wpX_p (fun K hK => ?_); go_simp; refine hK _ ?_; clear hK K) | (with_reducible refine wpX_p (fun K hK => ?_); go_simp; rw [if_neg (by simp [undef])]; refine hK _ ?_; clear hK K) | (with_reducible refine wpX_q (fun K hK => ?_); go_simp; rw [if_neg (by simp [undef])]; refine hK _ ?_; clear hK K))
                    refine wpX_nil (fun wz hwz => ?_)
                    clear c1 c3 d1 d3 r0 hgI e1 x_1 x_2 x_3 x_4 x_5 hidx hidx2
                    go_wp2
                    go_roundw
                    case rel => exact ⟨k2 + 1, by omega, by go_num, by rw [Hs.out]; rfl, f3.then (F.then hwz)⟩
                    case measure => simp [intOf]; omega
                · obtain rfl : k2 = q := by omega
                  have hTq : topQ g A k2 x = thereD L0 x := by
                    unfold topQ
                    rw [List.take_of_length_le (by have := Hq.out; omega)]
                    exact HTT.out
                  rw [hTq]
                  clear hTq hlt2 HTT
                  go_wp2
                  go_loopw [17, 18] (fun s j wr => ∃ k3 : Nat, k3 ≤ m ∧ j = .int .i64 k3 ∧ s = .bool (hereR ((L0.map Wr.rw).take k3) x) ∧ Fr [] wi wr) (fun _ j _ => m - (intOf j).toNat)
                  case atStart => exact ⟨0, Nat.zero_le _, rfl, rfl, .refl _⟩
                  case round =>
                    as_aux_lemma =>
                      obtain ⟨k3, hk3, rfl, rfl, f4⟩ := hrel
                      obtain ⟨wj, rfl⟩ : ∃ wj : World, wj = wr := ⟨_, rfl⟩
                      by_cases hlt3 : k3 < m
                      · obtain ⟨z, hz⟩ : ∃ z, (L0.map Wr.rw)[k3]? = some z := ⟨_, List.getElem?_eq_getElem (Hm.out ▸ hlt3)⟩
                        have f5 := (f2.then f3).then f4
                        obtain ⟨b, o, hidx, hcell⟩ := (hA.fr f5).at_ lenDd Hq.out 23 42 Tryz.underlying23 Tryz.sizeOf42 i x Hx.out
                        obtain ⟨b2, o2, hidx2, hcell2⟩ := (hu.fr f5).at_ lenRw Hm.out 35 56 Tryz.underlying35 Tryz.sizeOf56 k3 z hz
                        have c1 : wj.cell? ⟨b, o + 1, none⟩ = some (.string x.name) := hcell 1 _ rfl
                        have c2 : wj.cell? ⟨b, o + 2, none⟩ = some (.string x.text) := hcell 2 _ rfl
                        have c3 : wj.cell? ⟨b, o + 3, none⟩ = some (.string x.id) := hcell 3 _ rfl
                        obtain ⟨-, d1, d2, -, d4, -, -⟩ := cellsRw hcell2
                        have Hs := Lib.hid (hereR_snoc x hz)
                        have e1 := beq_dec z.name x.name
                        have e2 := beq_dec z.id x.id
                        have e3 := beq_dec z.text x.text
                        clear hcell hcell2 hz
                        generalize hereR ((L0.map Wr.rw).take k3) x = D at Hs ⊢
                        generalize decide (z.name = x.name) = D1 at Hs e1
                        generalize decide (z.id = x.id) = D2 at Hs e2
                        generalize decide (z.text = x.text) = D3 at Hs e3
                        go_upto_region 33 with fail
                        cases D
                        case' false => cases D1
                        case' false.true => cases D2
                        case' false.true.true => cases D3
                        all_goals
                          refine wp_region_ordX Fr.pre [] (.op 0 2 (.op 1 2 (.op 2 2 (.op 3 2 (.op 4 2 (.op 5 2 (.op 6 0 (.op 7 2 (.op 8 2 (.op 9 2 (.op 10 2 (.op 11 0 (.op 12 2 (.op 13 2 (.op 14 2 (.op 15 2 (.op 16 2 (.op 17 2 (.op 18 0 (.op 19 2 (.op 20 2 (.op 21 2 (.op 22 2 (.op 23 0 (.op 24 2 (.op 25 2 (.op 26 2 (.op 27 2 (.op 28 2 (.op 29 2 (.op 30 2 (.op 31 0 (.op 32 2 (.op 33 2 (.op 34 2 (.op 35 2 (.op 36 0 (.op 37 2 (.op 38 2 (.op 39 2 (.op 40 2 .fin))))))))))))))))))))))))))))))))))))))))) _ (by kernel_rfl) (by kernel_rfl) (by simp only [pickX, List.getElem?_cons_succ, List.getElem?_cons_zero]; rfl) ?_
                          have F := (Fr.refl wj).drew
                          have x_1 := Ext.cell (F.cell c1)
                          have x_2 := Ext.cell (F.cell c2)
                          have x_3 := Ext.cell (F.cell c3)
                          have x_4 := Ext.cell (F.cell d1)
                          have x_5 := Ext.cell (F.cell d2)
                          have x_6 := Ext.cell (F.cell d4)
                          repeat (first | (with_reducible refine wpX_q (fun K hK => ?_); go_simp; refine hK _ ?_; clear hK K) | (with_reducible refine wpX_p (fun K hK => ?_); go_simp; refine hK _ ?_; clear hK K) | (with_reducible refine wpX_p (fun K hK => ?_); go_simp; rw [if_neg (by simp [undef])]; refine hK _ ?_; clear hK K) | (with_reducible refine wpX_q (fun K hK => ?_); go_simp; rw [if_neg (by simp [undef])]; refine hK _ ?_; clear hK K))
                          refine wpX_nil (fun wz hwz => ?_)
                          clear c1 c2 c3 d1 d2 d4 e1 e2 e3 x_1 x_2 x_3 x_4 x_5 x_6 hidx hidx2
                          go_wp2
                          go_roundw
                          case rel => exact ⟨k3 + 1, by omega, by go_num, by rw [Hs.out]; rfl, f4.then (F.then hwz)⟩
                          case measure => simp [intOf]; omega
                      · obtain rfl : k3 = m := by omega
                        have hTm : hereR ((L0.map Wr.rw).take k3) x = thereD L0 x := by
                          rw [List.take_of_length_le (by have := Hm.out; omega)]
                          exact hereR_eq L0 x
                        rw [hTm]
                        have f5 := (f2.then f3).then f4
                        clear hTm hk3 f4 f3 f2
                        generalize thereD L0 x = D at HS ⊢
                        cases D with
                        | false =>
                          have hS0 : Hid (numT L0 A (i + 1) = N0) := Lib.hid (by rw [HS.out]; rfl)
                          clear HS
                          go_wp2
                          go_roundw
                          case rel => exact ⟨i + 1, by omega, by go_num, by rw [hS0.out], f5⟩
                          case measure => simp [intOf]; omega
                        | true =>
                          have hS1 : Hid (numT L0 A (i + 1) = N0 + 1) := Lib.hid (by rw [HS.out]; rfl)
                          clear HS
                          go_wp2
                          go_roundw
                          case rel => exact ⟨i + 1, by omega, by go_num, by rw [hS1.out]; go_num, f5⟩
                          case measure => simp [intOf]; omega
          · have hN : numT L0 A i = m := by
              have h1 := numT_all HT.out
              have h2 : i = A.length := by have := Hq.out; omega
              rw [h2, h1]; exact HmL.out
            rw [hN]
            have f3 := F4.then f2
            clear hN f2 F4 hA hu hgF hRF
            go_wp2_with (go_at_call 16; refine (awakeV _).mono ?_; rintro e w1 ⟨rfl, f1⟩)
            go_ret
            exact ⟨rfl, f3.then f1⟩
end Go.Proofs.YtppgjglfoibfcaaGreat
