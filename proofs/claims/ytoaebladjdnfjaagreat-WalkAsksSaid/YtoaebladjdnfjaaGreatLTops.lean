import Derived.Test.YtoaebladjdnfjaaGreatLBetween
set_option linter.unusedSimpArgs false
set_option linter.unusedVariables false
/-
  Chapter 18: WalkTops.
-/
namespace Go.Proofs.YtoaebladjdnfjaaGreat
open Go.RowKit

theorem mem_topsL {g : G} (hw : Wf g) (l : List BS) (x : BS) : x ∈ topsL g l ↔ x ∈ l ∧ x ∈ ids g ∧ ∀ y ∈ l, aheadB g x y = false := by
  unfold topsL
  rw [mem_ofL]
  simp only [List.mem_filter, Bool.and_eq_true, decide_eq_true_eq, List.all_eq_true, Bool.not_eq_true']
  exact ⟨fun h => ⟨h.1.1, h.1.2.1, h.1.2.2⟩, fun h => ⟨⟨h.1, h.2.1, h.2.2⟩, hw.right h.2.1⟩⟩
theorem tops_free {g : G} (hw : Wf g) {l : List BS} {x y : BS} (hx : x ∈ topsL g l) (hy : y ∈ topsL g l) : aheadB g x y = false := ((mem_topsL hw l x).1 hx).2.2 y ((mem_topsL hw l y).1 hy).1
theorem top_over {g : G} (hw : Wf g) (l : List BS) (n : Nat) : ∀ y : BS, g.length - depth g y ≤ n → y ∈ l → y ∈ ids g → ∃ t ∈ topsL g l, Reach g t y := by
  induction n with
  | zero =>
    intro y hn hy hi
    refine ⟨y, (mem_topsL hw l y).2 ⟨hy, hi, fun z hz => ?_⟩, .refl y⟩
    cases hb : aheadB g y z with
    | false => rfl
    | true =>
      have := ah_depth hw hb
      have := depth_le g z
      omega
  | succ n ih =>
    intro y hn hy hi
    by_cases h : ∃ z ∈ l, aheadB g y z = true
    · obtain ⟨z, hz, ha⟩ := h
      obtain ⟨h1, h2, h3, h4⟩ := (aheadB_iff hw y z).1 ha
      have hlt := ah_depth hw ha
      have hle := depth_le g z
      obtain ⟨t, ht, hr⟩ := ih z (by omega) hz h3
      exact ⟨t, ht, hr.trans h4⟩
    · refine ⟨y, (mem_topsL hw l y).2 ⟨hy, hi, fun z hz => ?_⟩, .refl y⟩
      cases hb : aheadB g y z with
      | false => rfl
      | true => exact absurd ⟨z, hz, hb⟩ h
theorem past_tops {g : G} (hw : Wf g) (l : List BS) : pastL g (topsL g l) = pastL g l := by
  refine isPast_ext (l := l) ⟨(isPast_pastL hw _).1, fun x => ?_⟩ (isPast_pastL hw l)
  rw [(isPast_pastL hw (topsL g l)).2 x]
  constructor
  · rintro ⟨y, hy, hi, hr⟩
    exact ⟨y, ((mem_topsL hw l y).1 hy).1, hi, hr⟩
  · rintro ⟨y, hy, hi, hr⟩
    obtain ⟨t, ht, hr2⟩ := top_over hw l _ y (Nat.le_refl _) hy hi
    exact ⟨t, ht, ((mem_topsL hw l t).1 ht).2.1, hr2.trans hr⟩
theorem closed_past {g : G} (hw : Wf g) (l : List BS) : closedB g (pastL g l) = true := by
  unfold closedB
  exact decide_eq_true ⟨(isPast_pastL hw l).1, fun x hx => past_ids hw hx, fun x hx p hp => past_closed hw hx hp⟩
theorem tops_of_past {g : G} (hw : Wf g) (l : List BS) : topsL g (pastL g l) = topsL g l := by
  refine sorted_ext (sorted_ofL _) (sorted_ofL _) fun x => ?_
  show x ∈ topsL g (pastL g l) ↔ x ∈ topsL g l
  rw [mem_topsL hw, mem_topsL hw]
  constructor
  · rintro ⟨h1, h2, h3⟩
    obtain ⟨y, hy, hi, hr⟩ := ((isPast_pastL hw l).2 x).1 h1
    have hyp : y ∈ pastL g l := ((isPast_pastL hw l).2 y).2 ⟨y, hy, hi, .refl y⟩
    have hxy : x = y := Decidable.byContradiction fun hne => by
      have := (aheadB_iff hw x y).2 ⟨hne, h2, hi, hr⟩
      rw [h3 y hyp] at this
      cases this
    subst hxy
    refine ⟨hy, h2, fun z hz => ?_⟩
    by_cases hzi : z ∈ ids g
    · exact h3 z (((isPast_pastL hw l).2 z).2 ⟨z, hz, hzi, .refl z⟩)
    · cases hb : aheadB g x z with
      | false => rfl
      | true => exact absurd ((aheadB_iff hw x z).1 hb).2.2.1 hzi
  · rintro ⟨h1, h2, h3⟩
    refine ⟨((isPast_pastL hw l).2 x).2 ⟨x, h1, h2, .refl x⟩, h2, fun z hz => ?_⟩
    cases hb : aheadB g x z with
    | false => rfl
    | true =>
      obtain ⟨k1, k2, k3, k4⟩ := (aheadB_iff hw x z).1 hb
      obtain ⟨y, hy, hi, hr⟩ := ((isPast_pastL hw l).2 z).1 hz
      have hne : x ≠ y := fun e => by
        subst e
        have d1 := reach_depth hw hr
        have d2 := ah_depth hw hb
        omega
      have := (aheadB_iff hw x y).2 ⟨hne, k2, hi, hr.trans k4⟩
      rw [h3 y hy] at this
      cases this
theorem tops_len (g : G) (l : List BS) : (topsL g l).length ≤ l.length := Nat.le_trans (length_ofL _) (List.length_filter_le _ _)

set_option maxRecDepth 100000 in
set_option maxHeartbeats 4000000 in
theorem walkTops5 (v lv : Value) (L : List Nd) (l : List BS) (w : World) (hs : Nodes w v L) (ha : Strs w lv l) :
    Calls Tryz.prog 5 #[v, lv] w fun e w' => e = .returned (.bool true) ∧ Fr [] w w' := by
  obtain ⟨a, c, rfl, hc, hm, hn⟩ := hs.form
  obtain ⟨aa, ac, rfl, hac, ham, han⟩ := ha.form
  have CF := fewW _ _ _ _ _ _ _ hs ha (Strs.nil w)
  cases hB : fewB L l [] with
  | false =>
    rw [hB] at CF
    have CF := Lib.hid CF
    clear hB
    go_enter Tryz.func5, Tryz.ntmps5
    go_wp2_with (first
      | (go_at_call 7; refine CF.out.mono ?_; rintro e w0 ⟨rfl, f0⟩)
      | (go_at_call 8; refine (awakeW _).mono ?_; rintro e w1 ⟨rfl, f1⟩))
    go_ret
    exact ⟨rfl, f0.then f1⟩
  | true =>
    rw [hB] at CF
    have CF := Lib.hid CF
    obtain ⟨hF, hA, hA2⟩ := fewB_parts hB
    have HF := Lib.hid hF
    clear hF hB
    go_enter Tryz.func5, Tryz.ntmps5
    go_upto_region 4 with (first
      | (go_at_call 7; refine CF.out.mono ?_; rintro e w0 ⟨rfl, f0⟩)
      | (go_at_call 9; refine (make14 _ _ _ (hs.fr f0) (Nat.le_trans HF.out.1 (by decide))).mono ?_; rintro e w1 ⟨dv, mN, mH, gv, rfl, hd, -, -, hg, f1⟩; obtain ⟨db, rfl⟩ := hd.ptr; obtain ⟨ga, gc, rfl, _⟩ := hg.form))
    have f2 := (Fr.refl w1).alloc (.cells #[.slice ga (makeG L).length gc] 29)
    have hd := (hd.fr f2 (by simp) (by simp)).r
    have F := (f0.then f1).then f2
    obtain ⟨R, hRR⟩ : ∃ R, R = w1.heap.size := ⟨_, rfl⟩
    rw [← hRR]
    clear hRR
    generalize w1.alloc (.cells #[.slice ga (makeG L).length gc] 29) = wS at hd F ⊢
    clear f0 f1 f2 CF hg
    have hlG := Lib.hid (len_makeF HF.out)
    have hwf := wf_makeG L
    have ha := ha.fr F
    clear HF
    generalize makeG L = g at hd hlG hwf ⊢
    have Hwf := Lib.hid hwf; clear hwf
    have HL1 := Lib.hid (Nat.le_trans hlG.out (by decide : 30 ≤ 10000))
    have HL2 := Lib.hid (Nat.le_trans hlG.out (by decide : 30 ≤ 4096))
    have HP := Lib.hid (Nat.le_trans (past_len Hwf.out l) (Nat.le_trans hlG.out (by decide : 30 ≤ 1000000)))
    have HA := Lib.hid (Nat.le_trans hA (by decide : 20 ≤ 1000000))
    have hT20 := Nat.le_trans (tops_len g l) hA
    clear hA hA2
    go_upto_region 5 with (go_at_call 17; refine (topsD _ _ _ _ _ hd ha HA.out Hwf.out HL2.out).mono ?_; rintro e w2 ⟨u, rfl, ht, f⟩; obtain ⟨ta, tc, rfl, htc, htm, htn⟩ := ht.form; have hd := hd.fr f; have ha := ha.fr f; have F := F.then f; clear f)
    obtain ⟨tl, htl⟩ : ∃ t, t = topsL g l := ⟨_, rfl⟩
    have Hfree : Hid (∀ {x y : BS}, x ∈ tl → y ∈ tl → aheadB g x y = false) := Lib.hid (by rw [htl]; exact fun h k => tops_free Hwf.out h k)
    have Hpt : Hid (pastL g tl = pastL g l) := Lib.hid (by rw [htl]; exact past_tops Hwf.out l)
    have Htp : Hid (topsL g (pastL g l) = tl) := Lib.hid (by rw [htl]; exact tops_of_past Hwf.out l)
    rw [← htl] at ht htc htn hT20 ⊢
    clear htl
    obtain ⟨n, hnx⟩ : ∃ n, n = tl.length := ⟨_, rfl⟩
    rw [← hnx] at ht htc htn hT20 ⊢
    have Hn := Lib.hid hnx; clear hnx
    go_wp2
    go_loopw [8] (fun i wr => ∃ k : Nat, k ≤ n ∧ i = .int .i64 k ∧ Fr [] w2 wr) (fun i _ => n - (intOf i).toNat)
    case atStart => exact ⟨0, Nat.zero_le _, rfl, .refl _⟩
    case round =>
      obtain ⟨k, hk, rfl, hf⟩ := hrel
      by_cases hlt : k < n
      · obtain ⟨x, hx⟩ : ∃ x, tl[k]? = some x := ⟨_, List.getElem?_eq_getElem (Hn.out ▸ hlt)⟩
        have Hx := Lib.hid hx; clear hx
        obtain ⟨wo, rfl⟩ : ∃ wo : World, wo = wr := ⟨_, rfl⟩
        go_wp2
        go_loopw [9] (fun i wr => ∃ q : Nat, q ≤ n ∧ i = .int .i64 q ∧ Fr [] wo wr) (fun i _ => n - (intOf i).toNat)
        case atStart => exact ⟨0, Nat.zero_le _, rfl, .refl _⟩
        case round =>
          obtain ⟨q, hq, rfl, hf2⟩ := hrel
          by_cases hlt2 : q < n
          · obtain ⟨y, hy⟩ : ∃ x, tl[q]? = some x := ⟨_, List.getElem?_eq_getElem (Hn.out ▸ hlt2)⟩
            have Hy := Lib.hid hy; clear hy
            have F1 := hf.then hf2
            have hd := hd.fr F1
            have ht := ht.fr F1
            obtain ⟨b, o, hidx, hcell0⟩ := ht.at_ Hn.out 23 9 Tryz.underlying23 Tryz.sizeOf9 k x Hx.out
            obtain ⟨b2, o2, hidx2, hcell2⟩ := ht.at_ Hn.out 23 9 Tryz.underlying23 Tryz.sizeOf9 q y Hy.out
            have Hab := Lib.hid (Hfree.out (List.mem_of_getElem? Hx.out) (List.mem_of_getElem? Hy.out))
            go_upto_region 11 with fail
            refine wp_region_ordX Fr.pre [] (.op 0 2 (.op 1 2 (.op 2 2 (.op 3 2 (.op 4 0 (.op 5 2 (.op 6 2 (.op 7 2 (.op 8 0 (.op 9 1 .fin)))))))))) _ (by kernel_rfl) (by kernel_rfl) (by simp only [pickX, List.getElem?_cons_succ, List.getElem?_cons_zero]; rfl) ?_
            have F := (Fr.refl wr).drew
            have hd := hd.fr F
            have x_1 := Ext.cell (F.cell hcell0)
            have x_2 := Ext.cell (F.cell hcell2)
            repeat (first | (with_reducible refine wpX_q (fun K hK => ?_); go_simp; refine hK _ ?_; clear hK K) | (with_reducible refine wpX_p (fun K hK => ?_); go_simp; refine hK _ ?_; clear hK K) | (with_reducible refine wpX_p (fun K hK => ?_); go_simp; rw [if_neg (by simp [undef])]; refine hK _ ?_; clear hK K) | (with_reducible refine wpX_q (fun K hK => ?_); go_simp; rw [if_neg (by simp [undef])]; refine hK _ ?_; clear hK K))
            (refine wpX_e (fun K hK => ?_); go_simp; intro wq hq; have F := F.then hq; have hd := hd.fr (hq); refine (aheadV Hab.out hd Hwf.out HL1.out).mono ?_; rintro e wp ⟨rfl, g1⟩; have hd := hd.fr (g1); have F := F.then (g1); refine ⟨_, rfl, (g1), hK _ _ ?_⟩; clear hK K hq; skip)
            clear x_1 x_2
            repeat (first | (with_reducible refine wpX_q (fun K hK => ?_); go_simp; refine hK _ ?_; clear hK K) | (with_reducible refine wpX_p (fun K hK => ?_); go_simp; refine hK _ ?_; clear hK K) | (with_reducible refine wpX_p (fun K hK => ?_); go_simp; rw [if_neg (by simp [undef])]; refine hK _ ?_; clear hK K) | (with_reducible refine wpX_q (fun K hK => ?_); go_simp; rw [if_neg (by simp [undef])]; refine hK _ ?_; clear hK K))
            refine wpX_nil (fun w7 hw7 => ?_)
            clear hcell0 hcell2 hidx hidx2
            go_wp2
            go_roundw
            case rel => exact ⟨q + 1, by omega, by go_num, hf2.then (F.then hw7)⟩
            case measure => simp [intOf]; omega
          · go_wp2
            go_roundw
            case rel => exact ⟨k + 1, by omega, by go_num, hf.then hf2⟩
            case measure => simp [intOf]; omega
      · have hd := hd.fr hf
        have ha := ha.fr hf
        have ht := ht.fr hf
        have F := F.then hf
        clear hf
        go_wp2_with (first
          | (go_at_call 23; (with_reducible refine (pastD _ _ _ _ _ hd Hwf.out ha HL1.out).mono ?_); rintro e wx ⟨u1, rfl, hu1, f⟩; obtain ⟨ua1, uc1, rfl, _⟩ := hu1.form; have hd := hd.fr f; have ht := ht.fr f; have F := F.then f; clear f ha)
          | (go_at_call 23; (with_reducible refine (pastD _ _ _ _ _ hd Hwf.out ht HL1.out).mono ?_); rintro e wx ⟨u2, rfl, hu2, f⟩; rw [Hpt.out] at hu2; obtain ⟨ua2, uc2, rfl, _⟩ := hu2.form; have hd := hd.fr f; have ht := ht.fr f; have hu1 := hu1.fr f; have F := F.then f; clear f)
          | (go_at_call 10; (with_reducible refine (textsT _ _ _ _ _ hu2 hu1 rfl).mono ?_); rintro e wx ⟨rfl, f⟩; have hd := hd.fr f; have ht := ht.fr f; have hu1 := hu1.fr f; have F := F.then f; clear f)
          | (go_at_call 19; (with_reducible refine (closedD _ _ _ _ _ hd hu1 HP.out Hwf.out HL2.out).mono ?_); rintro e wx ⟨he, f⟩; rw [closed_past Hwf.out] at he; subst he; have hd := hd.fr f; have ht := ht.fr f; have hu1 := hu1.fr f; have F := F.then f; clear f)
          | (go_at_call 17; (with_reducible refine (topsD _ _ _ _ _ hd hu1 HP.out Hwf.out HL2.out).mono ?_); rintro e wx ⟨u3, rfl, hu3, f⟩; rw [Htp.out] at hu3; obtain ⟨ua3, uc3, rfl⟩ := hu3.formN n Hn.out.symm; have ht := ht.fr f; have F := F.then f; clear f)
          | (go_at_call 10; (with_reducible refine (textsT _ _ _ _ _ hu3 ht rfl).mono ?_); rintro e wx ⟨rfl, f⟩; have F := F.then f; clear f)
          | (go_at_call 8; (with_reducible refine (awakeW _).mono ?_); rintro e wx ⟨rfl, f⟩; have F := F.then f; clear f))
        go_ret
        exact ⟨rfl, F⟩
end Go.Proofs.YtoaebladjdnfjaaGreat
