import Derived.Test.YtoaebladjdnfjaaGreatWAwake
set_option linter.unusedSimpArgs false
set_option linter.unusedVariables false
/-
  Chapter 18: WalkBetween.
-/
namespace Go.Proofs.YtoaebladjdnfjaaGreat
open Go.RowKit

theorem past_ids {g : G} (hw : Wf g) {l : List BS} {x : BS} (h : x ∈ pastL g l) : x ∈ ids g := by
  obtain ⟨y, hy, hyi, hr⟩ := ((isPast_pastL hw l).2 x).1 h
  cases hr with
  | refl => exact hyi
  | step hp r =>
    rcases (Reach.step hp r).last with rfl | ⟨z, _, hz⟩
    · exact hyi
    · exact preds_in hw hz
theorem past_app {g : G} (hw : Wf g) (a b : List BS) (x : BS) : x ∈ pastL g (a ++ b) ↔ x ∈ pastL g a ∨ x ∈ pastL g b := by
  rw [(isPast_pastL hw (a ++ b)).2 x, (isPast_pastL hw a).2 x, (isPast_pastL hw b).2 x]
  constructor
  · rintro ⟨y, hy, h⟩
    rcases List.mem_append.1 hy with hy | hy
    · exact .inl ⟨y, hy, h⟩
    · exact .inr ⟨y, hy, h⟩
  · rintro (⟨y, hy, h⟩ | ⟨y, hy, h⟩)
    · exact ⟨y, List.mem_append_left _ hy, h⟩
    · exact ⟨y, List.mem_append_right _ hy, h⟩
theorem betw_mem {g : G} (hw : Wf g) (a b : List BS) (x : BS) : x ∈ betwL g a b ↔ x ∈ pastL g b ∧ x ∉ pastL g a := by
  unfold betwL
  simp only [List.mem_filter, Bool.and_eq_true, decide_eq_true_eq, Bool.not_eq_true', decide_eq_false_iff_not]
  exact ⟨fun h => h.2, fun h => ⟨((isOrder_ordL hw).2 x).2 (past_ids hw h.1), h⟩⟩
theorem betw_union {g : G} (hw : Wf g) (a b : List BS) : ofL (pastL g a ++ betwL g a b) = pastL g (a ++ b) := by
  refine sorted_ext (sorted_ofL _) (sorted_ofL _) fun x => ?_
  show x ∈ ofL _ ↔ x ∈ pastL g (a ++ b)
  rw [mem_ofL, List.mem_append, betw_mem hw, past_app hw]
  constructor
  · rintro ⟨h | h, _⟩
    · exact .inl h
    · exact .inr h.1
  · intro h
    refine ⟨?_, hw.right (h.elim (past_ids hw) (past_ids hw))⟩
    by_cases ha : x ∈ pastL g a
    · exact .inl ha
    · exact .inr ⟨h.resolve_left ha, ha⟩
theorem betw_meet {g : G} (hw : Wf g) (a b : List BS) : meetL (pastL g a) (betwL g a b) = [] := by
  unfold meetL
  rw [List.filter_eq_nil_iff.2 fun x hx => by simp [betw_mem hw, hx]]
  rfl
theorem betw_self (g : G) (b : List BS) : betwL g b b = [] := by
  unfold betwL
  exact List.filter_eq_nil_iff.2 fun x _ => by simp
theorem betw_len {g : G} (hw : Wf g) (a b : List BS) : (betwL g a b).length ≤ g.length := Nat.le_trans (List.length_filter_le _ _) (Nat.le_of_eq (length_order hw))

set_option maxRecDepth 100000 in
set_option maxHeartbeats 1000000 in
theorem union24 (v u : Value) (xs ys : List BS) (w : World) (hx : Strs w v xs) (hy : Strs w u ys) (hxl : xs.length ≤ 400000) (hyl : ys.length ≤ 400000) :
    Calls Tryz.prog 24 #[v, u] w fun e w' => ∃ z, e = .returned z ∧ Strs w' z (ofL (xs ++ ys)) ∧ Fr [] w w' := by
  obtain ⟨a, c, rfl, _⟩ := hx.form
  obtain ⟨a2, c2, rfl, _⟩ := hy.form
  have f0 := (Fr.refl w).alloc (.cells #[] 9)
  go_enter Tryz.func24, Tryz.ntmps24
  go_wp2_with (first
    | (at_builtin; refine wpList_appS rfl (.tmp 5) (.tmp 6) rfl _ _ [] rfl (own_empty w) _ _ rfl (hx.fr f0) (by simp; omega) (by simp) ?_; intro v1 w1 hown1 hg1 hat1; have f1 := f0.grown hg1 (fun j hj => by cases hj; exact Nat.le_refl _))
    | (at_builtin; refine wpList_appS rfl (.tmp 7) (.tmp 8) rfl _ _ _ rfl hown1 _ _ rfl (hy.fr f1) (by simp; omega) (f1.size) ?_; intro v2 w2 hown2 hg2 hat2; have f2 := f1.grown hg2 (own_base0 hown1))
    | (go_at_call 43; refine (of04 _ _ _ (Strs.of_own hown2 (by simp; omega)) (by simp; omega)).mono ?_; rintro e w3 ⟨z, rfl, hz, f3⟩))
  go_ret
  exact ⟨_, rfl, by simpa using hz, f2.then f3⟩

set_option maxRecDepth 100000 in
set_option maxHeartbeats 4000000 in
theorem walkBetween4 (v av bv : Value) (L : List Nd) (la lb : List BS) (w : World) (hs : Nodes w v L) (ha : Strs w av la) (hb : Strs w bv lb) :
    Calls Tryz.prog 4 #[v, av, bv] w fun e w' => e = .returned (.bool true) ∧ Fr [] w w' := by
  obtain ⟨a, c, rfl, hc, hm, hn⟩ := hs.form
  obtain ⟨aa, ac, rfl, hac, ham, han⟩ := ha.form
  obtain ⟨ba, bc, rfl, hbc, hbm, hbn⟩ := hb.form
  have CF := fewW _ _ _ _ _ _ _ hs ha hb
  cases hB : fewB L la lb with
  | false =>
    rw [hB] at CF
    have CF := Lib.hid CF
    clear hB
    go_enter Tryz.func4, Tryz.ntmps4
    go_wp2_with (first
      | (go_at_call 7; refine CF.out.mono ?_; rintro e w0 ⟨rfl, f0⟩)
      | (go_at_call 8; refine (awakeW _).mono ?_; rintro e w1 ⟨rfl, f1⟩))
    go_ret
    exact ⟨rfl, f0.then f1⟩
  | true =>
    rw [hB] at CF
    have CF := Lib.hid CF
    obtain ⟨hF, hA, hA2⟩ := fewB_parts hB
    have HF := Lib.hid hF
    clear hF hB
    go_enter Tryz.func4, Tryz.ntmps4
    go_upto_region 4 with (first
      | (go_at_call 7; refine CF.out.mono ?_; rintro e w0 ⟨rfl, f0⟩)
      | (go_at_call 9; refine (make14 _ _ _ (hs.fr f0) (Nat.le_trans HF.out.1 (by decide))).mono ?_; rintro e w1 ⟨dv, mN, mH, gv, rfl, hd, -, -, hg, f1⟩; obtain ⟨db, rfl⟩ := hd.ptr; obtain ⟨ga, gc, rfl, _⟩ := hg.form))
    have f2 := (Fr.refl w1).alloc (.cells #[.slice ga (makeG L).length gc] 29)
    have hd := (hd.fr f2 (by simp) (by simp)).r
    have F := (f0.then f1).then f2
    obtain ⟨R, hRR⟩ : ∃ R, R = w1.heap.size := ⟨_, rfl⟩
    rw [← hRR]
    clear hRR
    generalize w1.alloc (.cells #[.slice ga (makeG L).length gc] 29) = wS at hd F ⊢
    clear f0 f1 f2 CF hg
    have hlG := Lib.hid (len_makeF HF.out)
    have hwf := wf_makeG L
    have ha := ha.fr F
    have hb := hb.fr F
    clear HF
    generalize makeG L = g at hd hlG hwf ⊢
    have Hwf := Lib.hid hwf; clear hwf
    have HL1 := Lib.hid (Nat.le_trans hlG.out (by decide : 30 ≤ 10000))
    have HL2 := Lib.hid (Nat.le_trans hlG.out (by decide : 30 ≤ 4096))
    have HP := Lib.hid (Nat.le_trans (past_len Hwf.out la) (Nat.le_trans hlG.out (by decide : 30 ≤ 400000)))
    have HQ := Lib.hid (Nat.le_trans (betw_len Hwf.out la lb) (Nat.le_trans hlG.out (by decide : 30 ≤ 400000)))
    have HA := Lib.hid hA
    have HA2 := Lib.hid hA2
    clear hA hA2
    go_wp2_with (first
      | (go_at_call 23; (with_reducible refine (pastD _ _ _ _ _ hd Hwf.out ha HL1.out).mono ?_); rintro e wx ⟨u1, rfl, hu1, f⟩; obtain ⟨ua1, uc1, rfl, _⟩ := hu1.form; have hd := hd.fr f; have ha := ha.fr f; have hb := hb.fr f; have F := F.then f; clear f)
      | (go_at_call 13; (with_reducible refine (betweenD _ _ _ _ _ _ _ hd ha hb Hwf.out HL2.out).mono ?_); rintro e wx ⟨u2, rfl, hu2, f⟩; obtain ⟨ua2, uc2, rfl, _⟩ := hu2.form; have hd := hd.fr f; have ha := ha.fr f; have hb := hb.fr f; have hu1 := hu1.fr f; have F := F.then f; clear f)
      | (go_at_call 24; (with_reducible refine (union24 _ _ _ _ _ hu1 hu2 HP.out HQ.out).mono ?_); rintro e wU ⟨z, rfl, hz, f⟩; obtain ⟨za, zc, rfl, _⟩ := hz.form; have g0 := (Fr.refl wU).alloc (.cells #[] 9); have hd := hd.fr f; have ha := ha.fr f; have hb := hb.fr f; have hu1 := hu1.fr f; have hu2 := hu2.fr f; have F := F.then f; clear f)
      | (at_builtin; refine wpList_appS rfl (.tmp 33) (.tmp 34) rfl _ _ [] rfl (own_empty wU) _ _ rfl (ha.fr g0) (by have := HA.out; simp; omega) (by simp) ?_; intro v1 w1 hown1 hg1 hat1; have f1 := g0.grown hg1 (fun j hj => by cases hj; exact Nat.le_refl _))
      | (at_builtin; refine wpList_appS rfl (.tmp 35) (.tmp 36) rfl _ _ _ rfl hown1 _ _ rfl (hb.fr f1) (by have := HA.out; have := HA2.out; simp; omega) (f1.size) ?_; intro v2 w2 hown2 hg2 hat2; have f2 := f1.grown hg2 (own_base0 hown1))
      | (go_at_call 23; (with_reducible refine (pastD _ _ _ _ _ (hd.fr f2) Hwf.out (Strs.of_own hown2 (by have := HA.out; have := HA2.out; simp; omega)) HL1.out).mono ?_); rintro e wx ⟨u3, rfl, hu3, f⟩; rw [List.nil_append] at hu3; obtain ⟨ua3, uc3, rfl, _⟩ := hu3.form; have hd := (hd.fr f2).fr f; have hb := (hb.fr f2).fr f; have hu1 := (hu1.fr f2).fr f; have hu2 := (hu2.fr f2).fr f; have hz := (hz.fr f2).fr f; have F := (F.then f2).then f; clear f)
      | (go_at_call 10; (with_reducible refine (textsT _ _ _ _ _ hz hu3 (betw_union Hwf.out la lb)).mono ?_); rintro e wx ⟨rfl, f⟩; have hd := hd.fr f; have hb := hb.fr f; have hu1 := hu1.fr f; have hu2 := hu2.fr f; have F := F.then f; clear f)
      | (go_at_call 25; (with_reducible refine (meet25 _ _ _ _ _ hu1 hu2 (Nat.le_trans HP.out (by decide))).mono ?_); rintro e wx ⟨u4, rfl, hu4, f⟩; rw [betw_meet Hwf.out] at hu4; obtain ⟨ua4, uc4, rfl⟩ := hu4.formN 0 rfl; have hd := hd.fr f; have hb := hb.fr f; have F := F.then f; clear f)
      | (go_at_call 13; (with_reducible refine (betweenD _ _ _ _ _ _ _ hd hb hb Hwf.out HL2.out).mono ?_); rintro e wx ⟨u5, rfl, hu5, f⟩; rw [betw_self] at hu5; obtain ⟨ua5, uc5, rfl⟩ := hu5.formN 0 rfl; have F := F.then f; clear f)
      | (go_at_call 8; (with_reducible refine (awakeW _).mono ?_); rintro e wx ⟨rfl, f⟩; have F := F.then f; clear f))
    go_ret
    exact ⟨rfl, F⟩
end Go.Proofs.YtoaebladjdnfjaaGreat
