import Derived.Test.YtnebdfpjjpbolaaLOrder
set_option linter.unusedSimpArgs false
set_option linter.unusedVariables false
/-
  The law DagAhead, walked.
-/
namespace Go.Proofs.Ytnebdfpjjpbolaa
open Go.RowKit

theorem ah_self (g : G) (a : BS) : aheadB g a a = false := by unfold aheadB; simp
theorem ah_depth {g : G} (hw : Wf g) {a b : BS} (h : aheadB g a b = true) : depth g a < depth g b := by
  obtain ⟨h1, h2, h3, h4⟩ := (aheadB_iff hw a b).1 h
  exact reach_depth_lt hw h4 (Ne.symm h1)
theorem ah_not {g : G} (hw : Wf g) {a b : BS} (h : aheadB g a b = true) : aheadB g b a = false := by
  cases hb : aheadB g b a with
  | false => rfl
  | true => have h1 := ah_depth hw h; have h2 := ah_depth hw hb; omega
theorem ah_trans {g : G} (hw : Wf g) {a b p : BS} (hp : p ∈ preds g b) (h : aheadB g a p = true) : aheadB g a b = true := by
  have h5 := ah_depth hw h
  have h6 := depth_pred hw hp
  obtain ⟨h1, h2, h3, h4⟩ := (aheadB_iff hw a p).1 h
  rw [aheadB_iff hw]
  refine ⟨fun e => by subst e; omega, h2, ?_, .step hp h4⟩
  obtain ⟨i, n, hi, hn, _, _⟩ := mem_preds hw hp
  exact hn ▸ List.mem_map.2 ⟨n, List.mem_of_getElem? hi, rfl⟩
theorem ah_pred {g : G} (hw : Wf g) {b p : BS} (hp : p ∈ preds g b) : aheadB g p b = true := by
  have h6 := depth_pred hw hp
  rw [aheadB_iff hw]
  refine ⟨fun e => by subst e; omega, preds_in hw hp, ?_, .step hp (.refl p)⟩
  obtain ⟨i, n, hi, hn, _, _⟩ := mem_preds hw hp
  exact hn ▸ List.mem_map.2 ⟨n, List.mem_of_getElem? hi, rfl⟩
theorem past_closed {g : G} (hw : Wf g) {l : List BS} {x p : BS} (hx : x ∈ pastL g l) (hp : p ∈ preds g x) : p ∈ pastL g l := by
  have h := (isPast_pastL hw l).2
  obtain ⟨y, hy, hyi, hr⟩ := (h x).1 hx
  exact (h p).2 ⟨y, hy, hyi, hr.snoc hp⟩
theorem past_len {g : G} (hw : Wf g) (l : List BS) : (pastL g l).length ≤ g.length := by
  rw [← length_ids]
  refine nodup_len _ _ (sorted_nodup (isPast_pastL hw l).1.2) fun x hx => ?_
  obtain ⟨y, hy, hyi, hr⟩ := ((isPast_pastL hw l).2 x).1 hx
  exact reach_in hw hr hyi
theorem aheadV {v : Value} {a b : BS} {g : G} {w : World} {r : Bool} (h : aheadB g a b = r) (hd : DagR w v g) (hw : Wf g) (hl : g.length ≤ 10000) :
    Calls Try.prog 26 #[v, .string a, .string b] w fun e w' => e = .returned (.bool r) ∧ Fr [] w w' := h ▸ aheadD v a b g w hd hw hl
theorem less_none {xs ys : List BS} (h : ∀ x ∈ xs, x ∈ ys) : ofL (xs.filter fun x => decide (x ∉ ys)) = [] := by
  have : xs.filter (fun x => decide (x ∉ ys)) = [] := by rw [List.filter_eq_nil_iff]; intro x hx; simp [h x hx]
  rw [this]; rfl
theorem lessE {v v2 : Value} {xs ys : List BS} {w : World} (hs : Strs w v xs) (hs2 : Strs w v2 ys) (hl : xs.length ≤ 1000000) (h : ∀ x ∈ xs, x ∈ ys) :
    Calls Try.prog 31 #[v, v2] w fun e w' => ∃ u, e = .returned u ∧ Strs w' u [] ∧ Fr [] w w' := by
  have := less04 v v2 xs ys w hs hs2 hl
  rwa [less_none h] at this

set_option maxRecDepth 100000 in
set_option maxHeartbeats 4000000 in
theorem dagAhead6 (v av : Value) (L : List Nd) (l : List BS) (w : World) (hs : Nodes w v L) (ha : Strs w av l) :
    Calls Try.prog 6 #[v, av] w fun e w' => e = .returned (.bool true) ∧ Fr [] w w' := by
  obtain ⟨a, c, rfl, hc, hm, hn⟩ := hs.form
  obtain ⟨aa, ac, rfl, hac, ham, han⟩ := ha.form
  have hnw := nodes_new w _ l ha
  have f0 := (Fr.refl w).alloc (.cells #[.string ⟨#[]⟩, .slice aa l.length ac] 35)
  by_cases hF : Few L
  · have HF := Lib.hid hF; clear hF
    by_cases hA : l.length ≤ 10
    · have hd1 : decide ((10 : Int) < (l.length : Int)) = false := decide_eq_false (by omega)
      have hd2 : decide (10 < l.length) = false := decide_eq_false (by omega)
      by_cases hP : FewA l
      · have HP := Lib.hid hP; clear hP
        go_enter Try.func6, Try.ntmps6
        go_upto_region 6 with (first
          | (go_at_call 9; (with_reducible refine (fewT hs HF.out).mono ?_); rintro e wx ⟨rfl, rfl⟩)
          | (go_at_call 9; (with_reducible refine (fewT hnw HP.out).mono ?_); rintro e wx ⟨rfl, rfl⟩)
          | (go_at_call 14; refine (make14 _ _ _ (hs.fr f0) (Nat.le_trans HF.out.1 (by decide))).mono ?_; rintro e w1 ⟨dv, mN, mH, gv, rfl, hd, -, -, hg, f1⟩; obtain ⟨db, rfl⟩ := hd.ptr; obtain ⟨ga, gc, rfl, _⟩ := hg.form))
        have f2 := (Fr.refl w1).alloc (.cells #[.slice ga (makeG L).length gc] 27)
        have hd := (hd.fr f2 (by simp) (by simp)).r
        have F := (f0.then f1).then f2
        generalize w1.alloc (.cells #[.slice ga (makeG L).length gc] 27) = wS at hd F ⊢
        clear f0 f1 f2 hnw hg
        have hlG := Lib.hid (len_makeF HF.out)
        have hwf := wf_makeG L
        have ha := ha.fr F
        have hs := hs.fr F
        have hl1 : (makeG L).length ≤ 10000 := by have := hlG.out; omega
        generalize makeG L = g at hd hlG hwf hl1 ⊢
        have Hwf := Lib.hid hwf; clear hwf
        have HL1 := Lib.hid hl1; clear hl1
        obtain ⟨n, hnx⟩ : ∃ n, n = L.length := ⟨_, rfl⟩
        have hn30 : n ≤ 30 := by have := HF.out.1; omega
        rw [← hnx] at hs hc hn ⊢
        have Hn := Lib.hid hnx; clear hnx hd1 hd2
        go_wp2
        go_loopw [7] (fun i wr => ∃ k : Nat, k ≤ n ∧ i = .int .i64 k ∧ Fr [] wS wr) (fun i _ => n - (intOf i).toNat)
        case atStart => exact ⟨0, Nat.zero_le _, rfl, .refl _⟩
        case round =>
          obtain ⟨k, hk, rfl, hf⟩ := hrel
          by_cases hlt : k < n
          · obtain ⟨x, hx⟩ : ∃ x, L[k]? = some x := ⟨_, List.getElem?_eq_getElem (Hn.out ▸ hlt)⟩
            have Hx := Lib.hid hx; clear hx
            obtain ⟨wo, rfl⟩ : ∃ wo : World, wo = wr := ⟨_, rfl⟩
            go_wp2
            go_loopw [8] (fun i wr => ∃ q : Nat, q ≤ n ∧ i = .int .i64 q ∧ Fr [] wo wr) (fun i _ => n - (intOf i).toNat)
            case atStart => exact ⟨0, Nat.zero_le _, rfl, .refl _⟩
            case round =>
              obtain ⟨q, hq, rfl, hf2⟩ := hrel
              by_cases hlt2 : q < n
              · obtain ⟨y, hy⟩ : ∃ x, L[q]? = some x := ⟨_, List.getElem?_eq_getElem (Hn.out ▸ hlt2)⟩
                have Hy := Lib.hid hy; clear hy
                have F1 := hf.then hf2
                have hd := hd.fr F1
                have hs := hs.fr F1
                obtain ⟨b, o, pv, hidx, hcell0, -, -⟩ := hs.at_ Hn.out 22 35 Try.underlying22 Try.sizeOf35 k x Hx.out
                obtain ⟨b2, o2, pv2, hidx2, hcell2, -, -⟩ := hs.at_ Hn.out 22 35 Try.underlying22 Try.sizeOf35 q y Hy.out
                obtain ⟨xa, hxa⟩ : ∃ s, s = x.id := ⟨_, rfl⟩
                obtain ⟨yb, hyb⟩ : ∃ s, s = y.id := ⟨_, rfl⟩
                rw [← hxa] at hcell0
                rw [← hyb] at hcell2
                clear hxa hyb
                go_upto_region 12 with fail
                refine wp_region_ordX Fr.pre [] (.op 0 2 (.op 1 2 (.op 2 2 (.op 3 2 (.op 4 0 (.op 5 2 (.op 6 2 (.op 7 2 (.op 8 2 (.op 9 0 (.op 10 2 (.op 11 2 .fin)))))))))))) _ (by kernel_rfl) (by kernel_rfl) (by simp only [pickX, List.getElem?_cons_succ, List.getElem?_cons_zero]; rfl) ?_
                have F := (Fr.refl wr).drew
                have x_1 := Ext.cell (F.cell hcell0)
                have x_2 := Ext.cell (F.cell hcell2)
                repeat (first | (with_reducible refine wpX_q (fun K hK => ?_); go_simp; refine hK _ ?_; clear hK K) | (with_reducible refine wpX_p (fun K hK => ?_); go_simp; refine hK _ ?_; clear hK K))
                refine wpX_nil (fun w7 hw7 => ?_)
                have F := F.then hw7
                have hd := hd.fr F
                have F2 := hf2.then F
                clear hcell0 hcell2 x_1 x_2 hidx hidx2 hw7 hs F
                have H3 : ((xa.toList == yb.toList) = true ∧ aheadB g xa yb = false) ∨ ((xa.toList == yb.toList) = false ∧ aheadB g xa yb = true) ∨ ((xa.toList == yb.toList) = false ∧ aheadB g xa yb = false) := by
                  by_cases e : xa = yb
                  · exact .inl ⟨beq_tt e, by rw [e]; exact ah_self _ _⟩
                  · cases hab : aheadB g xa yb with
                    | true => exact .inr (.inl ⟨beq_ff e, rfl⟩)
                    | false => exact .inr (.inr ⟨beq_ff e, rfl⟩)
                rcases H3 with ⟨hbq, hab⟩ | ⟨hbq, hab⟩ | ⟨hbq, hab⟩
                case' inl => have hgt : True := trivial
                case' inr.inl =>
                  have hba := Lib.hid (ah_not Hwf.out hab)
                  have hgt : decide (depth g yb ≤ depth g xa) = false := decide_eq_false (by have := ah_depth Hwf.out hab; omega)
                  have hgt2 : decide ((depth g yb : Int) ≤ (depth g xa : Int)) = false := decide_eq_false (by have := ah_depth Hwf.out hab; omega)
                case' inr.inr => have hgt : True := trivial
                all_goals
                  have Hab := Lib.hid hab
                  clear hab
                  have F := Fr.refl w7
                  go_upto_region 15 with (first
                    | (go_at_call 26; (with_reducible refine (aheadV Hab.out hd Hwf.out HL1.out).mono ?_); rintro e wx ⟨rfl, f⟩; have hd := hd.fr f; have F := F.then f; clear f)
                    | (go_at_call 26; (with_reducible refine (aheadV hba.out hd Hwf.out HL1.out).mono ?_); rintro e wx ⟨rfl, f⟩; have hd := hd.fr f; have F := F.then f; clear f)
                    | (go_at_call 20; (with_reducible refine (depthD _ _ _ _ hd).mono ?_); rintro e wx ⟨rfl, f⟩; have hd := hd.fr f; have F := F.then f; clear f))
                  have F2 := F2.then F
                  clear F hbq hgt
                  go_upto_region 16 with (go_at_call 22; refine (predsD _ _ _ _ hd Hwf.out HL1.out).mono ?_; rintro e w3 ⟨u, rfl, hp, f⟩; obtain ⟨pa, pc, rfl, hpc, hpm, hpn⟩ := hp.form; have hd := hd.fr f; have F2 := F2.then f; clear f)
                  obtain ⟨pl, hpl⟩ : ∃ l, l = preds g yb := ⟨_, rfl⟩
                  have Hpl : Hid (∀ {p : BS}, p ∈ pl → p ∈ preds g yb) := Lib.hid (by rw [hpl]; exact fun h => h)
                  rw [← hpl] at hp hpc hpn ⊢
                  clear hpl
                  obtain ⟨m, hmx⟩ : ∃ m, m = pl.length := ⟨_, rfl⟩
                  rw [← hmx] at hp hpc hpn ⊢
                  have Hm := Lib.hid hmx; clear hmx
                  go_wp2
                  go_loopw [12] (fun i wt => ∃ q : Nat, q ≤ m ∧ i = .int .i64 q ∧ Fr [] w3 wt) (fun i _ => m - (intOf i).toNat)
                  case atStart => exact ⟨0, Nat.zero_le _, rfl, .refl _⟩
                  case round =>
                    obtain ⟨j, hj, rfl, hf3⟩ := hrel
                    have hd := hd.fr hf3
                    have hp := hp.fr hf3
                    by_cases hlt3 : j < m
                    · obtain ⟨z, hz⟩ : ∃ x, pl[j]? = some x := ⟨_, List.getElem?_eq_getElem (Hm.out ▸ hlt3)⟩
                      obtain ⟨b3, o3, hidx3, hcell3⟩ := hp.at_ Hm.out 33 9 Try.underlying33 Try.sizeOf9 j z hz
                      have hzp := Lib.hid (Hpl.out (List.mem_of_getElem? hz))
                      have hzb := Lib.hid (ah_pred Hwf.out hzp.out)
                      clear hz
                      cases haz : aheadB g xa z
                      case' false => have hab2 : True := trivial
                      case' true => have hab2 := Lib.hid (ah_trans Hwf.out hzp.out haz)
                      all_goals
                        have Haz := Lib.hid haz
                        clear haz
                        have F := Fr.refl wr
                        go_wp2_with (first
                          | (go_at_call 26; (with_reducible refine (aheadV Haz.out hd Hwf.out HL1.out).mono ?_); rintro e wx ⟨rfl, f⟩; have hd := hd.fr f; have hcell3 := f.cell hcell3; have F := F.then f; clear f)
                          | (go_at_call 26; (with_reducible refine (aheadV hab2.out hd Hwf.out HL1.out).mono ?_); rintro e wx ⟨rfl, f⟩; have hd := hd.fr f; have hcell3 := f.cell hcell3; have F := F.then f; clear f)
                          | (go_at_call 26; (with_reducible refine (aheadV hzb.out hd Hwf.out HL1.out).mono ?_); rintro e wx ⟨rfl, f⟩; have hd := hd.fr f; have hcell3 := f.cell hcell3; have F := F.then f; clear f))
                        clear hcell3 hidx3 hp hd
                        go_roundw
                        case rel => exact ⟨j + 1, by omega, by go_num, hf3.then F⟩
                        case measure => simp [intOf]; omega
                    · clear hp hd
                      go_wp2
                      go_roundw
                      case rel => exact ⟨q + 1, by omega, by go_num, F2.then hf3⟩
                      case measure => simp [intOf]; omega
              · go_wp2
                go_roundw
                case rel => exact ⟨k + 1, by omega, by go_num, hf.then hf2⟩
                case measure => simp [intOf]; omega
          · have F := F.then hf
            have hd := hd.fr hf
            have ha := ha.fr hf
            clear hs
            go_upto_region 22 with (go_at_call 16; refine (pastD _ _ _ _ _ hd Hwf.out ha HL1.out).mono ?_; rintro e w4 ⟨u, rfl, hp, f⟩; obtain ⟨pa, pc, rfl, hpc, hpm, hpn⟩ := hp.form; have hd := hd.fr f; have F := F.then f; clear f)
            have hpl30 := past_len Hwf.out l
            have hpl30 : (pastL g l).length ≤ 10000 := Nat.le_trans hpl30 HL1.out
            obtain ⟨pl, hpl⟩ : ∃ x, x = pastL g l := ⟨_, rfl⟩
            have Hcl : Hid (∀ {x : BS}, x ∈ pl → ∀ p ∈ preds g x, p ∈ pl) := Lib.hid (by rw [hpl]; exact fun h p hp => past_closed Hwf.out h hp)
            rw [← hpl] at hp hpc hpn hpl30 ⊢
            clear hpl ha
            obtain ⟨m, hmx⟩ : ∃ m, m = pl.length := ⟨_, rfl⟩
            rw [← hmx] at hp hpc hpn hpl30 ⊢
            have Hm := Lib.hid hmx; clear hmx
            go_wp2
            go_loopw [14] (fun i wt => ∃ q : Nat, q ≤ m ∧ i = .int .i64 q ∧ Fr [] w4 wt) (fun i _ => m - (intOf i).toNat)
            case atStart => exact ⟨0, Nat.zero_le _, rfl, .refl _⟩
            case round =>
              obtain ⟨j, hj, rfl, hf3⟩ := hrel
              have hd := hd.fr hf3
              have hp := hp.fr hf3
              have F := F.then hf3
              by_cases hlt3 : j < m
              · obtain ⟨z, hz⟩ : ∃ x, pl[j]? = some x := ⟨_, List.getElem?_eq_getElem (Hm.out ▸ hlt3)⟩
                obtain ⟨b3, o3, hidx3, hcell3⟩ := hp.at_ Hm.out 33 9 Try.underlying33 Try.sizeOf9 j z hz
                have hzp := Lib.hid (Hcl.out (List.mem_of_getElem? hz))
                have hzl := Lib.hid (Nat.le_trans (Nat.le_trans (len_preds Hwf.out z) HL1.out) (by decide : 10000 ≤ 1000000))
                clear hz
                have G := Fr.refl wr
                go_wp2_with (first
                  | (go_at_call 22; refine (predsD _ _ _ _ hd Hwf.out HL1.out).mono ?_; rintro e w5 ⟨u, rfl, hq, f⟩; obtain ⟨qa, qc, rfl, hqc, hqm, hqn⟩ := hq.form; have hp := hp.fr f; have G := G.then f; clear f)
                  | (go_at_call 31; refine (lessE hq hp hzl.out hzp.out).mono ?_; rintro e w6 ⟨u, rfl, hr, f⟩; obtain ⟨ra, rc, rfl⟩ := hr.formN 0 rfl; have G := G.then f; clear f))
                clear hcell3 hidx3 hp hd
                go_roundw
                case rel => exact ⟨j + 1, by omega, by go_num, hf3.then G⟩
                case measure => simp [intOf]; omega
              · go_wp2_with (go_at_call 10; refine (awake10 _).mono ?_; rintro e wx ⟨rfl, f⟩)
                go_ret
                exact ⟨rfl, F.then f⟩
      · have HP := Lib.hid hP; clear hP
        go_enter Try.func6, Try.ntmps6
        go_wp2_with (first
          | (go_at_call 9; (with_reducible refine (fewT hs HF.out).mono ?_); rintro e wx ⟨rfl, rfl⟩)
          | (go_at_call 9; (with_reducible refine (fewF hnw HP.out).mono ?_); rintro e wx ⟨rfl, rfl⟩)
          | (go_at_call 10; refine (awake10 _).mono ?_; rintro e wx ⟨rfl, f⟩))
        go_ret
        exact ⟨rfl, f0.then f⟩
    · have hd1 : decide ((10 : Int) < (l.length : Int)) = true := decide_eq_true (by omega)
      have hd2 : decide (10 < l.length) = true := decide_eq_true (by omega)
      go_enter Try.func6, Try.ntmps6
      go_wp2_with (first
        | (go_at_call 9; (with_reducible refine (fewT hs HF.out).mono ?_); rintro e wx ⟨rfl, rfl⟩)
        | (go_at_call 10; refine (awake10 _).mono ?_; rintro e wx ⟨rfl, f⟩))
      go_ret
      exact ⟨rfl, f⟩
  · have HF := Lib.hid hF; clear hF
    go_enter Try.func6, Try.ntmps6
    go_wp2_with (first
      | (go_at_call 9; (with_reducible refine (fewF hs HF.out).mono ?_); rintro e wx ⟨rfl, rfl⟩)
      | (go_at_call 10; refine (awake10 _).mono ?_; rintro e wx ⟨rfl, f⟩))
    go_ret
    exact ⟨rfl, f⟩
end Go.Proofs.Ytnebdfpjjpbolaa
