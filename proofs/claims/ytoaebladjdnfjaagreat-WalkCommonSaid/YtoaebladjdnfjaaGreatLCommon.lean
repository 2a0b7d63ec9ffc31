import Derived.Test.YtoaebladjdnfjaaGreatLTops
set_option linter.unusedSimpArgs false
set_option linter.unusedVariables false
/-
  Chapter 18: WalkCommon.
-/
namespace Go.Proofs.YtoaebladjdnfjaaGreat
open Go.RowKit

theorem mem_meetL {g : G} (hw : Wf g) (a b : List BS) (x : BS) : x ∈ meetL (pastL g a) (pastL g b) ↔ x ∈ pastL g a ∧ x ∈ pastL g b := by
  unfold meetL
  rw [mem_ofL]
  simp only [List.mem_filter, decide_eq_true_eq]
  exact ⟨fun h => h.1, fun h => ⟨h, hw.right (past_ids hw h.1)⟩⟩
theorem past_meet {g : G} (hw : Wf g) (a b : List BS) : pastL g (meetL (pastL g a) (pastL g b)) = meetL (pastL g a) (pastL g b) := by
  refine sorted_ext (sorted_ofL _) (sorted_ofL _) fun x => ?_
  show x ∈ pastL g (meetL (pastL g a) (pastL g b)) ↔ x ∈ meetL (pastL g a) (pastL g b)
  rw [(isPast_pastL hw (meetL (pastL g a) (pastL g b))).2 x, mem_meetL hw]
  constructor
  · rintro ⟨y, hy, hi, hr⟩
    obtain ⟨h1, h2⟩ := (mem_meetL hw a b y).1 hy
    obtain ⟨u, hu, hui, hur⟩ := ((isPast_pastL hw a).2 y).1 h1
    obtain ⟨t, ht, hti, htr⟩ := ((isPast_pastL hw b).2 y).1 h2
    exact ⟨((isPast_pastL hw a).2 x).2 ⟨u, hu, hui, hur.trans hr⟩, ((isPast_pastL hw b).2 x).2 ⟨t, ht, hti, htr.trans hr⟩⟩
  · rintro ⟨h1, h2⟩
    exact ⟨x, (mem_meetL hw a b x).2 ⟨h1, h2⟩, past_ids hw h1, .refl x⟩
theorem past_comm {g : G} (hw : Wf g) (a b : BS) : pastL g (commL g a b) = meetL (pastL g [a]) (pastL g [b]) := by
  unfold commL
  rw [past_tops hw, past_meet hw]
theorem comm_comm {g : G} (hw : Wf g) (a b : BS) : commL g a b = commL g b a := by
  unfold commL
  congr 1
  refine sorted_ext (sorted_ofL _) (sorted_ofL _) fun x => ?_
  show x ∈ meetL _ _ ↔ x ∈ meetL _ _
  rw [mem_meetL hw, mem_meetL hw]
  exact And.comm
theorem past_one {g : G} (hw : Wf g) {a x : BS} (hx : x ∈ ids g) : x ∈ pastL g [a] ↔ x = a ∨ aheadB g x a = true := by
  rw [(isPast_pastL hw [a]).2 x, aheadB_iff hw]
  constructor
  · rintro ⟨y, hy, hi, hr⟩
    obtain rfl : y = a := by simpa using hy
    by_cases e : x = y
    · exact .inl e
    · exact .inr ⟨e, hx, hi, hr⟩
  · rintro (rfl | ⟨h1, h2, h3, h4⟩)
    · exact ⟨x, by simp, hx, .refl x⟩
    · exact ⟨a, by simp, h3, h4⟩
theorem comm_len (g : G) (hw : Wf g) (a b : BS) : (commL g a b).length ≤ g.length := Nat.le_trans (tops_len _ _) (Nat.le_trans (length_ofL _) (Nat.le_trans (List.length_filter_le _ _) (past_len hw _)))

set_option maxRecDepth 100000 in
set_option maxHeartbeats 4000000 in
theorem walkCommon6 (v : Value) (sa sb : BS) (L : List Nd) (w : World) (hs : Nodes w v L) :
    Calls Tryz.prog 6 #[v, .string sa, .string sb] w fun e w' => e = .returned (.bool true) ∧ Fr [] w w' := by
  obtain ⟨a, c, rfl, hc, hm, hn⟩ := hs.form
  have k0 := (Fr.refl w).alloc (.cells #[.string sa] 9)
  have k1 := (Fr.refl (w.alloc (.cells #[.string sa] 9))).alloc (.cells #[.string sb] 9)
  have F0 := k0.then k1
  have CF := fewW _ _ _ _ _ _ _ ((hs.fr k0).fr k1) ((strs_new w sa).fr k1) (strs_at w (.cells #[.string sa] 9) sb)
  cases hB : fewB L [sa] [sb] with
  | false =>
    rw [hB] at CF
    have CF := Lib.hid CF
    clear hB
    go_enter Tryz.func6, Tryz.ntmps6
    go_wp2_with (first
      | (go_at_call 7; refine CF.out.mono ?_; rintro e w0 ⟨rfl, f0⟩)
      | (go_at_call 8; refine (awakeW _).mono ?_; rintro e w1 ⟨rfl, f1⟩))
    go_ret
    exact ⟨rfl, (F0.then f0).then f1⟩
  | true =>
    rw [hB] at CF
    have CF := Lib.hid CF
    obtain ⟨hF, hA, hA2⟩ := fewB_parts hB
    have HF := Lib.hid hF
    clear hF hB
    go_enter Tryz.func6, Tryz.ntmps6
    go_upto_region 4 with (first
      | (go_at_call 7; refine CF.out.mono ?_; rintro e w0 ⟨rfl, f0⟩)
      | (go_at_call 9; refine (make14 _ _ _ (((hs.fr k0).fr k1).fr f0) (Nat.le_trans HF.out.1 (by decide))).mono ?_; rintro e w1 ⟨dv, mN, mH, gv, rfl, hd, -, -, hg, f1⟩; obtain ⟨db, rfl⟩ := hd.ptr; obtain ⟨ga, gc, rfl, _⟩ := hg.form))
    have f2 := (Fr.refl w1).alloc (.cells #[.slice ga (makeG L).length gc] 29)
    have hd := (hd.fr f2 (by simp) (by simp)).r
    have F := ((F0.then f0).then f1).then f2
    obtain ⟨R, hRR⟩ : ∃ R, R = w1.heap.size := ⟨_, rfl⟩
    rw [← hRR]
    clear hRR
    generalize w1.alloc (.cells #[.slice ga (makeG L).length gc] 29) = wS at hd F ⊢
    clear f0 f1 f2 CF hg k0 k1 F0
    have hlG := Lib.hid (len_makeF HF.out)
    have hwf := wf_makeG L
    clear HF
    generalize makeG L = g at hd hlG hwf ⊢
    have Hwf := Lib.hid hwf; clear hwf
    have HL1 := Lib.hid (Nat.le_trans hlG.out (by decide : 30 ≤ 10000))
    have HL2 := Lib.hid (Nat.le_trans hlG.out (by decide : 30 ≤ 4096))
    clear hA hA2
    go_upto_region 7 with (first
      | (go_at_call 11; refine (commonD _ _ _ _ _ hd Hwf.out HL2.out).mono ?_; rintro e wx ⟨u, rfl, hc1, f⟩; obtain ⟨ta, tc, rfl, _⟩ := hc1.form; have hd := hd.fr f; have F := F.then f; clear f)
      | (go_at_call 23; refine (pastD _ _ _ _ _ hd Hwf.out hc1 HL1.out).mono ?_; rintro e wx ⟨u, rfl, hp1, f⟩; rw [past_comm Hwf.out] at hp1; obtain ⟨pa, pc, rfl, _⟩ := hp1.form; have hd := hd.fr f; have hc1 := hc1.fr f; have F := F.then f; clear f)
      | (go_at_call 27; refine (orderD _ _ _ hd Hwf.out HL1.out).mono ?_; rintro e w2 ⟨u, rfl, ho, f⟩; obtain ⟨oa, oc, rfl, hoc, hom, hon⟩ := ho.form; have hd := hd.fr f; have hc1 := hc1.fr f; have hp1 := hp1.fr f; have F := F.then f; clear f))
    obtain ⟨ol, hol⟩ : ∃ t, t = ordL g g.length := ⟨_, rfl⟩
    have Hin : Hid (∀ {i : Nat} {x : BS}, ol[i]? = some x → x ∈ ids g) := Lib.hid (by rw [hol]; exact fun h => ord_in Hwf.out h)
    rw [← hol] at ho hoc hon ⊢
    clear hol
    obtain ⟨n, hnx⟩ : ∃ n, n = ol.length := ⟨_, rfl⟩
    rw [← hnx] at ho hoc hon ⊢
    have Hn := Lib.hid hnx; clear hnx
    go_wp2
    go_loopw [12] (fun i wr => ∃ k : Nat, k ≤ n ∧ i = .int .i64 k ∧ Fr [] w2 wr) (fun i _ => n - (intOf i).toNat)
    case atStart => exact ⟨0, Nat.zero_le _, rfl, .refl _⟩
    case round =>
      obtain ⟨k, hk, rfl, hf⟩ := hrel
      have hd := hd.fr hf
      have ho := ho.fr hf
      have hp1 := hp1.fr hf
      by_cases hlt : k < n
      · obtain ⟨x, hx⟩ : ∃ x, ol[k]? = some x := ⟨_, List.getElem?_eq_getElem (Hn.out ▸ hlt)⟩
        obtain ⟨b, o, hidx, hcell⟩ := ho.at_ Hn.out 23 9 Tryz.underlying23 Tryz.sizeOf9 k x hx
        have Hi := Lib.hid (Hin.out hx)
        clear hx
        have H1 : ((x.toList == sa.toList) = true ∧ x ∈ pastL g [sa]) ∨ ((x.toList == sa.toList) = false ∧ aheadB g x sa = true ∧ x ∈ pastL g [sa]) ∨ ((x.toList == sa.toList) = false ∧ aheadB g x sa = false ∧ x ∉ pastL g [sa]) := by
          by_cases e : x = sa
          · exact .inl ⟨beq_tt e, (past_one Hwf.out Hi.out).2 (.inl e)⟩
          · cases hab : aheadB g x sa with
            | true => exact .inr (.inl ⟨beq_ff e, rfl, (past_one Hwf.out Hi.out).2 (.inr hab)⟩)
            | false => exact .inr (.inr ⟨beq_ff e, rfl, fun h => by rcases (past_one Hwf.out Hi.out).1 h with h | h; exact e h; rw [hab] at h; cases h⟩)
        have H2 : ((x.toList == sb.toList) = true ∧ x ∈ pastL g [sb]) ∨ ((x.toList == sb.toList) = false ∧ aheadB g x sb = true ∧ x ∈ pastL g [sb]) ∨ ((x.toList == sb.toList) = false ∧ aheadB g x sb = false ∧ x ∉ pastL g [sb]) := by
          by_cases e : x = sb
          · exact .inl ⟨beq_tt e, (past_one Hwf.out Hi.out).2 (.inl e)⟩
          · cases hab : aheadB g x sb with
            | true => exact .inr (.inl ⟨beq_ff e, rfl, (past_one Hwf.out Hi.out).2 (.inr hab)⟩)
            | false => exact .inr (.inr ⟨beq_ff e, rfl, fun h => by rcases (past_one Hwf.out Hi.out).1 h with h | h; exact e h; rw [hab] at h; cases h⟩)
        rcases H1 with ⟨q1, m1⟩ | ⟨q1, a1, m1⟩ | ⟨q1, a1, m1⟩ <;> rcases H2 with ⟨q2, m2⟩ | ⟨q2, a2, m2⟩ | ⟨q2, a2, m2⟩
        · have Hm := Lib.hid ((mem_meetL Hwf.out [sa] [sb] x).2 ⟨m1, m2⟩ : x ∈ meetL (pastL g [sa]) (pastL g [sb]))
          clear m1 m2
          have F3 := Fr.refl wr
          go_wp2_with (first
            | (go_at_call 26; (with_reducible refine (aheadV A1.out hd Hwf.out HL1.out).mono ?_); rintro e wx ⟨rfl, f⟩; have hd := hd.fr f; have hp1 := hp1.fr f; have hcell := f.cell hcell; have F3 := F3.then f; clear f A1)
            | (go_at_call 26; (with_reducible refine (aheadV A2.out hd Hwf.out HL1.out).mono ?_); rintro e wx ⟨rfl, f⟩; have hd := hd.fr f; have hp1 := hp1.fr f; have hcell := f.cell hcell; have F3 := F3.then f; clear f A2)
            | (go_at_call 28; (with_reducible refine (hasT hp1 Hm.out).mono ?_); rintro e wx ⟨rfl, rfl⟩)
            | (go_at_call 28; (with_reducible refine (hasF hp1 Hm.out).mono ?_); rintro e wx ⟨rfl, rfl⟩))
          go_roundw
          case rel => exact ⟨k + 1, by omega, by go_num, hf.then F3⟩
          case measure => simp [intOf]; omega
        · have Hm := Lib.hid ((mem_meetL Hwf.out [sa] [sb] x).2 ⟨m1, m2⟩ : x ∈ meetL (pastL g [sa]) (pastL g [sb]))
          have A2 := Lib.hid a2
          clear m1 m2 a2
          have F3 := Fr.refl wr
          go_wp2_with (first
            | (go_at_call 26; (with_reducible refine (aheadV A1.out hd Hwf.out HL1.out).mono ?_); rintro e wx ⟨rfl, f⟩; have hd := hd.fr f; have hp1 := hp1.fr f; have hcell := f.cell hcell; have F3 := F3.then f; clear f A1)
            | (go_at_call 26; (with_reducible refine (aheadV A2.out hd Hwf.out HL1.out).mono ?_); rintro e wx ⟨rfl, f⟩; have hd := hd.fr f; have hp1 := hp1.fr f; have hcell := f.cell hcell; have F3 := F3.then f; clear f A2)
            | (go_at_call 28; (with_reducible refine (hasT hp1 Hm.out).mono ?_); rintro e wx ⟨rfl, rfl⟩)
            | (go_at_call 28; (with_reducible refine (hasF hp1 Hm.out).mono ?_); rintro e wx ⟨rfl, rfl⟩))
          go_roundw
          case rel => exact ⟨k + 1, by omega, by go_num, hf.then F3⟩
          case measure => simp [intOf]; omega
        · have Hm := Lib.hid (fun h => m2 ((mem_meetL Hwf.out [sa] [sb] x).1 h).2 : x ∉ meetL (pastL g [sa]) (pastL g [sb]))
          have A2 := Lib.hid a2
          clear m1 m2 a2
          have F3 := Fr.refl wr
          go_wp2_with (first
            | (go_at_call 26; (with_reducible refine (aheadV A1.out hd Hwf.out HL1.out).mono ?_); rintro e wx ⟨rfl, f⟩; have hd := hd.fr f; have hp1 := hp1.fr f; have hcell := f.cell hcell; have F3 := F3.then f; clear f A1)
            | (go_at_call 26; (with_reducible refine (aheadV A2.out hd Hwf.out HL1.out).mono ?_); rintro e wx ⟨rfl, f⟩; have hd := hd.fr f; have hp1 := hp1.fr f; have hcell := f.cell hcell; have F3 := F3.then f; clear f A2)
            | (go_at_call 28; (with_reducible refine (hasT hp1 Hm.out).mono ?_); rintro e wx ⟨rfl, rfl⟩)
            | (go_at_call 28; (with_reducible refine (hasF hp1 Hm.out).mono ?_); rintro e wx ⟨rfl, rfl⟩))
          go_roundw
          case rel => exact ⟨k + 1, by omega, by go_num, hf.then F3⟩
          case measure => simp [intOf]; omega
        · have Hm := Lib.hid ((mem_meetL Hwf.out [sa] [sb] x).2 ⟨m1, m2⟩ : x ∈ meetL (pastL g [sa]) (pastL g [sb]))
          have A1 := Lib.hid a1
          clear m1 m2 a1
          have F3 := Fr.refl wr
          go_wp2_with (first
            | (go_at_call 26; (with_reducible refine (aheadV A1.out hd Hwf.out HL1.out).mono ?_); rintro e wx ⟨rfl, f⟩; have hd := hd.fr f; have hp1 := hp1.fr f; have hcell := f.cell hcell; have F3 := F3.then f; clear f A1)
            | (go_at_call 26; (with_reducible refine (aheadV A2.out hd Hwf.out HL1.out).mono ?_); rintro e wx ⟨rfl, f⟩; have hd := hd.fr f; have hp1 := hp1.fr f; have hcell := f.cell hcell; have F3 := F3.then f; clear f A2)
            | (go_at_call 28; (with_reducible refine (hasT hp1 Hm.out).mono ?_); rintro e wx ⟨rfl, rfl⟩)
            | (go_at_call 28; (with_reducible refine (hasF hp1 Hm.out).mono ?_); rintro e wx ⟨rfl, rfl⟩))
          go_roundw
          case rel => exact ⟨k + 1, by omega, by go_num, hf.then F3⟩
          case measure => simp [intOf]; omega
        · have Hm := Lib.hid ((mem_meetL Hwf.out [sa] [sb] x).2 ⟨m1, m2⟩ : x ∈ meetL (pastL g [sa]) (pastL g [sb]))
          have A1 := Lib.hid a1
          have A2 := Lib.hid a2
          clear m1 m2 a1 a2
          have F3 := Fr.refl wr
          go_wp2_with (first
            | (go_at_call 26; (with_reducible refine (aheadV A1.out hd Hwf.out HL1.out).mono ?_); rintro e wx ⟨rfl, f⟩; have hd := hd.fr f; have hp1 := hp1.fr f; have hcell := f.cell hcell; have F3 := F3.then f; clear f A1)
            | (go_at_call 26; (with_reducible refine (aheadV A2.out hd Hwf.out HL1.out).mono ?_); rintro e wx ⟨rfl, f⟩; have hd := hd.fr f; have hp1 := hp1.fr f; have hcell := f.cell hcell; have F3 := F3.then f; clear f A2)
            | (go_at_call 28; (with_reducible refine (hasT hp1 Hm.out).mono ?_); rintro e wx ⟨rfl, rfl⟩)
            | (go_at_call 28; (with_reducible refine (hasF hp1 Hm.out).mono ?_); rintro e wx ⟨rfl, rfl⟩))
          go_roundw
          case rel => exact ⟨k + 1, by omega, by go_num, hf.then F3⟩
          case measure => simp [intOf]; omega
        · have Hm := Lib.hid (fun h => m2 ((mem_meetL Hwf.out [sa] [sb] x).1 h).2 : x ∉ meetL (pastL g [sa]) (pastL g [sb]))
          have A1 := Lib.hid a1
          have A2 := Lib.hid a2
          clear m1 m2 a1 a2
          have F3 := Fr.refl wr
          go_wp2_with (first
            | (go_at_call 26; (with_reducible refine (aheadV A1.out hd Hwf.out HL1.out).mono ?_); rintro e wx ⟨rfl, f⟩; have hd := hd.fr f; have hp1 := hp1.fr f; have hcell := f.cell hcell; have F3 := F3.then f; clear f A1)
            | (go_at_call 26; (with_reducible refine (aheadV A2.out hd Hwf.out HL1.out).mono ?_); rintro e wx ⟨rfl, f⟩; have hd := hd.fr f; have hp1 := hp1.fr f; have hcell := f.cell hcell; have F3 := F3.then f; clear f A2)
            | (go_at_call 28; (with_reducible refine (hasT hp1 Hm.out).mono ?_); rintro e wx ⟨rfl, rfl⟩)
            | (go_at_call 28; (with_reducible refine (hasF hp1 Hm.out).mono ?_); rintro e wx ⟨rfl, rfl⟩))
          go_roundw
          case rel => exact ⟨k + 1, by omega, by go_num, hf.then F3⟩
          case measure => simp [intOf]; omega
        · have Hm := Lib.hid (fun h => m1 ((mem_meetL Hwf.out [sa] [sb] x).1 h).1 : x ∉ meetL (pastL g [sa]) (pastL g [sb]))
          have A1 := Lib.hid a1
          clear m1 m2 a1
          have F3 := Fr.refl wr
          go_wp2_with (first
            | (go_at_call 26; (with_reducible refine (aheadV A1.out hd Hwf.out HL1.out).mono ?_); rintro e wx ⟨rfl, f⟩; have hd := hd.fr f; have hp1 := hp1.fr f; have hcell := f.cell hcell; have F3 := F3.then f; clear f A1)
            | (go_at_call 26; (with_reducible refine (aheadV A2.out hd Hwf.out HL1.out).mono ?_); rintro e wx ⟨rfl, f⟩; have hd := hd.fr f; have hp1 := hp1.fr f; have hcell := f.cell hcell; have F3 := F3.then f; clear f A2)
            | (go_at_call 28; (with_reducible refine (hasT hp1 Hm.out).mono ?_); rintro e wx ⟨rfl, rfl⟩)
            | (go_at_call 28; (with_reducible refine (hasF hp1 Hm.out).mono ?_); rintro e wx ⟨rfl, rfl⟩))
          go_roundw
          case rel => exact ⟨k + 1, by omega, by go_num, hf.then F3⟩
          case measure => simp [intOf]; omega
        · have Hm := Lib.hid (fun h => m1 ((mem_meetL Hwf.out [sa] [sb] x).1 h).1 : x ∉ meetL (pastL g [sa]) (pastL g [sb]))
          have A1 := Lib.hid a1
          have A2 := Lib.hid a2
          clear m1 m2 a1 a2
          have F3 := Fr.refl wr
          go_wp2_with (first
            | (go_at_call 26; (with_reducible refine (aheadV A1.out hd Hwf.out HL1.out).mono ?_); rintro e wx ⟨rfl, f⟩; have hd := hd.fr f; have hp1 := hp1.fr f; have hcell := f.cell hcell; have F3 := F3.then f; clear f A1)
            | (go_at_call 26; (with_reducible refine (aheadV A2.out hd Hwf.out HL1.out).mono ?_); rintro e wx ⟨rfl, f⟩; have hd := hd.fr f; have hp1 := hp1.fr f; have hcell := f.cell hcell; have F3 := F3.then f; clear f A2)
            | (go_at_call 28; (with_reducible refine (hasT hp1 Hm.out).mono ?_); rintro e wx ⟨rfl, rfl⟩)
            | (go_at_call 28; (with_reducible refine (hasF hp1 Hm.out).mono ?_); rintro e wx ⟨rfl, rfl⟩))
          go_roundw
          case rel => exact ⟨k + 1, by omega, by go_num, hf.then F3⟩
          case measure => simp [intOf]; omega
        · have Hm := Lib.hid (fun h => m1 ((mem_meetL Hwf.out [sa] [sb] x).1 h).1 : x ∉ meetL (pastL g [sa]) (pastL g [sb]))
          have A1 := Lib.hid a1
          have A2 := Lib.hid a2
          clear m1 m2 a1 a2
          have F3 := Fr.refl wr
          go_wp2_with (first
            | (go_at_call 26; (with_reducible refine (aheadV A1.out hd Hwf.out HL1.out).mono ?_); rintro e wx ⟨rfl, f⟩; have hd := hd.fr f; have hp1 := hp1.fr f; have hcell := f.cell hcell; have F3 := F3.then f; clear f A1)
            | (go_at_call 26; (with_reducible refine (aheadV A2.out hd Hwf.out HL1.out).mono ?_); rintro e wx ⟨rfl, f⟩; have hd := hd.fr f; have hp1 := hp1.fr f; have hcell := f.cell hcell; have F3 := F3.then f; clear f A2)
            | (go_at_call 28; (with_reducible refine (hasT hp1 Hm.out).mono ?_); rintro e wx ⟨rfl, rfl⟩)
            | (go_at_call 28; (with_reducible refine (hasF hp1 Hm.out).mono ?_); rintro e wx ⟨rfl, rfl⟩))
          go_roundw
          case rel => exact ⟨k + 1, by omega, by go_num, hf.then F3⟩
          case measure => simp [intOf]; omega
      · have hc1 := hc1.fr hf
        have F := F.then hf
        clear hf
        go_wp2_with (first
          | (go_at_call 11; refine (commonD _ _ _ _ _ hd Hwf.out HL2.out).mono ?_; rintro e wx ⟨u, rfl, hc2, f⟩; rw [comm_comm Hwf.out] at hc2; obtain ⟨ua, uc, rfl, _⟩ := hc2.form; have hc1 := hc1.fr f; have F := F.then f; clear f)
          | (go_at_call 10; refine (textsT _ _ _ _ _ hc1 hc2 rfl).mono ?_; rintro e wx ⟨rfl, f⟩; have F := F.then f; clear f)
          | (go_at_call 8; refine (awakeW _).mono ?_; rintro e wx ⟨rfl, f⟩; have F := F.then f; clear f))
        go_ret
        exact ⟨rfl, F⟩
end Go.Proofs.YtoaebladjdnfjaaGreat
