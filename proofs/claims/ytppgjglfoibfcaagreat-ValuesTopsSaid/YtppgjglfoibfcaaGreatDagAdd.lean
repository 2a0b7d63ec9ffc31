import Derived.Test.YtppgjglfoibfcaaGreatGrow
set_option linter.unusedSimpArgs false
set_option linter.unusedVariables false
/-
  Add.
-/
namespace Go.Proofs.YtppgjglfoibfcaaGreat
open Go.RowKit

/-- Above block N nothing that was there has turned. -/
structure Up (N : Nat) (w w' : World) : Prop where
  size : w.heap.size ≤ w'.heap.size
  block : ∀ k, N < k → k < w.heap.size → w'.heap[k]? = w.heap[k]?
theorem Up.refl (N : Nat) (w : World) : Up N w w := ⟨Nat.le_refl _, fun _ _ _ => rfl⟩
theorem Up.fr {N : Nat} {S : List Nat} {w w1 w2 : World} (h : Up N w w1) (hf : Fr S w1 w2) (hS : ∀ x, x ∈ S → x ≤ N) : Up N w w2 :=
  ⟨Nat.le_trans h.size hf.size, fun k h1 h2 => (hf.block k (Nat.lt_of_lt_of_le h2 h.size) (fun hm => by have := hS k hm; omega)).trans (h.block k h1 h2)⟩
theorem Up.set {N : Nat} {w w1 : World} (h : Up N w w1) {a : Addr} (ha : a.block ≤ N ∨ w.heap.size ≤ a.block) (v : Value) : Up N w (w1.setCell a v) :=
  ⟨by simp [World.setCell]; exact h.size, fun k h1 h2 => (Below.heap_setCell _ _ _ _ (by omega)).trans (h.block k h1 h2)⟩
theorem Up.strs {N : Nat} {w w' : World} (h : Up N w w') {b n c : Nat} {xs : List BS} (hs : Strs w (.slice (some ⟨b, 0, none⟩) n c) xs) (hb : N < b) : Strs w' (.slice (some ⟨b, 0, none⟩) n c) xs := by
  obtain ⟨h1, h2, a, c', e, h5, h6, h7, h8⟩ := hs
  cases e
  refine ⟨h1, h2, _, _, rfl, h5, h6, h7, fun h0 => ?_⟩
  obtain ⟨b', o, e, hc⟩ := h8 h0
  cases e
  refine ⟨b, 0, rfl, fun i x hx => ?_⟩
  have := hc i x hx
  have hlt := cell_lt this
  rw [← this]
  unfold World.cell?
  rw [h.block b hb hlt]

/-- The elements of the nodes' map while Add goes over the first of the predecessors. -/
def NodeQ (N : Nat) (w2 wr : World) (g : G) (id : BS) (l : List BS) (v : Value) (x : BS) : Prop := ∃ pv kv, v = .agg #[pv, kv, .int .i64 (depth g x : Nat)] ∧ Strs w2 pv (preds g x) ∧
  ((x ∉ l ∧ Strs w2 kv (kids g x)) ∨ (x ∈ l ∧ ∃ b n c, kv = .slice (some ⟨b, 0, none⟩) n c ∧ N < b ∧ Strs wr kv (withL (kids g x) id)))

theorem nodup_len : ∀ (l m : List BS), l.Nodup → (∀ x ∈ l, x ∈ m) → l.length ≤ m.length
  | [], m, _, _ => Nat.zero_le _
  | a :: l, m, hn, hs => by
    obtain ⟨h1, h2⟩ := List.nodup_cons.1 hn
    have ha := hs a (by simp)
    have := nodup_len l (m.erase a) h2 (fun x hx => (List.mem_erase_of_ne (fun e => h1 (by rw [← e]; exact hx))).2 (hs x (by simp [hx])))
    rw [List.length_erase_of_mem ha] at this
    have := List.length_pos_of_mem ha
    simp; omega
theorem nodup_take {ps : List BS} (h : ps.Pairwise BLt) {q : Nat} {y : BS} (hy : ps[q]? = some y) (hm : y ∈ ps.take q) : False := by
  obtain ⟨i, hi⟩ := List.mem_iff_getElem?.1 hm
  have hlt := lt_of_getElem? hi
  rw [List.length_take] at hlt
  have hlt : i < q ∧ i < ps.length := ⟨by omega, by omega⟩
  rw [List.getElem?_take_of_lt hlt.1] at hi
  have h1 := List.getElem?_eq_some_iff.1 hi
  have h2 := List.getElem?_eq_some_iff.1 hy
  have := List.pairwise_iff_getElem.1 h i q h1.1 h2.1 hlt.1
  rw [h1.2, h2.2] at this
  exact blt_irrefl _ this
theorem Mp.set {w : World} {b : Nat} {l : Ents} (h : Mp w b l) {a : Addr} (ha : b ≠ a.block) (v : Value) : Mp (w.setCell a v) b l := by
  obtain ⟨es, c, hb, r⟩ := h
  exact ⟨es, c, (Below.heap_setCell _ _ _ _ ha).trans hb, r⟩
theorem i64_add1 (d : Nat) (h : d ≤ 1000000) : IntKind.i64.wrap ((d : Int) + 1) = (d : Int) + 1 := IntWalk.i64_in _ (by omega)

set_option maxRecDepth 100000 in
set_option maxHeartbeats 4000000 in
theorem add12 (mN mH : Nat) (v pv : Value) (id : BS) (ps : List BS) (g : G) (w : World) (hd : DagAt w v mN mH g) (hw : Wf g) (hp : Strs w pv ps) (hl : g.length ≤ 4096) :
    Calls Tryz.prog 65 #[v, .string id, pv] w fun e w' => e = .returned (.int .i64 (addE g id ps)) ∧ DagAt w' v mN mH (addG g id ps) ∧ Fr [mN, mH] w w' := by
  have R0 := refuse37 mN mH v pv id ps g w hd hp (by omega)
  have hmaps : ∀ k, k ∈ [mN, mH] → IsMp w k := by
    obtain ⟨bD, lN, lH, rfl, hi⟩ := hd
    intro k hk
    simp at hk
    rcases hk with rfl | rfl
    · exact hi.mapN.isMp
    · exact hi.mapH.isMp
  by_cases h0 : addE g id ps = 0
  · have ht := takes_of h0
    rw [h0] at R0 ⊢
    rw [addG_ok h0]
    have Ht := Lib.hid ht; clear ht h0
    obtain ⟨bD, lN, lH, rfl, hi⟩ := hd
    have Hi := Lib.hid hi; clear hi
    have Hw := Lib.hid hw; clear hw
    obtain ⟨pa, pc, rfl, hpc, hpm, hpn⟩ := hp.form
    obtain ⟨m, hmx⟩ : ∃ m, m = ps.length := ⟨_, rfl⟩
    rw [← hmx] at hp hpc hpn R0 ⊢
    have Hm := Lib.hid hmx; clear hmx
    have hps : ps.length ≤ 4096 := by have := nodup_len ps (ids g) (sorted_nodup Ht.out.rising.2) Ht.out.inn; rw [length_ids] at this; omega
    go_enter Tryz.func65, Tryz.ntmps65
    go_upto_region 4 with (go_at_call 150; refine R0.mono ?_; rintro e w1 ⟨rfl, f1⟩; have hp1 := hp.fr f1; have C1 := clone38 _ _ w1 hp1 (by omega); rw [← Hm.out] at C1)
    go_upto_region 5 with (go_at_call 151; refine C1.mono ?_; rintro e w2 ⟨uv, rfl, hu, f2⟩; obtain ⟨ua, uc, rfl⟩ := own_form hu)
    go_upto_region 6 with fail
    have f3 := (Fr.refl w2).alloc (.cells #[.slice ua m uc, .slice none 0 0, .int .i64 1] 235)
    have hus : Strs w2 (.slice ua m uc) ps := Strs.of_own hu (by omega)
    have hi2 := (Hi.out.fr (f1.then f2) (by simp) (by simp))
    have f12 := f1.then f2
    have hN0 : w.heap.size ≤ w2.heap.size := f12.size
    have hmaps2 : ∀ k, k ∈ [mN, mH] → IsMp w2 k := fun k hk => f12.mp (hmaps k hk)
    have hmN : mN < w2.heap.size := (hmaps2 mN (by simp)).lt
    have hmH : mH < w2.heap.size := (hmaps2 mH (by simp)).lt
    go_loopw [26] (fun i wr => ∃ (q : Nat) (lNq lHq : Ents), i = .int .i64 q ∧ q ≤ m ∧ Fr [mN, mH] w2 wr ∧ w2.heap.size < wr.heap.size ∧
      wr.cell? ⟨w2.heap.size, 0, none⟩ = some (.slice ua m uc) ∧ wr.cell? ⟨w2.heap.size, 1, none⟩ = some (.slice none 0 0) ∧ wr.cell? ⟨w2.heap.size, 2, none⟩ = some (.int .i64 ((maxD (deps g) (ps.take q) : Nat) + 1 : Int)) ∧ wr.frozen? ⟨w2.heap.size, 2, none⟩ = false ∧
      Mp wr mN lNq ∧ Mp wr mH lHq ∧ (∀ x, x ∈ keysL lNq ↔ x ∈ ids g) ∧ lNq.length = g.length ∧ (∀ x, x ∈ keysL lHq ↔ x ∈ heads g ∧ x ∉ ps.take q) ∧
      ∀ x, NodeQ w2.heap.size w2 wr g id (ps.take q) ((lk lNq x).getD zeroNode) x) (fun i _ => m - (intOf i).toNat)
    case atStart =>
      refine ⟨0, lN, lH, rfl, Nat.zero_le _, f3.more (by simp) hmaps2, by simp, by simp, by simp, by simp [maxD], by simp, hi2.mapN.fr f3 (by simp), hi2.mapH.fr f3 (by simp), hi2.keysN, hi2.lenN, fun x => by simp [hi2.keysH x], fun x => ?_⟩
      obtain ⟨pv, kv, e1, e2, e3⟩ := hi2.nodes x
      exact ⟨pv, kv, e1, e2, .inl ⟨by simp, e3⟩⟩
    case round =>
      obtain ⟨q, lNq, lHq, rfl, hq, hf, hbl, hN0, hN1, hN2, hNz, hMN, hMH, hkN, hlN, hkH, hnod⟩ := hrel
      obtain ⟨wo, rfl⟩ : ∃ wo : World, wo = wr := ⟨_, rfl⟩
      have HkN := Lib.hid hkN; clear hkN
      have HlN := Lib.hid hlN; clear hlN
      have HkH := Lib.hid hkH; clear hkH
      have Hnod := Lib.hid hnod; clear hnod
      by_cases hlt : q < m
      · have hT := Ht.out
        have HT := Lib.hid hT; clear hT
        have F0 : Fr [mN, mH] w wo := f12.before hf (fun x hx => (hmaps x hx).lt)
        have hpo := hp.fr F0
        obtain ⟨y, hy⟩ : ∃ y, ps[q]? = some y := ⟨_, List.getElem?_eq_getElem (Hm.out ▸ hlt)⟩
        obtain ⟨b, o, hidx, hcell⟩ := hpo.at_ Hm.out 51 9 Tryz.underlying51 Tryz.sizeOf9 q y hy
        have Hy := Lib.hid hy; clear hy
        have hyg : y ∈ ids g := HT.out.inn y (List.mem_of_getElem? Hy.out)
        have hyq : y ∉ ps.take q := fun h => nodup_take HT.out.rising.2 Hy.out h
        have Hyg := Lib.hid hyg; clear hyg
        have Hyq := Lib.hid hyq; clear hyq
        obtain ⟨pv, kv, hv, hv1, hv2⟩ := Hnod.out y
        have hv2 : Strs w2 kv (kids g y) := by
          rcases hv2 with h | h
          · exact h.2
          · exact absurd h.1 Hyq.out
        obtain ⟨ya, yc, rfl, hyl⟩ := hv1.form
        obtain ⟨ka, kc, rfl, hkl⟩ := hv2.form
        clear hyl hkl
        have hcD : wo.cell? ⟨bD, 0, none⟩ = some (.map (some mN)) := hf.cell hi2.c0
        have hcH : wo.cell? ⟨bD, 1, none⟩ = some (.map (some mH)) := hf.cell hi2.c1
        have hlk := hMN.look Tryz.underlying231 Tryz.underlying9 (z := zeroNode) (Tryz.zeroValue235 wo) y false
        rw [hv] at hlk
        simp only [Bool.false_eq_true, if_false] at hlk
        obtain ⟨kn, hkn⟩ : ∃ kn, kn = (kids g y).length := ⟨_, rfl⟩
        obtain ⟨pn, hpn'⟩ : ∃ pn, pn = (preds g y).length := ⟨_, rfl⟩
        obtain ⟨d, hdy⟩ : ∃ d, d = depth g y := ⟨_, rfl⟩
        obtain ⟨d0, hd0⟩ : ∃ d0, d0 = maxD (deps g) (ps.take q) := ⟨_, rfl⟩
        have hkn2 : kn ≤ 4096 := by have := length_kids (g := g) y; omega
        have hdl : d ≤ 4096 := by have := depth_le g y; omega
        rw [← hkn] at hlk hv2
        rw [← hpn'] at hlk hv1
        rw [← hdy] at hlk
        rw [← hd0] at hN2
        have Hkn := Lib.hid hkn; clear hkn
        have Hpn := Lib.hid hpn'; clear hpn'
        have Hdy := Lib.hid hdy; clear hdy
        have Hd0 := Lib.hid hd0; clear hd0
        have Hv := Lib.hid hv; clear hv
        have hw1 := i64_add1 d (by omega)
        have hne : (w2.heap.size = wo.heap.size) = False := by simp; omega
        go_upto_region 9 with fail
        obtain ⟨TT, hTT⟩ : ∃ TT, TT = wo.heap.size := ⟨_, rfl⟩
        have fA := (Fr.refl wo).alloc (.cells #[.slice ya pn yc, .slice ka kn kc, .int .i64 (d : Int)] 235)
        have hA0 : (wo.alloc (.cells #[.slice ya pn yc, .slice ka kn kc, .int .i64 (d : Int)] 235)).cell? ⟨TT, 0, none⟩ = some (.slice ya pn yc) := by rw [hTT]; simp
        have hA1 : (wo.alloc (.cells #[.slice ya pn yc, .slice ka kn kc, .int .i64 (d : Int)] 235)).cell? ⟨TT, 1, none⟩ = some (.slice ka kn kc) := by rw [hTT]; simp
        have hA2 : (wo.alloc (.cells #[.slice ya pn yc, .slice ka kn kc, .int .i64 (d : Int)] 235)).cell? ⟨TT, 2, none⟩ = some (.int .i64 (d : Int)) := by rw [hTT]; simp
        have hAz : (wo.alloc (.cells #[.slice ya pn yc, .slice ka kn kc, .int .i64 (d : Int)] 235)).frozen? ⟨TT, 1, none⟩ = false := by rw [hTT]; simp
        have hAs : TT < (wo.alloc (.cells #[.slice ya pn yc, .slice ka kn kc, .int .i64 (d : Int)] 235)).heap.size := by rw [hTT]; simp
        have HTT := Lib.hid hTT
        rw [← hTT]
        clear hTT
        generalize wo.alloc (.cells #[.slice ya pn yc, .slice ka kn kc, .int .i64 (d : Int)] 235) = wA at fA hA0 hA1 hA2 hAz hAs ⊢
        have hne : ¬ (w2.heap.size = TT) := by have := HTT.out; omega
        have hN2A := fA.cell hN2
        have hNzA := fA.fz hN2 hNz
        clear hlk
        go_upto_region 10 with fail
        have FA : Fr [mN, mH] w2 wA := hf.then fA
        have FB := FA.setCell (a := ⟨w2.heap.size, 2, none⟩) (Nat.le_refl _) (.int .i64 (max (d0 : Int) (d : Int) + 1))
        have UB := ((Up.refl w2.heap.size wo).fr fA (by simp)).set (a := ⟨w2.heap.size, 2, none⟩) (.inl (Nat.le_refl _)) (.int .i64 (max (d0 : Int) (d : Int) + 1))
        have hMNB := (hMN.fr fA (by simp)).set (a := ⟨w2.heap.size, 2, none⟩) (by simp; omega) (.int .i64 (max (d0 : Int) (d : Int) + 1))
        have hMHB := (hMH.fr fA (by simp)).set (a := ⟨w2.heap.size, 2, none⟩) (by simp; omega) (.int .i64 (max (d0 : Int) (d : Int) + 1))
        have hB0 := (World.cell?_setCell_other wA ⟨w2.heap.size, 2, none⟩ ⟨TT, 0, none⟩ (.int .i64 (max (d0 : Int) (d : Int) + 1)) (by simp [hne])).trans hA0
        have hB1 := (World.cell?_setCell_other wA ⟨w2.heap.size, 2, none⟩ ⟨TT, 1, none⟩ (.int .i64 (max (d0 : Int) (d : Int) + 1)) (by simp [hne])).trans hA1
        have hB2 := (World.cell?_setCell_other wA ⟨w2.heap.size, 2, none⟩ ⟨TT, 2, none⟩ (.int .i64 (max (d0 : Int) (d : Int) + 1)) (by simp [hne])).trans hA2
        have hBz := (World.frozen?_setCell wA ⟨w2.heap.size, 2, none⟩ ⟨TT, 1, none⟩ (.int .i64 (max (d0 : Int) (d : Int) + 1))).trans hAz
        have hBN0 := (World.cell?_setCell_other wA ⟨w2.heap.size, 2, none⟩ ⟨w2.heap.size, 0, none⟩ (.int .i64 (max (d0 : Int) (d : Int) + 1)) (by simp)).trans (fA.cell hN0)
        have hBN1 := (World.cell?_setCell_other wA ⟨w2.heap.size, 2, none⟩ ⟨w2.heap.size, 1, none⟩ (.int .i64 (max (d0 : Int) (d : Int) + 1)) (by simp)).trans (fA.cell hN1)
        have hBN2 := World.cell?_setCell_same (v := .int .i64 (max (d0 : Int) (d : Int) + 1)) wA ⟨w2.heap.size, 2, none⟩ hN2A
        have hBNz := (World.frozen?_setCell wA ⟨w2.heap.size, 2, none⟩ ⟨w2.heap.size, 2, none⟩ (.int .i64 (max (d0 : Int) (d : Int) + 1))).trans hNzA
        have hBs : TT < (wA.setCell ⟨w2.heap.size, 2, none⟩ (.int .i64 (max (d0 : Int) (d : Int) + 1))).heap.size := by simp [World.setCell]; exact hAs
        generalize wA.setCell ⟨w2.heap.size, 2, none⟩ (.int .i64 (max (d0 : Int) (d : Int) + 1)) = wB at FB UB hMNB hMHB hB0 hB1 hB2 hBz hBN0 hBN1 hBN2 hBNz hBs ⊢
        clear hA0 hA1 hA2 hAz hN2A hNzA hN0 hN1 hN2 hNz hMN hMH fA hcell hcD hcH
        have hkB := hv2.fr FB
        have RB := bin39 _ (kids g y) id wB hkB (by rw [← Hkn.out]; omega) (sorted_kids y)
        rw [← Hkn.out] at RB
        go_upto_region 11 with (go_at_call 152; refine RB.mono ?_; rintro e wC ⟨k, found, rfl, hk1, hk2, hk3, hdC⟩)
        clear RB
        have fC := hdC.fr
        have hC1 := fC.cell hB1
        have hkC := hkB.fr fC
        have RC := clone38 _ (kids g y) wC hkC (by rw [← Hkn.out]; omega)
        rw [← Hkn.out] at RC
        go_upto_region 12 with (go_at_call 151; refine RC.mono ?_; rintro e wD ⟨uk, rfl, hoD, fD⟩)
        clear RC
        have RE := ins40 wC.heap.size uk (kids g y) id k wD.heap.size (wD.alloc (.cells #[.string id] 9)) (by rw [← Hkn.out]; exact hk1) (by rw [← Hkn.out]; exact own_fr hoD ((Fr.refl wD).alloc _)) (by rw [← Hkn.out]; omega) (Nat.le_trans fD.size (by simp)) (MapKept.heap_alloc wD _).1 (fun x hx => by have := (hoD.lt x hx).2; omega)
        rw [← Hkn.out] at RE
        have fCz := fC.fz hB1 hBz
        go_upto_region 12 with (go_at_call 153; refine RE.mono ?_; rintro e wF ⟨bF, cF, rfl, hbF, hsF, hFF⟩; have FCF := hFF wC (fD.alloc _) (Nat.le_refl _); have hF1 := FCF.cell hC1; have hFz := FCF.fz hC1 fCz)
        clear RE
        have hkw : withL (kids g y) id = (kids g y).take k ++ [id] ++ (kids g y).drop k := withL_split hk2 (fun z hz => by
          have h1 := hk3 z (List.mem_iff_getElem?.2 ⟨0, by rw [List.getElem?_drop]; exact hz⟩)
          rcases blt_total id z with h | h | h
          · exact h
          · obtain ⟨nn, hn1, hn2, _⟩ := (mem_kids Hw.out).1 (List.mem_of_getElem? hz)
            exact absurd (List.mem_map.2 ⟨nn, hn1, by rw [hn2, ← h]⟩) HT.out.new
          · exact absurd h h1)
        rw [← hkw] at hsF
        have hTN : w2.heap.size < TT := by have := HTT.out; omega
        have FBF := fC.then FCF
        have FG := (FB.then FBF).setCell (a := ⟨TT, 1, none⟩) (by show w2.heap.size ≤ TT; omega) (.slice (some ⟨bF, 0, none⟩) (kn + 1) cF)
        have UG := (UB.fr FBF (by simp)).set (a := ⟨TT, 1, none⟩) (.inr (by have := HTT.out; show wo.heap.size ≤ TT; omega)) (.slice (some ⟨bF, 0, none⟩) (kn + 1) cF)
        have hMNG := (hMNB.fr FBF (by simp)).set (a := ⟨TT, 1, none⟩) (by show mN ≠ TT; omega) (.slice (some ⟨bF, 0, none⟩) (kn + 1) cF)
        have hMHG := (hMHB.fr FBF (by simp)).set (a := ⟨TT, 1, none⟩) (by show mH ≠ TT; omega) (.slice (some ⟨bF, 0, none⟩) (kn + 1) cF)
        have hG0 := (World.cell?_setCell_other wF ⟨TT, 1, none⟩ ⟨TT, 0, none⟩ (.slice (some ⟨bF, 0, none⟩) (kn + 1) cF) (by simp)).trans (FBF.cell hB0)
        have hG1 := World.cell?_setCell_same (v := .slice (some ⟨bF, 0, none⟩) (kn + 1) cF) wF ⟨TT, 1, none⟩ hF1
        have hG2 := (World.cell?_setCell_other wF ⟨TT, 1, none⟩ ⟨TT, 2, none⟩ (.slice (some ⟨bF, 0, none⟩) (kn + 1) cF) (by simp)).trans (FBF.cell hB2)
        have hGN0 := (World.cell?_setCell_other wF ⟨TT, 1, none⟩ ⟨w2.heap.size, 0, none⟩ (.slice (some ⟨bF, 0, none⟩) (kn + 1) cF) (fun e => by have := congrArg Addr.block e; simp at this; omega)).trans (FBF.cell hBN0)
        have hGN1 := (World.cell?_setCell_other wF ⟨TT, 1, none⟩ ⟨w2.heap.size, 1, none⟩ (.slice (some ⟨bF, 0, none⟩) (kn + 1) cF) (fun e => by have := congrArg Addr.block e; simp at this; omega)).trans (FBF.cell hBN1)
        have hGN2 := (World.cell?_setCell_other wF ⟨TT, 1, none⟩ ⟨w2.heap.size, 2, none⟩ (.slice (some ⟨bF, 0, none⟩) (kn + 1) cF) (fun e => by have := congrArg Addr.block e; simp at this; omega)).trans (FBF.cell hBN2)
        have hGNz := (World.frozen?_setCell wF ⟨TT, 1, none⟩ ⟨w2.heap.size, 2, none⟩ (.slice (some ⟨bF, 0, none⟩) (kn + 1) cF)).trans (FBF.fz hBN2 hBNz)
        have hbT : TT < bF := by have := fC.size; omega
        have UF := (Up.refl TT wF).set (a := ⟨TT, 1, none⟩) (.inl (Nat.le_refl _)) (.slice (some ⟨bF, 0, none⟩) (kn + 1) cF)
        have hsG := UF.strs hsF hbT
        have hGs : w2.heap.size < (wF.setCell ⟨TT, 1, none⟩ (.slice (some ⟨bF, 0, none⟩) (kn + 1) cF)).heap.size := by have := FBF.size; simp [World.setCell]; omega
        generalize wF.setCell ⟨TT, 1, none⟩ (.slice (some ⟨bF, 0, none⟩) (kn + 1) cF) = wG at FG UG hMNG hMHG hG0 hG1 hG2 hGN0 hGN1 hGN2 hGNz hsG hGs UF ⊢
        clear UF hB0 hB1 hB2 hBz hBN0 hBN1 hBN2 hBNz hBs hMNB hMHB hC1 hkC hkB hF1 hFz fCz
        have hcD := FG.cell hi2.c0
        refine wp_region_ordL [(0, false), (1, false), (2, false), (3, false), (4, false), (5, false), (6, true)] _ (by kernel_rfl) (by kernel_rfl) (by simp only [pick, List.filterMap_cons, List.filterMap_nil, List.getElem?_cons_succ, List.getElem?_cons_zero, Option.map_some]; rfl) ?_
        have fd := (Fr.refl wG).drew
        have x1 := Ext.cell (fd.cell hcD)
        have x2 := Ext.cell (fd.cell hG0)
        have x3 := Ext.cell (fd.cell hG1)
        have x4 := Ext.cell (fd.cell hG2)
        repeat (with_reducible refine wpO_q (fun K hK => ?_); go_simp; refine hK _ ?_; clear hK K)
        refine wpO_e (fun K hK => ?_)
        go_simp
        intro w6 hw6
        have g6 := fd.then hw6
        obtain ⟨w7, hrun, hMN7, hfr7⟩ := (hMNG.fr g6 (by simp)).put Tryz.underlying231 Tryz.underlying9 y (.agg #[.slice ya pn yc, .slice (some ⟨bF, 0, none⟩) (kn + 1) cF, .int .i64 (d : Int)])
        clear x1 x2 x3 x4
        go_simp
        refine hK _ _ ?_
        clear hK K hrun
        refine wpO_nil (fun w8 hw8 => ?_)
        have g8 : Fr [mN] wG w8 := (fd.then hw6).before (hfr7.then hw8) (fun x hx => by simp at hx; subst hx; exact hMNG.lt)
        have hMN8 := hMN7.fr hw8 (by simp)
        have hMH8 := hMHG.fr g8 (by simpa using hi2.ne.symm)
        have hcH8 := (FG.trans g8 (fun x hx => .inl (by simp at hx ⊢; simp [hx]))).cell hi2.c1
        obtain ⟨w9, hdel, hMH9, hfr9⟩ := hMH8.del Tryz.underlying224 Tryz.underlying9 y 0
        go_wp2
        go_roundw
        case rel =>
          have F9 : Fr [mN, mH] w2 w9 := (FG.trans g8 (fun x hx => .inl (by simp at hx ⊢; simp [hx]))).trans hfr9 (fun x hx => .inl (by simp at hx ⊢; simp [hx]))
          have U9 : Up w2.heap.size wo w9 := (UG.fr g8 (fun x hx => by simp at hx; omega)).fr hfr9 (fun x hx => by simp at hx; omega)
          have UG9 : Up w2.heap.size wG w9 := ((Up.refl _ wG).fr g8 (fun x hx => by simp at hx; omega)).fr hfr9 (fun x hx => by simp at hx; omega)
          have f89 := hfr9
          refine ⟨q + 1, _, _, by go_num, by omega, F9, Nat.lt_of_lt_of_le hGs UG9.size, f89.cell (g8.cell hGN0), f89.cell (g8.cell hGN1), ?_, f89.fz (g8.cell hGN2) (g8.fz hGN2 hGNz), hMN8.fr f89 (by simpa using hi2.ne), hMH9, fun x => ?_, ?_, fun x => ?_, fun x => ?_⟩
          · rw [f89.cell (g8.cell hGN2), maxD_snoc Hy.out, ← Hd0.out]
            have : lookD (deps g) y = d := Hdy.out.symm
            rw [this]
            congr 2; omega
          · rw [keys_up, HkN.out]
            exact ⟨fun h => h.elim (fun e => by rw [e]; exact Hyg.out) _root_.id, .inr⟩
          · rw [len_up, if_pos ((HkN.out y).2 Hyg.out), HlN.out]
          · rw [keys_rm, HkH.out, take_snoc Hy.out, List.mem_append, List.mem_singleton]
            exact ⟨fun h => ⟨h.2.1, fun h' => h'.elim h.2.2 h.1⟩, fun h => ⟨fun e => h.2 (.inr e), h.1, fun h' => h.2 (.inl h')⟩⟩
          · rw [lk_up]
            by_cases hxy : x = y
            · subst hxy
              rw [if_pos rfl]
              refine ⟨.slice ya pn yc, _, by rw [← Hdy.out]; rfl, hv1, .inr ⟨?_, bF, kn + 1, cF, rfl, by omega, UG9.strs hsG (by omega)⟩⟩
              rw [take_snoc Hy.out]; simp
            · rw [if_neg hxy]
              obtain ⟨pv, kv, e1, e2, e3⟩ := Hnod.out x
              refine ⟨pv, kv, e1, e2, ?_⟩
              rw [take_snoc Hy.out, List.mem_append, List.mem_singleton]
              rcases e3 with ⟨h1, h2⟩ | ⟨h1, b', n', c', rfl, h3, h4⟩
              · exact .inl ⟨fun h => h.elim h1 hxy, h2⟩
              · exact .inr ⟨.inl h1, b', n', c', rfl, h3, U9.strs h4 h3⟩
        case measure => simp [intOf]; omega
      · obtain rfl : q = m := by omega
        have hcD : w2.cell? ⟨bD, 0, none⟩ = some (.map (some mN)) := hi2.c0
        have hcH : w2.cell? ⟨bD, 1, none⟩ = some (.map (some mH)) := hi2.c1
        go_upto_region 15 with fail
        refine wp_region_ordL [(0, false), (1, false), (2, false), (3, false), (4, false), (5, false), (6, true)] _ (by kernel_rfl) (by kernel_rfl) (by simp only [pick, List.filterMap_cons, List.filterMap_nil, List.getElem?_cons_succ, List.getElem?_cons_zero, Option.map_some]; rfl) ?_
        have fd := (Fr.refl wo).drew
        have x1 := Ext.cell (fd.cell (hf.cell hcD))
        have x2 := Ext.cell (fd.cell hN0)
        have x3 := Ext.cell (fd.cell hN1)
        have x4 := Ext.cell (fd.cell hN2)
        repeat (with_reducible refine wpO_q (fun K hK => ?_); go_simp; refine hK _ ?_; clear hK K)
        refine wpO_e (fun K hK => ?_)
        go_simp
        intro w6 hw6
        have g6 := fd.then hw6
        obtain ⟨w7, hrun, hMN7, hfr7⟩ := (hMN.fr g6 (by simp)).put Tryz.underlying231 Tryz.underlying9 id (.agg #[.slice ua q uc, .slice none 0 0, .int .i64 ((maxD (deps g) (ps.take q) : Nat) + 1 : Int)])
        clear x1 x2 x3 x4
        go_simp
        refine hK _ _ ?_
        clear hK K hrun
        refine wpO_nil (fun w8 hw8 => ?_)
        have g8 : Fr [mN] wo w8 := (fd.then hw6).before (hfr7.then hw8) (fun x hx => by simp at hx; subst hx; exact hMN.lt)
        have hcH8 := g8.cell (hf.cell hcH)
        have hN28 := g8.cell hN2
        go_upto_region 16 with fail
        refine wp_region_ordL [(0, false), (1, false), (2, false), (3, false), (4, false), (5, false), (6, false), (7, true)] _ (by kernel_rfl) (by kernel_rfl) (by simp only [pick, List.filterMap_cons, List.filterMap_nil, List.getElem?_cons_succ, List.getElem?_cons_zero, Option.map_some]; rfl) ?_
        have fd2 := (Fr.refl w8).drew
        have x1 := Ext.cell (fd2.cell hcH8)
        have x4 := Ext.cell (fd2.cell hN28)
        repeat (with_reducible refine wpO_q (fun K hK => ?_); go_simp; refine hK _ ?_; clear hK K)
        refine wpO_e (fun K hK => ?_)
        go_simp
        intro w9 hw9
        have g9 := fd2.then hw9
        obtain ⟨w10, hrun, hMH10, hfr10⟩ := (hMH.fr g8 (by simpa using hi2.ne.symm)).fr g9 (by simp) |>.put Tryz.underlying224 Tryz.underlying9 id (.int .i64 ((maxD (deps g) (ps.take q) : Nat) + 1 : Int))
        clear x1 x4
        go_simp
        refine hK _ _ ?_
        clear hK K hrun
        refine wpO_nil (fun w11 hw11 => ?_)
        have g11 : Fr [mH] w8 w11 := (fd2.then hw9).before (hfr10.then hw11) (fun x hx => by simp at hx; subst hx; exact (hMH.fr g8 (by simpa using hi2.ne.symm)).lt)
        go_wp2
        go_ret
        have hT := Ht.out
        have hW := Hw.out
        have etake : ps.take q = ps := List.take_of_length_le (by have := Hm.out; omega)
        have F2 : Fr [mN, mH] w2 w11 := (hf.trans g8 (fun x hx => .inl (by simp at hx ⊢; simp [hx]))).trans g11 (fun x hx => .inl (by simp at hx ⊢; simp [hx]))
        have F1 : Fr [mN, mH] w w11 := f12.before F2 (fun x hx => (hmaps x hx).lt)
        have hU : Up w2.heap.size wo w11 := ((Up.refl _ wo).fr g8 (fun x hx => by simp at hx; omega)).fr g11 (fun x hx => by simp at hx; omega)
        have hidps : id ∉ ps := fun h => hT.new (hT.inn id h)
        refine ⟨rfl, ⟨bD, _, _, rfl, F1.cell Hi.out.c0, F1.cell Hi.out.c1, Hi.out.ne, (hMN7.fr hw8 (by simp)).fr g11 (by simpa using hi2.ne), hMH10.fr hw11 (by simp), fun x => ?_, ?_, fun x => ?_, fun x => ?_⟩, F1⟩
        · rw [keys_up, HkN.out, ids_app]; simp [or_comm]
        · rw [len_up, if_neg (fun h => hT.new ((HkN.out _).1 h)), HlN.out]; simp
        · rw [lk_up]
          by_cases hx : x = id
          · subst hx
            rw [if_pos rfl]
            refine ⟨.slice ua q uc, .slice none 0 0, by rw [hT.depth_new, etake]; simp, ?_, ?_⟩
            · rw [hT.preds_new]; exact hus.fr F2
            · rw [hT.kidsE, if_neg hidps, kids_none hW hT.new]; exact Strs.nil _
          · rw [if_neg hx]
            obtain ⟨pv, kv, e1, e2, e3⟩ := Hnod.out x
            refine ⟨pv, kv, by rw [hT.depth_old x hx]; exact e1, by rw [Takes.preds_old x hx]; exact e2.fr F2, ?_⟩
            rw [hT.kidsE]
            rw [etake] at e3
            rcases e3 with ⟨h1, h2⟩ | ⟨h1, b, n, c, rfl, h3, h4⟩
            · rw [if_neg h1]; exact h2.fr F2
            · rw [if_pos h1]; exact hU.strs h4 h3
        · rw [keys_up, HkH.out, hT.headsE hW, etake]
  · rw [addG_no h0]
    have H0 := Lib.hid h0
    go_enter Tryz.func65, Tryz.ntmps65
    go_wp2_with (go_at_call 150; refine R0.mono ?_; rintro e w1 ⟨rfl, f1⟩)
    go_ret
    exact ⟨rfl, hd.fr f1 (by simp) (by simp), f1.more (by simp) hmaps⟩
end Go.Proofs.YtppgjglfoibfcaaGreat
