import Derived.Test.YtnebdfpjjpbolaaLAhead
set_option linter.unusedSimpArgs false
set_option linter.unusedVariables false
/-
  The law DagClones, walked.
-/
namespace Go.Proofs.Ytnebdfpjjpbolaa
open Go.RowKit

def makeF (g : G) (A : List Nd) : G := A.foldl (fun g n => addG g n.id n.preds) g
theorem makeF_take {g : G} {L : List Nd} {k : Nat} {n : Nd} (h : L[k]? = some n) : makeF g (L.take (k + 1)) = addG (makeF g (L.take k)) n.id n.preds := by
  rw [take_snoc h]; simp [makeF, List.foldl_append]
theorem wf_makeF {g : G} (hw : Wf g) (L : List Nd) : Wf (makeF g L) := by
  induction L using snoc_ind with
  | nil => exact hw
  | snoc l x ih => simp only [makeF, List.foldl_append, List.foldl_cons, List.foldl_nil]; exact wf_addG ih
theorem len_makeFl (g : G) (L : List Nd) : (makeF g L).length ≤ g.length + L.length := by
  induction L using snoc_ind with
  | nil => simp [makeF]
  | snoc l x ih =>
    simp only [makeF, List.foldl_append, List.foldl_cons, List.foldl_nil, List.length_append, List.length_singleton]
    have := len_addG (makeF g l) x.id x.preds
    simp only [makeF] at this ih
    omega
theorem len_takeF {g : G} {L : List Nd} {k : Nat} (hg : g.length ≤ 30) (hL : L.length ≤ 30) : (makeF g (L.take k)).length ≤ 4096 := by
  have := len_makeFl g (L.take k); simp at this; omega

theorem refuseN (id : BS) (pv : Value) (w : World) : Calls Try.prog 37 #[.pointer none, .string id, pv] w fun e w' => e = .returned (.int .i64 8) ∧ Fr [] w w' := by
  have f0 := (Fr.refl w).alloc (.cells #[.pointer none] 23)
  have hc0 := World.cell?_alloc_new (w := w) #[.pointer none] 23 0
  go_enter Try.func37, Try.ntmps37
  go_wp2
  go_ret
  exact ⟨rfl, f0⟩
theorem addN (id : BS) (pv : Value) (w : World) : Calls Try.prog 12 #[.pointer none, .string id, pv] w fun e w' => e = .returned (.int .i64 8) ∧ Fr [] w w' := by
  go_enter Try.func12, Try.ntmps12
  go_wp2_with (go_at_call 37; refine (refuseN _ _ _).mono ?_; rintro e w1 ⟨rfl, f⟩)
  go_ret
  exact ⟨rfl, f⟩
theorem nilR (w : World) : DagR w (.pointer none) [] := .inl ⟨rfl, rfl⟩
theorem hasNil (x : BS) (w : World) : Calls Try.prog 18 #[.pointer none, .string x] w fun e w' => e = .returned (.bool false) ∧ Fr [] w w' := has18 _ x [] w (nilR w)
theorem lenNil (w : World) : Calls Try.prog 30 #[.pointer none] w fun e w' => e = .returned (.int .i64 0) ∧ w = w' := len30 _ [] w (nilR w)
theorem predsNil (x : BS) (w : World) : Calls Try.prog 22 #[.pointer none, .string x] w fun e w' => ∃ u, e = .returned u ∧ Strs w' u [] ∧ Fr [] w w' := predsD _ x [] w (nilR w) w0 (by decide)
theorem kidsNil (x : BS) (w : World) : Calls Try.prog 24 #[.pointer none, .string x] w fun e w' => ∃ u, e = .returned u ∧ Strs w' u [] ∧ Fr [] w w' := kidsD _ x [] w (nilR w) w0 (by decide)
theorem headsNil (w : World) : Calls Try.prog 34 #[.pointer none] w fun e w' => ∃ u, e = .returned u ∧ Strs w' u [] ∧ Fr [] w w' := heads34 _ [] w (nilR w) w0 (by decide)
theorem depthNil (x : BS) (w : World) : Calls Try.prog 20 #[.pointer none, .string x] w fun e w' => e = .returned (.int .i64 0) ∧ Fr [] w w' := depthD _ x [] w (nilR w)
theorem orderNil (w : World) : Calls Try.prog 28 #[.pointer none] w fun e w' => ∃ u, e = .returned u ∧ Strs w' u [] ∧ Fr [] w w' := orderD _ [] w (nilR w) w0 (by decide)
theorem aheadNil (x y : BS) (w : World) : Calls Try.prog 26 #[.pointer none, .string x, .string y] w fun e w' => e = .returned (.bool false) ∧ Fr [] w w' := by
  have := aheadD _ x y [] w (nilR w) w0 (by decide)
  have h : aheadB [] x y = false := by unfold aheadB; simp [ids]
  rwa [h] at this
theorem pastNil {u : Value} {l : List BS} {w : World} (hu : Strs w u l) : Calls Try.prog 16 #[.pointer none, u] w fun e w' => ∃ u, e = .returned u ∧ Strs w' u [] ∧ Fr [] w w' := pastD _ u l [] w (nilR w) w0 hu (by decide)

/-- Two pairs of maps that have none in common. -/
structure Ne4 (a b c d : Nat) : Prop where
  l1 : a ∉ [c, d]
  l2 : b ∉ [c, d]
  r1 : c ∉ [a, b]
  r2 : d ∉ [a, b]
theorem clone32x (v : Value) (mN mH : Nat) (g : G) (w : World) (hd : DagAt w v mN mH g) :
    Calls Try.prog 32 #[v] w fun e w' => ∃ u m1 m2, e = .returned u ∧ DagAt w' u m1 m2 g ∧ Ne4 mN mH m1 m2 ∧ (∀ k, k ∈ [m1, m2] → w.heap.size ≤ k) ∧ Fr [] w w' :=
  (clone32 v mN mH g w hd).mono fun e w' ⟨u, m1, m2, h1, h2, h3, h4, h5⟩ => by
    have k1 := (hd.maps mN (by simp)).lt
    have k2 := (hd.maps mH (by simp)).lt
    exact ⟨u, m1, m2, h1, h2, ⟨by simp; omega, by simp; omega, by simp; omega, by simp; omega⟩, fun k hk => by simp at hk; omega, h5⟩
theorem boundF {S : List Nat} {w w1 w2 : World} (h : ∀ k, k ∈ S → w2.heap.size ≤ k) (f1 : Fr [] w w1) (f : Fr [] w1 w2) : ∀ k, k ∈ S → w.heap.size ≤ k := fun k hk => Nat.le_trans f1.size (Nat.le_trans f.size (h k hk))

set_option maxRecDepth 100000 in
set_option maxHeartbeats 4000000 in
theorem dagClones7 (v va vb : Value) (L A B : List Nd) (w : World) (hs : Nodes w v L) (hsa : Nodes w va A) (hsb : Nodes w vb B) :
    Calls Try.prog 7 #[v, va, vb] w fun e w' => e = .returned (.bool true) ∧ Fr [] w w' := by
  obtain ⟨a, c, rfl, hc, hm, hn⟩ := hs.form
  obtain ⟨aa, ca, rfl, hca, hma, hna⟩ := hsa.form
  obtain ⟨ab, cb, rfl, hcb, hmb, hnb⟩ := hsb.form
  by_cases hF : Few L
  · have HF := Lib.hid hF; clear hF
    by_cases hFa : Few A
    · have HFa := Lib.hid hFa; clear hFa
      by_cases hFb : Few B
      · have HFb := Lib.hid hFb; clear hFb
        go_enter Try.func7, Try.ntmps7
        go_upto_region 6 with (first
          | (go_at_call 9; (with_reducible refine (fewT hs HF.out).mono ?_); rintro e wx ⟨rfl, rfl⟩)
          | (go_at_call 9; (with_reducible refine (fewT hsa HFa.out).mono ?_); rintro e wx ⟨rfl, rfl⟩)
          | (go_at_call 9; (with_reducible refine (fewT hsb HFb.out).mono ?_); rintro e wx ⟨rfl, rfl⟩)
          | (go_at_call 14; refine (make14 _ _ _ hs (Nat.le_trans HF.out.1 (by decide))).mono ?_; rintro e w1 ⟨dv, mN, mH, gv, rfl, hd, hmN, hmH, hg, f1⟩; obtain ⟨db, rfl⟩ := hd.ptr; obtain ⟨ga, gc, rfl, _⟩ := hg.form))
        have f2 := (Fr.refl w1).alloc (.cells #[.slice ga (makeG L).length gc] 27)
        have hR := (MapKept.heap_alloc w1 (.cells #[.slice ga (makeG L).length gc] 27)).1
        have hd := hd.fr f2 (by simp) (by simp)
        have hg := hg.fr f2
        have F := f1.then f2
        obtain ⟨R, hRR⟩ : ∃ R, R = w1.heap.size := ⟨_, rfl⟩
        have hRw : w.heap.size ≤ R := by rw [hRR]; exact f1.size
        rw [← hRR] at hR ⊢
        clear hRR
        generalize w1.alloc (.cells #[.slice ga (makeG L).length gc] 27) = wS at hd hg hR F ⊢
        clear f1 f2 hs
        have HmN : Hid (∀ k, k ∈ [mN, mH] → w.heap.size ≤ k) := Lib.hid (fun k hk => by simp at hk; rcases hk with rfl | rfl <;> assumption)
        clear hmN hmH
        have hlG := Lib.hid (len_makeF HF.out)
        have hwf := wf_makeG L
        generalize makeG L = g at hd hg hR hlG hwf ⊢
        have Hwf := Lib.hid hwf; clear hwf
        refine wp_region_ordX Fr.pre [5] (.op 0 2 (.op 2 0 (.alt 1 (.op 3 1 (.op 4 2 (.op 5 1 .fin))) 3 (.op 1 1 (.op 4 2 (.op 5 1 .fin)))))) _ (by kernel_rfl) (by kernel_rfl) (by simp only [pickX, List.getElem?_cons_succ, List.getElem?_cons_zero]; rfl) ?_
        have F0 := F
        have F := (Fr.refl wS).drew
        have hRl := row_lt hR
        have hRc := row_cell hR
        have hd := hd.fr F (by simp) (by simp)
        have hg := hg.fr F
        have hR := F.row hR
        have hRc := F.cell hRc
        have x_hRc := Ext.cell hRc
        repeat (first | (with_reducible refine wpX_q (fun K hK => ?_); go_simp; refine hK _ ?_; clear hK K) | (with_reducible refine wpX_p (fun K hK => ?_); go_simp; refine hK _ ?_; clear hK K))
        refine wpX_alt ?h1 ?h2
        case' h1 =>
          intro K hK
          (go_simp; intro wq hq; have F := F.then hq; (try clear x_hRc); have hd := hd.fr (hq) List.not_mem_nil List.not_mem_nil; have hg := hg.fr (hq); have hR := (hq).row hR; have hRc := (hq).cell hRc; refine (clone32x _ _ _ _ _ hd).mono ?_; rintro e wp ⟨kv, m1, m2, rfl, hk, hne, hm1, g1⟩; have hd := hd.fr (g1) List.not_mem_nil List.not_mem_nil; have hg := hg.fr (g1); have hR := (g1).row hR; have hRc := (g1).cell hRc; obtain ⟨kb, rfl⟩ := hk.ptr; have hm1 := boundF hm1 F0 F; have F := F.then (g1); refine ⟨_, rfl, (g1), hK _ _ ?_⟩; clear hK K hq; have x_hRc := Ext.cell hRc; )
          (refine wpX_e (fun K hK => ?_); go_simp; intro wq hq; have F := F.then hq; (try clear x_hRc); have hd := hd.fr (hq) List.not_mem_nil List.not_mem_nil; have hk := hk.fr (hq) List.not_mem_nil List.not_mem_nil; have hg := hg.fr (hq); have hR := (hq).row hR; have hRc := (hq).cell hRc; have hp_ := (Fr.refl wq).alloc (.cells #[.slice none 0 0] 27); have hd := hd.fr (hp_) List.not_mem_nil List.not_mem_nil; have hk := hk.fr (hp_) List.not_mem_nil List.not_mem_nil; have hg := hg.fr (hp_); have hR := (hp_).row hR; have hRc := (hp_).cell hRc; have hN := (MapKept.heap_alloc wq (.cells #[.slice none 0 0] 27)).1; obtain ⟨N_hN, e_hN⟩ : ∃ N, N = wq.heap.size := ⟨_, rfl⟩; have l_hN := F.size; rw [← e_hN] at l_hN hN ⊢; have F := F.then hp_; refine ⟨hp_, hK _ _ ?_⟩; clear hK K hq hp_ e_hN; have x_hRc := Ext.cell hRc; )
        case' h2 =>
          intro K hK
          (go_simp; intro wq hq; have F := F.then hq; (try clear x_hRc); have hd := hd.fr (hq) List.not_mem_nil List.not_mem_nil; have hg := hg.fr (hq); have hR := (hq).row hR; have hRc := (hq).cell hRc; have hp_ := (Fr.refl wq).alloc (.cells #[.slice none 0 0] 27); have hd := hd.fr (hp_) List.not_mem_nil List.not_mem_nil; have hg := hg.fr (hp_); have hR := (hp_).row hR; have hRc := (hp_).cell hRc; have hN := (MapKept.heap_alloc wq (.cells #[.slice none 0 0] 27)).1; obtain ⟨N_hN, e_hN⟩ : ∃ N, N = wq.heap.size := ⟨_, rfl⟩; have l_hN := F.size; rw [← e_hN] at l_hN hN ⊢; have F := F.then hp_; refine ⟨hp_, hK _ _ ?_⟩; clear hK K hq hp_ e_hN; have x_hRc := Ext.cell hRc; )
          (refine wpX_e (fun K hK => ?_); go_simp; intro wq hq; have F := F.then hq; (try clear x_hRc); have hd := hd.fr (hq) List.not_mem_nil List.not_mem_nil; have hg := hg.fr (hq); have hN := (hq).row hN; have hR := (hq).row hR; have hRc := (hq).cell hRc; refine (clone32x _ _ _ _ _ hd).mono ?_; rintro e wp ⟨kv, m1, m2, rfl, hk, hne, hm1, g1⟩; have hd := hd.fr (g1) List.not_mem_nil List.not_mem_nil; have hg := hg.fr (g1); have hN := (g1).row hN; have hR := (g1).row hR; have hRc := (g1).cell hRc; obtain ⟨kb, rfl⟩ := hk.ptr; have hm1 := boundF hm1 F0 F; have F := F.then (g1); refine ⟨_, rfl, (g1), hK _ _ ?_⟩; clear hK K hq; have x_hRc := Ext.cell hRc; )
        all_goals
          repeat (first | (with_reducible refine wpX_q (fun K hK => ?_); go_simp; refine hK _ ?_; clear hK K) | (with_reducible refine wpX_p (fun K hK => ?_); go_simp; refine hK _ ?_; clear hK K))
          (refine wpX_e (fun K hK => ?_); go_simp; intro wq hq; have F := F.then hq; (try clear x_hRc); have hd := hd.fr (hq) List.not_mem_nil List.not_mem_nil; have hk := hk.fr (hq) List.not_mem_nil List.not_mem_nil; have hg := hg.fr (hq); have hR := (hq).row hR; have hRc := (hq).cell hRc; have hN := (hq).row hN; have hc_ := row_cell hN; have hz_ := row_frozen hN; go_simp; refine hK _ _ ?_; clear hK K hq hc_ hz_)
          have hRN : R ≠ N_hN := by omega
          have hRwR := hRw
          have hRwN_hN : w.heap.size ≤ N_hN := Nat.le_trans F0.size l_hN
          have hd := hd.set hN (.slice ga g.length gc)
          have hk := hk.set hN (.slice ga g.length gc)
          have hg := hg.set (row_noText hN) (.slice ga g.length gc)
          have hR := row_far hR hRN (.slice ga g.length gc)
          have F := (F0.then F).setCell (a := ⟨N_hN, 0, none⟩) hRwN_hN (.slice ga g.length gc)
          have hN := row_set hN (.slice ga g.length gc)
          refine wpX_nil (fun wp hw => ?_)
          have hd := hd.fr hw (by simp) (by simp)
          have hk := hk.fr hw (by simp) (by simp)
          have hg := hg.fr hw
          have hR := hw.row hR
          have hN := hw.row hN
          have F := F.then hw
          have hgy := hg
          clear hw F0 hRl hRw l_hN hRc
          have HFal := HFa.out.1
          have HFbl := HFb.out.1
          obtain ⟨n, hnx⟩ : ∃ n, n = A.length := ⟨_, rfl⟩
          have n30 : A.length ≤ 30 := HFal
          rw [← hnx] at hsa hca hna HFal ⊢
          have HnA := Lib.hid hnx; clear hnx
          obtain ⟨m, hmx⟩ : ∃ n, n = B.length := ⟨_, rfl⟩
          have m30 : B.length ≤ 30 := HFbl
          rw [← hmx] at hsb hcb hnb HFbl ⊢
          have HnB := Lib.hid hmx; clear hmx
          have hsA := hsa
          have hsB := hsb
          clear hsa hsb
          obtain ⟨gy, hgyv⟩ : ∃ u, u = Value.slice ga g.length gc := ⟨_, rfl⟩
          have Hne := Lib.hid hne
          have Hm1 := Lib.hid hm1
          clear hne hm1
          go_wp2
          go_loopw [11] (fun i wr => ∃ (k : Nat) (gv : Value), i = .int .i64 k ∧ k ≤ n ∧ DagAt wr (.pointer (some ⟨db, 0, none⟩)) mN mH (makeF g (A.take k)) ∧ Nodes wr gv (makeF g (A.take k)) ∧ wr.heap[R]? = some (.cells #[gv] 27 (0, 0)) ∧
              DagAt wr (.pointer (some ⟨kb, 0, none⟩)) m1 m2 g ∧ Nodes wr (.slice ga g.length gc) g ∧ wr.heap[N_hN]? = some (.cells #[(.slice ga g.length gc)] 27 (0, 0)) ∧ Fr [] w wr) (fun i _ => n - (intOf i).toNat)
          case atStart => exact ⟨0, _, rfl, Nat.zero_le _, hd, hg, hR, hk, hgy, hN, F⟩
          case round =>
            obtain ⟨k, gv, rfl, hk_, hd, hg, hR, hk, hgy, hN, F⟩ := hrel
            have hRc := row_cell hR
            obtain ⟨ga1, gc1, rfl, _⟩ := hg.form
            by_cases hlt : k < n
            · obtain ⟨x, hx⟩ : ∃ x, A[k]? = some x := ⟨_, List.getElem?_eq_getElem (HnA.out ▸ hlt)⟩
              have hsr := hsA.fr F
              obtain ⟨b, o, pv, hidx, hcell0, hcell1, hp⟩ := hsr.at_ HnA.out 22 35 Try.underlying22 Try.sizeOf35 k x hx
              obtain ⟨pa, pc, rfl, _⟩ := hp.form
              have Hx := Lib.hid hx; clear hx hsr
              have hgl : (makeF g (A.take k)).length ≤ 4096 := len_takeF hlG.out n30
              go_upto_region 12 with fail
              refine wp_region_ordX Fr.pre [11] (.op 0 2 (.op 1 2 (.op 2 2 (.op 3 2 (.op 4 2 (.op 5 0 (.op 6 2 (.op 7 2 (.op 8 2 (.op 9 2 (.op 10 0 (.op 11 1 .fin)))))))))))) _ (by kernel_rfl) (by kernel_rfl) (by simp only [pickX, List.getElem?_cons_succ, List.getElem?_cons_zero]; rfl) ?_
              have F0 := F
              have F := (Fr.refl wr).drew
              have hd := hd.fr F (by simp) (by simp)
              have hk := hk.fr F (by simp) (by simp)
              have hg := hg.fr F
              have hgy := hgy.fr F
              have hp := hp.fr F
              have hcell0 := F.cell hcell0
              have hcell1 := F.cell hcell1
              have hR := F.row hR
              have hN := F.row hN
              have x_hc0 := Ext.cell hcell0
              have x_hc1 := Ext.cell hcell1
              clear hRc
              repeat (first | (with_reducible refine wpX_q (fun K hK => ?_); go_simp; refine hK _ ?_; clear hK K) | (with_reducible refine wpX_p (fun K hK => ?_); go_simp; refine hK _ ?_; clear hK K))
              refine wpX_e (fun K hK => ?_)
              go_simp
              intro wq hq
              have F := F0.then (F.then hq)
              have hd := hd.fr hq (by simp) (by simp)
              have hk := hk.fr hq (by simp) (by simp)
              have hg := hg.fr hq
              have hgy := hgy.fr hq
              have hp := hp.fr hq
              have hR := hq.row hR
              have hN := hq.row hN
              refine (add12 _ _ _ _ x.id x.preds _ _ hd (wf_makeF Hwf.out _) hp hgl).mono ?_
              rintro e wp ⟨rfl, hd, g1⟩
              have F := F.drop g1 HmN.out
              have hk := hk.fr g1 Hne.out.r1 Hne.out.r2
              have hg := hg.fr g1
              have hgy := hgy.fr g1
              have hR := g1.row hR
              have hN := g1.row hN
              refine ⟨_, rfl, hK _ _ ?_⟩
              clear hK K hq x_hc0 x_hc1 hp hcell0 hcell1 hidx g1 F0
              refine wpX_nil (fun wp hw => ?_)
              have hd := hd.fr hw (by simp) (by simp)
              have hk := hk.fr hw (by simp) (by simp)
              have hg := hg.fr hw
              have hgy := hgy.fr hw
              have hR := hw.row hR
              have hN := hw.row hN
              have F := F.then hw
              clear hw
              have hsr := hsA.fr F
              obtain ⟨b, o, pv, hidx, hcell0, hcell1, hp⟩ := hsr.at_ HnA.out 22 35 Try.underlying22 Try.sizeOf35 k x Hx.out
              obtain ⟨pa, pc, rfl, _⟩ := hp.form
              have hRc := row_cell hR
              go_upto_region 13 with fail
              refine wp_region_ordX Fr.pre [15] (.op 0 0 (.op 1 2 (.op 2 2 (.op 3 2 (.op 4 2 (.op 5 0 (.op 6 2 (.op 7 2 (.op 8 2 (.op 9 2 (.op 10 0 (.op 11 1 (.op 12 2 (.op 13 2 (.op 14 2 (.op 15 1 .fin)))))))))))))))) _ (by kernel_rfl) (by kernel_rfl) (by simp only [pickX, List.getElem?_cons_succ, List.getElem?_cons_zero]; rfl) ?_
              have F0 := F
              have F := (Fr.refl wp).drew
              have hd := hd.fr F (by simp) (by simp)
              have hk := hk.fr F (by simp) (by simp)
              have hg := hg.fr F
              have hgy := hgy.fr F
              have hp := hp.fr F
              have hcell0 := F.cell hcell0
              have hcell1 := F.cell hcell1
              have hRc := F.cell hRc
              have hR := F.row hR
              have hN := F.row hN
              have x_hc0 := Ext.cell hcell0
              have x_hc1 := Ext.cell hcell1
              have x_hRc := Ext.cell hRc
              repeat (first | (with_reducible refine wpX_q (fun K hK => ?_); go_simp; refine hK _ ?_; clear hK K) | (with_reducible refine wpX_p (fun K hK => ?_); go_simp; refine hK _ ?_; clear hK K))
              (refine wpX_e (fun K hK => ?_); go_simp; intro wq hq; have F := F.then hq; have hd := hd.fr (hq) List.not_mem_nil List.not_mem_nil; have hk := hk.fr (hq) List.not_mem_nil List.not_mem_nil; have hg := hg.fr (hq); have hgy := hgy.fr (hq); have hp := hp.fr (hq); have hR := (hq).row hR; have hN := (hq).row hN; refine (add16 _ _ _ _ _ _ hg hp (Nat.le_trans hgl (by decide))).mono ?_; rintro e wp ⟨⟨u, rfl, hu⟩, g1⟩; have hd := hd.fr (g1) List.not_mem_nil List.not_mem_nil; have hk := hk.fr (g1) List.not_mem_nil List.not_mem_nil; have hg := hg.fr (g1); have hgy := hgy.fr (g1); have hp := hp.fr (g1); have hR := (g1).row hR; have hN := (g1).row hN; obtain ⟨ua, uc, rfl, _⟩ := hu.form; have F := F.then (g1); refine ⟨_, rfl, (g1), hK _ _ ?_⟩; clear hK K hq; skip)
              clear x_hc0 x_hc1 x_hRc hcell0 hcell1 hRc hp hidx
              repeat (first | (with_reducible refine wpX_q (fun K hK => ?_); go_simp; refine hK _ ?_; clear hK K) | (with_reducible refine wpX_p (fun K hK => ?_); go_simp; refine hK _ ?_; clear hK K))
              (refine wpX_e (fun K hK => ?_); go_simp; intro wq hq; have F := F.then hq; have hd := hd.fr (hq) List.not_mem_nil List.not_mem_nil; have hk := hk.fr (hq) List.not_mem_nil List.not_mem_nil; have hu := hu.fr (hq); have hg := hg.fr (hq); have hgy := hgy.fr (hq); have hN := (hq).row hN; have hR := (hq).row hR; have hc_ := row_cell hR; have hz_ := row_frozen hR; go_simp; refine hK _ _ ?_; clear hK K hq hc_ hz_)
              have hd := hd.set hR (.slice ua (addG (makeF g (A.take k)) x.id x.preds).length uc)
              have hk := hk.set hR (.slice ua (addG (makeF g (A.take k)) x.id x.preds).length uc)
              have hg := hu.set (row_noText hR) (.slice ua (addG (makeF g (A.take k)) x.id x.preds).length uc)
              have hgy := hgy.set (row_noText hR) (.slice ua (addG (makeF g (A.take k)) x.id x.preds).length uc)
              have hN := row_far hN hRN.symm (.slice ua (addG (makeF g (A.take k)) x.id x.preds).length uc)
              have F := (F0.then F).setCell (a := ⟨R, 0, none⟩) hRwR (.slice ua (addG (makeF g (A.take k)) x.id x.preds).length uc)
              have hR := row_set hR (.slice ua (addG (makeF g (A.take k)) x.id x.preds).length uc)
              clear hu
              repeat (first | (with_reducible refine wpX_q (fun K hK => ?_); go_simp; refine hK _ ?_; clear hK K) | (with_reducible refine wpX_p (fun K hK => ?_); go_simp; refine hK _ ?_; clear hK K))
              refine wpX_nil (fun wq hw => ?_)
              have hd := hd.fr hw (by simp) (by simp)
              have hk := hk.fr hw (by simp) (by simp)
              have hg := hg.fr hw
              have hgy := hgy.fr hw
              have hR := hw.row hR
              have hN := hw.row hN
              have F := F.then hw
              clear hw F0
              go_wp2
              go_roundw
              case rel => exact ⟨k + 1, _, by go_num, by omega, by rw [makeF_take Hx.out]; exact hd, by rw [makeF_take Hx.out]; exact hg, hR, hk, hgy, hN, F⟩
              case measure => simp [intOf]; omega
            · clear hRc
              have hAk : A.take k = A := List.take_of_length_le (by have := HnA.out; omega)
              have hgA : (makeF g A).length ≤ 4096 := by have := len_makeFl g A; have := hlG.out; omega
              have hwA := wf_makeF Hwf.out A
              rw [hAk] at hd hg hR
              clear hAk
              have hgA := Lib.hid hgA
              have hwA := Lib.hid hwA
              generalize makeF g A = gA at hd hg hR hgA hwA
              obtain ⟨ga2, gc2, e2⟩ : ∃ a c, Value.slice ga1 gA.length gc1 = .slice a gA.length c := ⟨_, _, rfl⟩
              rw [e2] at hg hR
              clear e2
              go_wp2
              go_loopw [12] (fun i wr => ∃ (k : Nat) (gv : Value), i = .int .i64 k ∧ k ≤ m ∧ DagAt wr (.pointer (some ⟨kb, 0, none⟩)) m1 m2 (makeF g (B.take k)) ∧ Nodes wr gv (makeF g (B.take k)) ∧ wr.heap[N_hN]? = some (.cells #[gv] 27 (0, 0)) ∧
                  DagAt wr (.pointer (some ⟨db, 0, none⟩)) mN mH gA ∧ Nodes wr (.slice ga2 gA.length gc2) gA ∧ wr.heap[R]? = some (.cells #[.slice ga2 gA.length gc2] 27 (0, 0)) ∧ Fr [] w wr) (fun i _ => m - (intOf i).toNat)
              case atStart => exact ⟨0, _, rfl, Nat.zero_le _, hk, hgy, hN, hd, hg, hR, F⟩
              case round =>
                obtain ⟨k, gv, rfl, hk_, hk, hgy, hN, hd, hg, hR, F⟩ := hrel
                have hRc := row_cell hN
                obtain ⟨ga1, gc1, rfl, _⟩ := hgy.form
                by_cases hlt : k < m
                · obtain ⟨x, hx⟩ : ∃ x, B[k]? = some x := ⟨_, List.getElem?_eq_getElem (HnB.out ▸ hlt)⟩
                  have hsr := hsB.fr F
                  obtain ⟨b, o, pv, hidx, hcell0, hcell1, hp⟩ := hsr.at_ HnB.out 22 35 Try.underlying22 Try.sizeOf35 k x hx
                  obtain ⟨pa, pc, rfl, _⟩ := hp.form
                  have Hx := Lib.hid hx; clear hx hsr
                  have hgl : (makeF g (B.take k)).length ≤ 4096 := len_takeF hlG.out m30
                  go_upto_region 17 with fail
                  refine wp_region_ordX Fr.pre [11] (.op 0 2 (.op 1 2 (.op 2 2 (.op 3 2 (.op 4 2 (.op 5 0 (.op 6 2 (.op 7 2 (.op 8 2 (.op 9 2 (.op 10 0 (.op 11 1 .fin)))))))))))) _ (by kernel_rfl) (by kernel_rfl) (by simp only [pickX, List.getElem?_cons_succ, List.getElem?_cons_zero]; rfl) ?_
                  have F0 := F
                  have F := (Fr.refl wr).drew
                  have hk := hk.fr F (by simp) (by simp)
                  have hd := hd.fr F (by simp) (by simp)
                  have hgy := hgy.fr F
                  have hg := hg.fr F
                  have hp := hp.fr F
                  have hcell0 := F.cell hcell0
                  have hcell1 := F.cell hcell1
                  have hN := F.row hN
                  have hR := F.row hR
                  have x_hc0 := Ext.cell hcell0
                  have x_hc1 := Ext.cell hcell1
                  clear hRc
                  repeat (first | (with_reducible refine wpX_q (fun K hK => ?_); go_simp; refine hK _ ?_; clear hK K) | (with_reducible refine wpX_p (fun K hK => ?_); go_simp; refine hK _ ?_; clear hK K))
                  refine wpX_e (fun K hK => ?_)
                  go_simp
                  intro wq hq
                  have F := F0.then (F.then hq)
                  have hk := hk.fr hq (by simp) (by simp)
                  have hd := hd.fr hq (by simp) (by simp)
                  have hgy := hgy.fr hq
                  have hg := hg.fr hq
                  have hp := hp.fr hq
                  have hN := hq.row hN
                  have hR := hq.row hR
                  refine (add12 _ _ _ _ x.id x.preds _ _ hk (wf_makeF Hwf.out _) hp hgl).mono ?_
                  rintro e wp ⟨rfl, hk, g1⟩
                  have F := F.drop g1 Hm1.out
                  have hd := hd.fr g1 Hne.out.l1 Hne.out.l2
                  have hgy := hgy.fr g1
                  have hg := hg.fr g1
                  have hN := g1.row hN
                  have hR := g1.row hR
                  refine ⟨_, rfl, hK _ _ ?_⟩
                  clear hK K hq x_hc0 x_hc1 hp hcell0 hcell1 hidx g1 F0
                  refine wpX_nil (fun wp hw => ?_)
                  have hk := hk.fr hw (by simp) (by simp)
                  have hd := hd.fr hw (by simp) (by simp)
                  have hgy := hgy.fr hw
                  have hg := hg.fr hw
                  have hN := hw.row hN
                  have hR := hw.row hR
                  have F := F.then hw
                  clear hw
                  have hsr := hsB.fr F
                  obtain ⟨b, o, pv, hidx, hcell0, hcell1, hp⟩ := hsr.at_ HnB.out 22 35 Try.underlying22 Try.sizeOf35 k x Hx.out
                  obtain ⟨pa, pc, rfl, _⟩ := hp.form
                  have hRc := row_cell hN
                  go_upto_region 18 with fail
                  refine wp_region_ordX Fr.pre [15] (.op 0 0 (.op 1 2 (.op 2 2 (.op 3 2 (.op 4 2 (.op 5 0 (.op 6 2 (.op 7 2 (.op 8 2 (.op 9 2 (.op 10 0 (.op 11 1 (.op 12 2 (.op 13 2 (.op 14 2 (.op 15 1 .fin)))))))))))))))) _ (by kernel_rfl) (by kernel_rfl) (by simp only [pickX, List.getElem?_cons_succ, List.getElem?_cons_zero]; rfl) ?_
                  have F0 := F
                  have F := (Fr.refl wp).drew
                  have hk := hk.fr F (by simp) (by simp)
                  have hd := hd.fr F (by simp) (by simp)
                  have hgy := hgy.fr F
                  have hg := hg.fr F
                  have hp := hp.fr F
                  have hcell0 := F.cell hcell0
                  have hcell1 := F.cell hcell1
                  have hRc := F.cell hRc
                  have hN := F.row hN
                  have hR := F.row hR
                  have x_hc0 := Ext.cell hcell0
                  have x_hc1 := Ext.cell hcell1
                  have x_hRc := Ext.cell hRc
                  repeat (first | (with_reducible refine wpX_q (fun K hK => ?_); go_simp; refine hK _ ?_; clear hK K) | (with_reducible refine wpX_p (fun K hK => ?_); go_simp; refine hK _ ?_; clear hK K))
                  (refine wpX_e (fun K hK => ?_); go_simp; intro wq hq; have F := F.then hq; have hk := hk.fr (hq) List.not_mem_nil List.not_mem_nil; have hd := hd.fr (hq) List.not_mem_nil List.not_mem_nil; have hgy := hgy.fr (hq); have hg := hg.fr (hq); have hp := hp.fr (hq); have hN := (hq).row hN; have hR := (hq).row hR; refine (add16 _ _ _ _ _ _ hgy hp (Nat.le_trans hgl (by decide))).mono ?_; rintro e wp ⟨⟨u, rfl, hu⟩, g1⟩; have hk := hk.fr (g1) List.not_mem_nil List.not_mem_nil; have hd := hd.fr (g1) List.not_mem_nil List.not_mem_nil; have hgy := hgy.fr (g1); have hg := hg.fr (g1); have hp := hp.fr (g1); have hN := (g1).row hN; have hR := (g1).row hR; obtain ⟨ua, uc, rfl, _⟩ := hu.form; have F := F.then (g1); refine ⟨_, rfl, (g1), hK _ _ ?_⟩; clear hK K hq; skip)
                  clear x_hc0 x_hc1 x_hRc hcell0 hcell1 hRc hp hidx
                  repeat (first | (with_reducible refine wpX_q (fun K hK => ?_); go_simp; refine hK _ ?_; clear hK K) | (with_reducible refine wpX_p (fun K hK => ?_); go_simp; refine hK _ ?_; clear hK K))
                  (refine wpX_e (fun K hK => ?_); go_simp; intro wq hq; have F := F.then hq; have hk := hk.fr (hq) List.not_mem_nil List.not_mem_nil; have hd := hd.fr (hq) List.not_mem_nil List.not_mem_nil; have hu := hu.fr (hq); have hgy := hgy.fr (hq); have hg := hg.fr (hq); have hR := (hq).row hR; have hN := (hq).row hN; have hc_ := row_cell hN; have hz_ := row_frozen hN; go_simp; refine hK _ _ ?_; clear hK K hq hc_ hz_)
                  have hk := hk.set hN (.slice ua (addG (makeF g (B.take k)) x.id x.preds).length uc)
                  have hd := hd.set hN (.slice ua (addG (makeF g (B.take k)) x.id x.preds).length uc)
                  have hgy := hu.set (row_noText hN) (.slice ua (addG (makeF g (B.take k)) x.id x.preds).length uc)
                  have hg := hg.set (row_noText hN) (.slice ua (addG (makeF g (B.take k)) x.id x.preds).length uc)
                  have hR := row_far hR hRN (.slice ua (addG (makeF g (B.take k)) x.id x.preds).length uc)
                  have F := (F0.then F).setCell (a := ⟨N_hN, 0, none⟩) hRwN_hN (.slice ua (addG (makeF g (B.take k)) x.id x.preds).length uc)
                  have hN := row_set hN (.slice ua (addG (makeF g (B.take k)) x.id x.preds).length uc)
                  clear hu
                  repeat (first | (with_reducible refine wpX_q (fun K hK => ?_); go_simp; refine hK _ ?_; clear hK K) | (with_reducible refine wpX_p (fun K hK => ?_); go_simp; refine hK _ ?_; clear hK K))
                  refine wpX_nil (fun wq hw => ?_)
                  have hk := hk.fr hw (by simp) (by simp)
                  have hd := hd.fr hw (by simp) (by simp)
                  have hgy := hgy.fr hw
                  have hg := hg.fr hw
                  have hN := hw.row hN
                  have hR := hw.row hR
                  have F := F.then hw
                  clear hw F0
                  go_wp2
                  go_roundw
                  case rel => exact ⟨k + 1, _, by go_num, by omega, by rw [makeF_take Hx.out]; exact hk, by rw [makeF_take Hx.out]; exact hgy, hN, hd, hg, hR, F⟩
                  case measure => simp [intOf]; omega
                · clear hRc
                  have hBk : B.take k = B := List.take_of_length_le (by have := HnB.out; omega)
                  have hgB : (makeF g B).length ≤ 4096 := by have := len_makeFl g B; have := hlG.out; omega
                  have hwB := wf_makeF Hwf.out B
                  rw [hBk] at hk hgy hN
                  clear hBk
                  have hgB := Lib.hid hgB
                  have hwB := Lib.hid hwB
                  generalize makeF g B = gB at hk hgy hN hgB hwB
                  obtain ⟨gb2, gd2, e2⟩ : ∃ a c, Value.slice ga1 gB.length gc1 = .slice a gB.length c := ⟨_, _, rfl⟩
                  rw [e2] at hgy hN
                  clear e2
                  have hNc := row_cell hN
                  have hRc := row_cell hR
                  have ln : ∀ {m : Nat}, m ∉ ([] : List Nat) := List.not_mem_nil
                  clear hN hR hsA hsB
                  go_wp2_with (first
                    | (go_at_call 33; (with_reducible refine (idA _).mono ?_); rintro e wx ⟨rfl, f⟩; have hd := hd.fr f ln ln; have hk := hk.fr f ln ln; have hg := hg.fr f; have hgy := hgy.fr f; have hNc := f.cell hNc; have hRc := f.cell hRc; have F := F.then f; clear f)
                    | (go_at_call 13; (with_reducible refine (alike13 _ _ _ _ hd.r hg hwA.out hgA.out).mono ?_); rintro e wx ⟨rfl, f⟩; have hd := hd.fr f ln ln; have hk := hk.fr f ln ln; have hg := hg.fr f; have hgy := hgy.fr f; have hNc := f.cell hNc; have hRc := f.cell hRc; have F := F.then f; clear f)
                    | (go_at_call 13; (with_reducible refine (alike13 _ _ _ _ hk.r hgy hwB.out hgB.out).mono ?_); rintro e wx ⟨rfl, f⟩; have hd := hd.fr f ln ln; have hk := hk.fr f ln ln; have hg := hg.fr f; have hgy := hgy.fr f; have hNc := f.cell hNc; have hRc := f.cell hRc; have F := F.then f; clear f)
                    | (go_at_call 12; (with_reducible refine (addN _ _ _).mono ?_); rintro e wx ⟨rfl, f⟩; have F := F.then f; clear f)
                    | (go_at_call 18; (with_reducible refine (hasNil _ _).mono ?_); rintro e wx ⟨rfl, f⟩; have F := F.then f; clear f)
                    | (go_at_call 30; (with_reducible refine (lenNil _).mono ?_); rintro e wx ⟨rfl, rfl⟩)
                    | (go_at_call 22; (with_reducible refine (predsNil _ _).mono ?_); rintro e wx ⟨u, rfl, hu, f⟩; obtain ⟨ua, uc, rfl⟩ := hu.formN 0 rfl; have F := F.then f; clear f)
                    | (go_at_call 24; (with_reducible refine (kidsNil _ _).mono ?_); rintro e wx ⟨u, rfl, hu, f⟩; obtain ⟨ua, uc, rfl⟩ := hu.formN 0 rfl; have F := F.then f; clear f)
                    | (go_at_call 34; (with_reducible refine (headsNil _).mono ?_); rintro e wx ⟨u, rfl, hu, f⟩; obtain ⟨ua, uc, rfl⟩ := hu.formN 0 rfl; have F := F.then f; clear f)
                    | (go_at_call 28; (with_reducible refine (orderNil _).mono ?_); rintro e wx ⟨u, rfl, hu, f⟩; obtain ⟨ua, uc, rfl⟩ := hu.formN 0 rfl; have F := F.then f; clear f)
                    | (go_at_call 20; (with_reducible refine (depthNil _ _).mono ?_); rintro e wx ⟨rfl, f⟩; have F := F.then f; clear f)
                    | (go_at_call 26; (with_reducible refine (aheadNil _ _ _).mono ?_); rintro e wx ⟨rfl, f⟩; have F := F.then f; clear f)
                    | (go_at_call 16; (with_reducible refine (pastNil (strs_new _ kA)).mono ?_); rintro e wx ⟨u, rfl, hu, f⟩; obtain ⟨ua, uc, rfl⟩ := hu.formN 0 rfl; have F := (F.alloc (.cells #[.string kA] 9)).then f; clear f)
                    | (go_at_call 32; (with_reducible refine (clone32n _).mono ?_); rintro e wx ⟨rfl, rfl⟩)
                    | (go_at_call 10; (with_reducible refine (awake10 _).mono ?_); rintro e wx ⟨rfl, f⟩; have F := F.then f; clear f))
                  go_ret
                  exact ⟨rfl, F⟩
      · have HFb := Lib.hid hFb; clear hFb
        go_enter Try.func7, Try.ntmps7
        go_wp2_with (first
          | (go_at_call 9; (with_reducible refine (fewT hs HF.out).mono ?_); rintro e wx ⟨rfl, rfl⟩)
          | (go_at_call 9; (with_reducible refine (fewT hsa HFa.out).mono ?_); rintro e wx ⟨rfl, rfl⟩)
          | (go_at_call 9; (with_reducible refine (fewF hs HF.out).mono ?_); rintro e wx ⟨rfl, rfl⟩)
          | (go_at_call 9; (with_reducible refine (fewF hsa HFa.out).mono ?_); rintro e wx ⟨rfl, rfl⟩)
          | (go_at_call 9; (with_reducible refine (fewF hsb HFb.out).mono ?_); rintro e wx ⟨rfl, rfl⟩)
          | (go_at_call 10; refine (awake10 _).mono ?_; rintro e wx ⟨rfl, f⟩))
        go_ret
        exact ⟨rfl, f⟩
    · have HFa := Lib.hid hFa; clear hFa
      go_enter Try.func7, Try.ntmps7
      go_wp2_with (first
        | (go_at_call 9; (with_reducible refine (fewT hs HF.out).mono ?_); rintro e wx ⟨rfl, rfl⟩)
        | (go_at_call 9; (with_reducible refine (fewT hsa HFa.out).mono ?_); rintro e wx ⟨rfl, rfl⟩)
        | (go_at_call 9; (with_reducible refine (fewF hs HF.out).mono ?_); rintro e wx ⟨rfl, rfl⟩)
        | (go_at_call 9; (with_reducible refine (fewF hsa HFa.out).mono ?_); rintro e wx ⟨rfl, rfl⟩)
        | (go_at_call 9; (with_reducible refine (fewF hsb HFb.out).mono ?_); rintro e wx ⟨rfl, rfl⟩)
        | (go_at_call 10; refine (awake10 _).mono ?_; rintro e wx ⟨rfl, f⟩))
      go_ret
      exact ⟨rfl, f⟩
  · have HF := Lib.hid hF; clear hF
    go_enter Try.func7, Try.ntmps7
    go_wp2_with (first
      | (go_at_call 9; (with_reducible refine (fewT hs HF.out).mono ?_); rintro e wx ⟨rfl, rfl⟩)
      | (go_at_call 9; (with_reducible refine (fewT hsa HFa.out).mono ?_); rintro e wx ⟨rfl, rfl⟩)
      | (go_at_call 9; (with_reducible refine (fewF hs HF.out).mono ?_); rintro e wx ⟨rfl, rfl⟩)
      | (go_at_call 9; (with_reducible refine (fewF hsa HFa.out).mono ?_); rintro e wx ⟨rfl, rfl⟩)
      | (go_at_call 9; (with_reducible refine (fewF hsb HFb.out).mono ?_); rintro e wx ⟨rfl, rfl⟩)
      | (go_at_call 10; refine (awake10 _).mono ?_; rintro e wx ⟨rfl, f⟩))
    go_ret
    exact ⟨rfl, f⟩
end Go.Proofs.Ytnebdfpjjpbolaa
