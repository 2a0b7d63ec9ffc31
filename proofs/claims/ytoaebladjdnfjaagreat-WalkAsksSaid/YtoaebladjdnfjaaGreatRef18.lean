import Derived.Test.YtoaebladjdnfjaaGreatCtr
import Derived.Test.YtoaebladjdnfjaaGreatLAhead
set_option linter.unusedSimpArgs false
set_option linter.unusedVariables false
/-
  The reference of layer 18.
-/
namespace Go.Proofs.YtoaebladjdnfjaaGreat
open Go.RowKit

def meetL (a b : List BS) : List BS := ofL (a.filter fun x => decide (x ∈ b))
def betwL (g : G) (a b : List BS) : List BS := (ordL g g.length).filter fun x => decide (x ∈ pastL g b) && !decide (x ∈ pastL g a)
def lackL (g : G) (l : List BS) : List BS := ofL (l.filter fun x => !decide (x ∈ ids g))
def topsL (g : G) (l : List BS) : List BS := ofL (l.filter fun x => decide (x ∈ ids g) && l.all fun y => !aheadB g x y)
def commL (g : G) (a b : BS) : List BS := topsL g (meetL (pastL g [a]) (pastL g [b]))
def closedB (g : G) (l : List BS) : Bool := decide (Rising l ∧ (∀ x ∈ l, x ∈ ids g) ∧ ∀ x ∈ l, ∀ p ∈ preds g x, p ∈ l)
def spreadL (g : G) (l : List BS) : List BS := ofL ((ids g).filter fun x => decide (x ∈ l) || l.any fun y => aheadB g y x)

/-- What is kept of the first k. -/
theorem keep_yes {p : BS → Bool} {xs zs : List BS} {k : Nat} {x : BS} (hx : xs[k]? = some x) (hz : zs = (xs.take k).filter p) (hp : p x = true) : zs ++ [x] = (xs.take (k + 1)).filter p := by
  rw [take_snoc hx, List.filter_append, ← hz]; simp [hp]
theorem keep_no {p : BS → Bool} {xs zs : List BS} {k : Nat} {x : BS} (hx : xs[k]? = some x) (hz : zs = (xs.take k).filter p) (hp : p x = false) : zs = (xs.take (k + 1)).filter p := by
  rw [take_snoc hx, List.filter_append, ← hz]; simp [hp]
theorem keep_all {p : BS → Bool} {xs zs : List BS} {k n : Nat} (hn : n = xs.length) (hk : ¬ k < n) (hz : zs = (xs.take k).filter p) : zs = xs.filter p := by
  rwa [List.take_of_length_le (by omega)] at hz

set_option maxRecDepth 100000 in
set_option maxHeartbeats 1000000 in
theorem meet25 (v v2 : Value) (xs ys : List BS) (w : World) (hs : Strs w v xs) (hs2 : Strs w v2 ys) (hl : xs.length ≤ 1000000) :
    Calls Tryz.prog 25 #[v, v2] w fun e w' => ∃ u, e = .returned u ∧ Strs w' u (meetL xs ys) ∧ Fr [] w w' := by
  obtain ⟨a, c, rfl, hc, hm, hn⟩ := hs.form
  obtain ⟨n, hnx⟩ : ∃ n, n = xs.length := ⟨_, rfl⟩
  rw [← hnx] at hs hc hn hl ⊢
  have Hn := Lib.hid hnx; clear hnx
  go_enter Tryz.func25, Tryz.ntmps25
  go_wp2
  go_loopw [5, 6] (fun u i wr => ∃ (k : Nat) (zs : List BS), k ≤ n ∧ i = .int .i64 k ∧ Hid (zs = (xs.take k).filter fun x => decide (x ∈ ys)) ∧ zs.length ≤ k ∧ wr.ownsRow w.heap.size 9 1 u zs.length (zs.map .string) ∧ Fr [] w wr) (fun _ i _ => n - (intOf i).toNat)
  case atStart => exact ⟨0, [], Nat.zero_le _, rfl, Lib.hid (by simp), Nat.le_refl _, World.ownsRow_nil _ _ _ _, .refl w⟩
  case round =>
    obtain ⟨k, zs, hk, rfl, Hz, hzl, hsu, hf⟩ := hrel
    have hs := hs.fr hf
    have hs2 := hs2.fr hf
    by_cases hlt : k < n
    · obtain ⟨s, hx⟩ : ∃ s, xs[k]? = some s := ⟨_, List.getElem?_eq_getElem (Hn.out ▸ hlt)⟩
      obtain ⟨b, o, hidx, hcell⟩ := hs.at_ Hn.out 23 9 Tryz.underlying23 Tryz.sizeOf9 k s hx
      have hcell1 := ((Fr.refl wr).alloc (.cells #[.string s] 9)).cell hcell
      have Hx := Lib.hid hx; clear hx
      by_cases hr : s ∈ ys
      · have hr' : decide (s ∈ ys) = true := decide_eq_true hr
        have Hr := Lib.hid hr; clear hr
        go_wp2_with (first
          | (go_at_call 28; refine (has04 _ _ _ _ hs2).mono ?_; rintro e w' ⟨rfl, rfl⟩)
          | (at_builtin; refine wpList_appS rfl _ _ rfl _ _ _ rfl (own_fr hsu ((Fr.refl _).alloc _)) _ _ rfl (strs_new _ s) (by simp only [List.length_cons, List.length_nil]; omega) (hf.alloc _).size ?_; intro v1 w1 hown1 hg1 hat1; have f1 := (hf.alloc (.cells #[.string s] 9)).grown hg1 (own_base0 hsu)))
        go_roundw
        case rel => exact ⟨k + 1, zs ++ [s], by omega, by go_num, Lib.hid (keep_yes Hx.out Hz.out (decide_eq_true Hr.out)), by simp; omega, hown1, f1⟩
        case measure => simp [intOf]; omega
      · have hr' : decide (s ∈ ys) = false := decide_eq_false hr
        have Hr := Lib.hid hr; clear hr
        go_wp2_with (go_at_call 28; refine (has04 _ _ _ _ hs2).mono ?_; rintro e w' ⟨rfl, rfl⟩)
        go_roundw
        case rel => exact ⟨k + 1, zs, by omega, by go_num, Lib.hid (keep_no Hx.out Hz.out (decide_eq_false Hr.out)), by omega, hsu, hf⟩
        case measure => simp [intOf]; omega
    · have hsu' := Strs.of_own hsu (by omega)
      have Hk := Lib.hid hlt
      go_wp2_with (go_at_call 43; refine (of04 _ _ _ hsu' (by omega)).mono ?_; rintro e w' ⟨u', rfl, hsu', hf'⟩)
      go_ret
      exact ⟨_, rfl, by rw [keep_all Hn.out Hk.out Hz.out] at hsu'; exact hsu', hf.then hf'⟩

set_option maxRecDepth 100000 in
set_option maxHeartbeats 2000000 in
theorem lacking16 (v lv : Value) (g : G) (xs : List BS) (w : World) (hg : Nodes w v g) (hs : Strs w lv xs) (hl : xs.length ≤ 1000000) :
    Calls Tryz.prog 16 #[.agg #[v], lv] w fun e w' => ∃ u, e = .returned u ∧ Strs w' u (lackL g xs) ∧ Fr [] w w' := by
  obtain ⟨a, c, rfl, hc, hm, hn⟩ := hs.form
  obtain ⟨ga, gc, rfl, _⟩ := hg.form
  obtain ⟨n, hnx⟩ : ∃ n, n = xs.length := ⟨_, rfl⟩
  rw [← hnx] at hs hc hn hl ⊢
  have Hn := Lib.hid hnx; clear hnx
  have f0 := (Fr.refl w).alloc (.cells #[.slice ga g.length gc] 29)
  have hc0 := World.cell?_alloc_new (w := w) #[.slice ga g.length gc] 29 0
  go_enter Tryz.func16, Tryz.ntmps16
  go_wp2
  have hs := hs.fr f0
  have hg := hg.fr f0
  have hz0 : w.heap.size ≤ (w.alloc (.cells #[.slice ga g.length gc] 29)).heap.size := f0.size
  have hc0 : (w.alloc (.cells #[.slice ga g.length gc] 29)).cell? ⟨w.heap.size, 0, none⟩ = some (.slice ga g.length gc) := hc0
  generalize w.alloc (.cells #[.slice ga g.length gc] 29) = wA at f0 hc0 hs hg hz0 ⊢
  go_loopw [5, 6] (fun u i wr => ∃ (k : Nat) (zs : List BS), k ≤ n ∧ i = .int .i64 k ∧ Hid (zs = (xs.take k).filter fun x => !decide (x ∈ ids g)) ∧ zs.length ≤ k ∧ wr.ownsRow wA.heap.size 9 1 u zs.length (zs.map .string) ∧ Fr [] wA wr) (fun _ i _ => n - (intOf i).toNat)
  case atStart => exact ⟨0, [], Nat.zero_le _, rfl, Lib.hid (by simp), Nat.le_refl _, World.ownsRow_nil _ _ _ _, .refl _⟩
  case round =>
    obtain ⟨k, zs, hk, rfl, Hz, hzl, hsu, hf⟩ := hrel
    have hs := hs.fr hf
    have hg := hg.fr hf
    have hc1 := hf.cell hc0
    by_cases hlt : k < n
    · obtain ⟨s, hx⟩ : ∃ s, xs[k]? = some s := ⟨_, List.getElem?_eq_getElem (Hn.out ▸ hlt)⟩
      obtain ⟨b, o, hidx, hcell⟩ := hs.at_ Hn.out 23 9 Tryz.underlying23 Tryz.sizeOf9 k s hx
      have Hx := Lib.hid hx; clear hx
      go_upto_region 5 with fail
      refine wp_region_ordX Fr.pre [] (.op 0 0 (.op 1 2 (.op 2 2 (.op 3 2 (.op 4 0 (.op 5 1 (.op 6 2 .fin))))))) _ (by kernel_rfl) (by kernel_rfl) (by simp only [pickX, List.getElem?_cons_succ, List.getElem?_cons_zero]; rfl) ?_
      have F := (Fr.refl wr).drew
      have hg := hg.fr F
      have hcell := F.cell hcell
      have x_c := Ext.cell (F.cell hc1)
      have x_h := Ext.cell hcell
      repeat (first | (with_reducible refine wpX_q (fun K hK => ?_); go_simp; refine hK _ ?_; clear hK K) | (with_reducible refine wpX_p (fun K hK => ?_); go_simp; refine hK _ ?_; clear hK K) | (with_reducible refine wpX_p (fun K hK => ?_); go_simp; rw [if_neg (by simp [undef])]; refine hK _ ?_; clear hK K) | (with_reducible refine wpX_q (fun K hK => ?_); go_simp; rw [if_neg (by simp [undef])]; refine hK _ ?_; clear hK K))
      clear x_c x_h
      (refine wpX_e (fun K hK => ?_); go_simp; intro wq hq; have F := F.then hq; (try clear x_hcell); have hg := hg.fr (hq); have hcell := (hq).cell hcell; refine (has16 _ _ _ _ hg).mono ?_; rintro e wp ⟨rfl, g1⟩; have hg := hg.fr (g1); have hcell := (g1).cell hcell; have F := F.then (g1); refine ⟨_, rfl, (g1), hK _ _ ?_⟩; clear hK K hq; have x_hcell := Ext.cell hcell; )
      clear x_hcell
      repeat (first | (with_reducible refine wpX_q (fun K hK => ?_); go_simp; refine hK _ ?_; clear hK K) | (with_reducible refine wpX_p (fun K hK => ?_); go_simp; refine hK _ ?_; clear hK K) | (with_reducible refine wpX_p (fun K hK => ?_); go_simp; rw [if_neg (by simp [undef])]; refine hK _ ?_; clear hK K) | (with_reducible refine wpX_q (fun K hK => ?_); go_simp; rw [if_neg (by simp [undef])]; refine hK _ ?_; clear hK K))
      refine wpX_nil (fun w9 hw9 => ?_)
      have F := F.then hw9
      have hsu := own_fr hsu F
      have hcell := hw9.cell hcell
      have hf := hf.then F
      have hcell1 := ((Fr.refl w9).alloc (.cells #[.string s] 9)).cell hcell
      clear hs hg hc1 hw9 F
      cases hr : decide (s ∈ ids g) with
      | true =>
        have Hr := Lib.hid hr; clear hr
        go_wp2
        go_roundw
        case rel => exact ⟨k + 1, zs, by omega, by go_num, Lib.hid (keep_no Hx.out Hz.out (by rw [Hr.out]; rfl)), by omega, hsu, hf⟩
        case measure => simp [intOf]; omega
      | false =>
        have Hr := Lib.hid hr; clear hr
        go_wp2_with (at_builtin; refine wpList_appS rfl _ _ rfl _ _ _ rfl (own_fr hsu ((Fr.refl _).alloc _)) _ _ rfl (strs_new _ s) (by simp only [List.length_cons, List.length_nil]; omega) (hf.alloc _).size ?_; intro v1 w1 hown1 hg1 hat1; have f1 := (hf.alloc (.cells #[.string s] 9)).grown hg1 (own_base0 hsu))
        go_roundw
        case rel => exact ⟨k + 1, zs ++ [s], by omega, by go_num, Lib.hid (keep_yes Hx.out Hz.out (by rw [Hr.out]; rfl)), by simp; omega, hown1, f1⟩
        case measure => simp [intOf]; omega
    · have hsu' := Strs.of_own hsu (by omega)
      have Hk := Lib.hid hlt
      go_wp2_with (go_at_call 43; refine (of04 _ _ _ hsu' (by omega)).mono ?_; rintro e w' ⟨u', rfl, hsu', hf'⟩)
      go_ret
      exact ⟨_, rfl, by rw [keep_all Hn.out Hk.out Hz.out] at hsu'; exact hsu', f0.then (hf.then hf')⟩
set_option maxRecDepth 100000 in
set_option maxHeartbeats 2000000 in
theorem between14 (v av bv : Value) (g : G) (la lb : List BS) (w : World) (hg : Nodes w v g) (ha : Strs w av la) (hb : Strs w bv lb) (hw : Wf g) (hl : g.length ≤ 4096) :
    Calls Tryz.prog 14 #[.agg #[v], av, bv] w fun e w' => ∃ u, e = .returned u ∧ Strs w' u (betwL g la lb) ∧ Fr [] w w' := by
  obtain ⟨aa, ac, rfl, _⟩ := ha.form
  obtain ⟨ba, bc, rfl, _⟩ := hb.form
  obtain ⟨ga, gc, rfl, _⟩ := hg.form
  have Hw := Lib.hid hw; clear hw
  have HL := Lib.hid hl
  have f0 := (Fr.refl w).alloc (.cells #[.slice ga g.length gc] 29)
  have hc0 := World.cell?_alloc_new (w := w) #[.slice ga g.length gc] 29 0
  have hg := hg.fr f0
  have ha := ha.fr f0
  have hb := hb.fr f0
  have hc0 : (w.alloc (.cells #[.slice ga g.length gc] 29)).cell? ⟨w.heap.size, 0, none⟩ = some (.slice ga g.length gc) := hc0
  go_enter Tryz.func14, Tryz.ntmps14
  go_upto_region 1 with fail
  generalize w.alloc (.cells #[.slice ga g.length gc] 29) = wA at f0 hc0 hg ha hb ⊢
  refine wp_region_ordX Fr.pre [] (.op 0 0 (.op 1 2 (.op 3 0 (.op 4 2 (.op 2 1 (.op 5 1 (.op 6 2 (.op 7 2 .fin)))))))) _ (by kernel_rfl) (by kernel_rfl) (by simp only [pickX, List.getElem?_cons_succ, List.getElem?_cons_zero]; rfl) ?_
  have F := (Fr.refl wA).drew
  have hg := hg.fr F
  have ha := ha.fr F
  have hb := hb.fr F
  have hc0 := F.cell hc0
  have x_hc0 := Ext.cell hc0
  repeat (first | (with_reducible refine wpX_q (fun K hK => ?_); go_simp; refine hK _ ?_; clear hK K) | (with_reducible refine wpX_p (fun K hK => ?_); go_simp; refine hK _ ?_; clear hK K) | (with_reducible refine wpX_p (fun K hK => ?_); go_simp; rw [if_neg (by simp [undef])]; refine hK _ ?_; clear hK K) | (with_reducible refine wpX_q (fun K hK => ?_); go_simp; rw [if_neg (by simp [undef])]; refine hK _ ?_; clear hK K))
  (refine wpX_e (fun K hK => ?_); go_simp; intro wq hq; have F := F.then hq; (try clear x_hc0); have hg := hg.fr (hq); have ha := ha.fr (hq); have hb := hb.fr (hq); have hc0 := (hq).cell hc0; refine (pastN _ _ _ _ _ hg ha (Nat.le_trans HL.out (by decide)) Hw.out).mono ?_; rintro e wp ⟨u1, rfl, hu1, g1⟩; have hg := hg.fr (g1); have ha := ha.fr (g1); have hb := hb.fr (g1); have hc0 := (g1).cell hc0; obtain ⟨ua1, uc1, rfl, _⟩ := hu1.form; have F := F.then (g1); refine ⟨_, rfl, (g1), hK _ _ ?_⟩; clear hK K hq; have x_hc0 := Ext.cell hc0; )
  repeat (first | (with_reducible refine wpX_q (fun K hK => ?_); go_simp; refine hK _ ?_; clear hK K) | (with_reducible refine wpX_p (fun K hK => ?_); go_simp; refine hK _ ?_; clear hK K) | (with_reducible refine wpX_p (fun K hK => ?_); go_simp; rw [if_neg (by simp [undef])]; refine hK _ ?_; clear hK K) | (with_reducible refine wpX_q (fun K hK => ?_); go_simp; rw [if_neg (by simp [undef])]; refine hK _ ?_; clear hK K))
  (refine wpX_e (fun K hK => ?_); go_simp; intro wq hq; have F := F.then hq; (try clear x_hc0); have hg := hg.fr (hq); have ha := ha.fr (hq); have hb := hb.fr (hq); have hu1 := hu1.fr (hq); have hc0 := (hq).cell hc0; refine (pastN _ _ _ _ _ hg hb (Nat.le_trans HL.out (by decide)) Hw.out).mono ?_; rintro e wp ⟨u2, rfl, hu2, g1⟩; have hg := hg.fr (g1); have ha := ha.fr (g1); have hb := hb.fr (g1); have hu1 := hu1.fr (g1); have hc0 := (g1).cell hc0; obtain ⟨ua2, uc2, rfl, _⟩ := hu2.form; have F := F.then (g1); refine ⟨_, rfl, (g1), hK _ _ ?_⟩; clear hK K hq; have x_hc0 := Ext.cell hc0; )
  repeat (first | (with_reducible refine wpX_q (fun K hK => ?_); go_simp; refine hK _ ?_; clear hK K) | (with_reducible refine wpX_p (fun K hK => ?_); go_simp; refine hK _ ?_; clear hK K) | (with_reducible refine wpX_p (fun K hK => ?_); go_simp; rw [if_neg (by simp [undef])]; refine hK _ ?_; clear hK K) | (with_reducible refine wpX_q (fun K hK => ?_); go_simp; rw [if_neg (by simp [undef])]; refine hK _ ?_; clear hK K))
  refine wpX_nil (fun w9 hw9 => ?_)
  have hg := hg.fr hw9
  have hu1 := hu1.fr hw9
  have hu2 := hu2.fr hw9
  have hc0 := hw9.cell hc0
  have F := f0.then (F.then hw9)
  clear ha hb hw9 f0 x_hc0
  go_upto_region 3 with (go_at_call 39; refine (order16 _ _ _ hg (Nat.le_trans HL.out (by decide)) Hw.out).mono ?_; rintro e w2 ⟨u, rfl, ho, f⟩; obtain ⟨oa, oc, rfl, hoc, hom, hon⟩ := ho.form; have hu1 := hu1.fr f; have hu2 := hu2.fr f; have F := F.then f; clear f)
  have hol := length_order Hw.out
  obtain ⟨ol, hole⟩ : ∃ l, l = ordL g g.length := ⟨_, rfl⟩
  rw [← hole] at ho hoc hon hol ⊢
  have Hol := Lib.hid hole
  have hnl : ol.length ≤ 4096 := by rw [hol]; exact HL.out
  clear hole hol hl
  obtain ⟨n, hnx⟩ : ∃ n, n = ol.length := ⟨_, rfl⟩
  rw [← hnx] at ho hoc hon hnl ⊢
  have Hn := Lib.hid hnx; clear hnx hg hc0
  obtain ⟨pa, hpa⟩ : ∃ l, l = pastL g la := ⟨_, rfl⟩
  obtain ⟨pb, hpb⟩ : ∃ l, l = pastL g lb := ⟨_, rfl⟩
  rw [← hpa] at hu1 ⊢
  rw [← hpb] at hu2 ⊢
  have Hpa := Lib.hid hpa; have Hpb := Lib.hid hpb
  clear hpa hpb
  go_wp2
  go_loopw [10, 11] (fun u i wr => ∃ (k : Nat) (zs : List BS), k ≤ n ∧ i = .int .i64 k ∧ Hid (zs = (ol.take k).filter fun x => decide (x ∈ pb) && !decide (x ∈ pa)) ∧ zs.length ≤ k ∧ wr.ownsRow w2.heap.size 9 1 u zs.length (zs.map .string) ∧ Fr [] w2 wr) (fun _ i _ => n - (intOf i).toNat)
  case atStart => exact ⟨0, [], Nat.zero_le _, rfl, Lib.hid (by simp), Nat.le_refl _, World.ownsRow_nil _ _ _ _, .refl _⟩
  case round =>
    obtain ⟨k, zs, hk, rfl, Hz, hzl, hsu, hf⟩ := hrel
    have ho := ho.fr hf
    have hu1 := hu1.fr hf
    have hu2 := hu2.fr hf
    by_cases hlt : k < n
    · obtain ⟨s, hx⟩ : ∃ s, ol[k]? = some s := ⟨_, List.getElem?_eq_getElem (Hn.out ▸ hlt)⟩
      obtain ⟨b, o, hidx, hcell⟩ := ho.at_ Hn.out 23 9 Tryz.underlying23 Tryz.sizeOf9 k s hx
      have hcell1 := ((Fr.refl wr).alloc (.cells #[.string s] 9)).cell hcell
      have Hx := Lib.hid hx; clear hx
      have C1 := has04 _ _ s _ hu1
      have C2 := has04 _ _ s _ hu2
      cases hr2 : decide (s ∈ pb) with
      | false =>
        rw [hr2] at C2
        have Hr := Lib.hid hr2; clear hr2
        have C2 := Lib.hid C2
        go_wp2_with (go_at_call 28; refine C2.out.mono ?_; rintro e w' ⟨rfl, rfl⟩)
        go_roundw
        case rel => exact ⟨k + 1, zs, by omega, by go_num, Lib.hid (keep_no Hx.out Hz.out (by rw [Hr.out]; rfl)), by omega, hsu, hf⟩
        case measure => simp [intOf]; omega
      | true =>
        rw [hr2] at C2
        have Hr := Lib.hid hr2; clear hr2
        have C2 := Lib.hid C2
        cases hr1 : decide (s ∈ pa) with
        | true =>
          rw [hr1] at C1
          have Hr1 := Lib.hid hr1; clear hr1
          have C1 := Lib.hid C1
          go_wp2_with (first
            | (go_at_call 28; (with_reducible refine C2.out.mono ?_); rintro e w' ⟨rfl, rfl⟩)
            | (go_at_call 28; (with_reducible refine C1.out.mono ?_); rintro e w' ⟨rfl, rfl⟩))
          go_roundw
          case rel => exact ⟨k + 1, zs, by omega, by go_num, Lib.hid (keep_no Hx.out Hz.out (by rw [Hr.out, Hr1.out]; rfl)), by omega, hsu, hf⟩
          case measure => simp [intOf]; omega
        | false =>
          rw [hr1] at C1
          have Hr1 := Lib.hid hr1; clear hr1
          have C1 := Lib.hid C1
          go_wp2_with (first
            | (go_at_call 28; (with_reducible refine C2.out.mono ?_); rintro e w' ⟨rfl, rfl⟩)
            | (go_at_call 28; (with_reducible refine C1.out.mono ?_); rintro e w' ⟨rfl, rfl⟩)
            | (at_builtin; refine wpList_appS rfl _ _ rfl _ _ _ rfl (own_fr hsu ((Fr.refl _).alloc _)) _ _ rfl (strs_new _ s) (by simp only [List.length_cons, List.length_nil]; omega) (hf.alloc _).size ?_; intro v1 w1 hown1 hg1 hat1; have f1 := (hf.alloc (.cells #[.string s] 9)).grown hg1 (own_base0 hsu)))
          go_roundw
          case rel => exact ⟨k + 1, zs ++ [s], by omega, by go_num, Lib.hid (keep_yes Hx.out Hz.out (by rw [Hr.out, Hr1.out]; rfl)), by simp; omega, hown1, f1⟩
          case measure => simp [intOf]; omega
    · have Hk := Lib.hid hlt
      go_wp2
      go_ret
      refine ⟨_, rfl, ?_, F.then hf⟩
      have h1 := Strs.of_own hsu (by omega)
      rw [keep_all Hn.out Hk.out Hz.out, Hol.out, Hpa.out, Hpb.out] at h1
      exact h1
set_option maxRecDepth 100000 in
set_option maxHeartbeats 4000000 in
theorem tops18 (v lv : Value) (g : G) (xs : List BS) (w : World) (hg : Nodes w v g) (hs : Strs w lv xs) (hl : xs.length ≤ 1000000) (hw : Wf g) (hgl : g.length ≤ 4096) :
    Calls Tryz.prog 18 #[.agg #[v], lv] w fun e w' => ∃ u, e = .returned u ∧ Strs w' u (topsL g xs) ∧ Fr [] w w' := by
  obtain ⟨a, c, rfl, hc, hm, hn⟩ := hs.form
  obtain ⟨ga, gc, rfl, _⟩ := hg.form
  have Hw := Lib.hid hw; clear hw
  have HL := Lib.hid (Nat.le_trans hgl (by decide : 4096 ≤ 10000)); clear hgl
  obtain ⟨n, hnx⟩ : ∃ n, n = xs.length := ⟨_, rfl⟩
  rw [← hnx] at hs hc hn hl ⊢
  have Hn := Lib.hid hnx; clear hnx
  have f0 := (Fr.refl w).alloc (.cells #[.slice ga g.length gc] 29)
  have hc0 := World.cell?_alloc_new (w := w) #[.slice ga g.length gc] 29 0
  go_enter Tryz.func18, Tryz.ntmps18
  go_wp2
  have hs := hs.fr f0
  have hg := hg.fr f0
  have hc0 : (w.alloc (.cells #[.slice ga g.length gc] 29)).cell? ⟨w.heap.size, 0, none⟩ = some (.slice ga g.length gc) := hc0
  generalize w.alloc (.cells #[.slice ga g.length gc] 29) = wA at f0 hc0 hs hg ⊢
  go_loopw [5, 6] (fun u i wr => ∃ (k : Nat) (zs : List BS), k ≤ n ∧ i = .int .i64 k ∧ Hid (zs = (xs.take k).filter fun x => decide (x ∈ ids g) && xs.all fun y => !aheadB g x y) ∧ zs.length ≤ k ∧ wr.ownsRow wA.heap.size 9 1 u zs.length (zs.map .string) ∧ Fr [] wA wr) (fun _ i _ => n - (intOf i).toNat)
  case atStart => exact ⟨0, [], Nat.zero_le _, rfl, Lib.hid (by simp), Nat.le_refl _, World.ownsRow_nil _ _ _ _, .refl _⟩
  case round =>
    obtain ⟨k, zs, hk, rfl, Hz, hzl, hsu, hf⟩ := hrel
    obtain ⟨wo, rfl⟩ : ∃ wo : World, wo = wr := ⟨_, rfl⟩
    have hs := hs.fr hf
    have hg := hg.fr hf
    have hc1 := hf.cell hc0
    by_cases hlt : k < n
    · obtain ⟨s, hx⟩ : ∃ s, xs[k]? = some s := ⟨_, List.getElem?_eq_getElem (Hn.out ▸ hlt)⟩
      obtain ⟨b, o, hidx, hcell⟩ := hs.at_ Hn.out 23 9 Tryz.underlying23 Tryz.sizeOf9 k s hx
      have Hx := Lib.hid hx; clear hx
      go_upto_region 5 with fail
      refine wp_region_ordX Fr.pre [] (.op 0 0 (.op 1 2 (.op 2 2 (.op 3 2 (.op 4 0 (.op 5 1 (.op 6 2 .fin))))))) _ (by kernel_rfl) (by kernel_rfl) (by simp only [pickX, List.getElem?_cons_succ, List.getElem?_cons_zero]; rfl) ?_
      have F := (Fr.refl wo).drew
      have hg := hg.fr F
      have hs := hs.fr F
      have hcell := F.cell hcell
      have hc1 := F.cell hc1
      have x_hc1 := Ext.cell hc1
      have x_h := Ext.cell hcell
      repeat (first | (with_reducible refine wpX_q (fun K hK => ?_); go_simp; refine hK _ ?_; clear hK K) | (with_reducible refine wpX_p (fun K hK => ?_); go_simp; refine hK _ ?_; clear hK K) | (with_reducible refine wpX_p (fun K hK => ?_); go_simp; rw [if_neg (by simp [undef])]; refine hK _ ?_; clear hK K) | (with_reducible refine wpX_q (fun K hK => ?_); go_simp; rw [if_neg (by simp [undef])]; refine hK _ ?_; clear hK K))
      clear x_h
      (refine wpX_e (fun K hK => ?_); go_simp; intro wq hq; have F := F.then hq; (try clear x_hc1 x_hcell); have hg := hg.fr (hq); have hs := hs.fr (hq); have hc1 := (hq).cell hc1; have hcell := (hq).cell hcell; refine (has16 _ _ _ _ hg).mono ?_; rintro e wp ⟨rfl, g1⟩; have hg := hg.fr (g1); have hs := hs.fr (g1); have hc1 := (g1).cell hc1; have hcell := (g1).cell hcell; have F := F.then (g1); refine ⟨_, rfl, (g1), hK _ _ ?_⟩; clear hK K hq; have x_hc1 := Ext.cell hc1; have x_hcell := Ext.cell hcell; )
      clear x_hcell x_hc1
      repeat (first | (with_reducible refine wpX_q (fun K hK => ?_); go_simp; refine hK _ ?_; clear hK K) | (with_reducible refine wpX_p (fun K hK => ?_); go_simp; refine hK _ ?_; clear hK K) | (with_reducible refine wpX_p (fun K hK => ?_); go_simp; rw [if_neg (by simp [undef])]; refine hK _ ?_; clear hK K) | (with_reducible refine wpX_q (fun K hK => ?_); go_simp; rw [if_neg (by simp [undef])]; refine hK _ ?_; clear hK K))
      refine wpX_nil (fun w9 hw9 => ?_)
      have F := F.then hw9
      have hsu := own_fr hsu F
      have hcell := hw9.cell hcell
      have hg := hg.fr hw9
      have hs := hs.fr hw9
      have hc1 := hw9.cell hc1
      have hf := hf.then F
      clear hw9 F
      go_wp2
      go_loopw [7, 8] (fun t i wr => ∃ q : Nat, q ≤ n ∧ i = .int .i64 q ∧ t = .bool (decide (s ∈ ids g) && (xs.take q).all fun y => !aheadB g s y) ∧ Fr [] w9 wr) (fun _ i _ => n - (intOf i).toNat)
      case atStart => exact ⟨0, Nat.zero_le _, rfl, by simp, .refl _⟩
      case round =>
        obtain ⟨q, hq, rfl, rfl, hf2⟩ := hrel
        have hs := hs.fr hf2
        have hg := hg.fr hf2
        have hc1 := hf2.cell hc1
        have hcell := hf2.cell hcell
        obtain ⟨tp, htp⟩ : ∃ t, t = (decide (s ∈ ids g) && (xs.take q).all fun y => !aheadB g s y) := ⟨_, rfl⟩
        rw [← htp]
        have Htp := Lib.hid htp; clear htp
        by_cases hlt2 : q < n
        · obtain ⟨y, hy⟩ : ∃ s, xs[q]? = some s := ⟨_, List.getElem?_eq_getElem (Hn.out ▸ hlt2)⟩
          obtain ⟨b2, o2, hidx2, hcell2⟩ := hs.at_ Hn.out 23 9 Tryz.underlying23 Tryz.sizeOf9 q y hy
          have Hy := Lib.hid hy; clear hy
          cases tp with
          | true =>
            go_upto_region 9 with fail
            refine wp_region_ordX Fr.pre [] (.op 0 2 (.op 1 2 (.op 2 0 (.op 3 2 (.op 4 2 (.op 5 2 (.op 6 0 (.op 7 2 (.op 8 2 (.op 9 2 (.op 10 0 (.op 11 1 (.op 12 2 (.op 13 2 (.op 14 2 .fin))))))))))))))) _ (by kernel_rfl) (by kernel_rfl) (by simp only [pickX, List.getElem?_cons_succ, List.getElem?_cons_zero]; rfl) ?_
            have F := (Fr.refl wr).drew
            have hg := hg.fr F
            have x_1 := Ext.cell (F.cell hcell)
            have x_2 := Ext.cell (F.cell hcell2)
            have x_3 := Ext.cell (F.cell hc1)
            repeat (first | (with_reducible refine wpX_q (fun K hK => ?_); go_simp; refine hK _ ?_; clear hK K) | (with_reducible refine wpX_p (fun K hK => ?_); go_simp; refine hK _ ?_; clear hK K) | (with_reducible refine wpX_p (fun K hK => ?_); go_simp; rw [if_neg (by simp [undef])]; refine hK _ ?_; clear hK K) | (with_reducible refine wpX_q (fun K hK => ?_); go_simp; rw [if_neg (by simp [undef])]; refine hK _ ?_; clear hK K))
            clear x_1 x_2 x_3
            (refine wpX_e (fun K hK => ?_); go_simp; intro wq hq; have F := F.then hq; have hg := hg.fr (hq); refine (aheadN _ _ _ _ _ hg HL.out Hw.out).mono ?_; rintro e wp ⟨rfl, g1⟩; have hg := hg.fr (g1); have F := F.then (g1); refine ⟨_, rfl, (g1), hK _ _ ?_⟩; clear hK K hq; skip)
            repeat (first | (with_reducible refine wpX_q (fun K hK => ?_); go_simp; refine hK _ ?_; clear hK K) | (with_reducible refine wpX_p (fun K hK => ?_); go_simp; refine hK _ ?_; clear hK K) | (with_reducible refine wpX_p (fun K hK => ?_); go_simp; rw [if_neg (by simp [undef])]; refine hK _ ?_; clear hK K) | (with_reducible refine wpX_q (fun K hK => ?_); go_simp; rw [if_neg (by simp [undef])]; refine hK _ ?_; clear hK K))
            refine wpX_nil (fun w8 hw8 => ?_)
            clear hs hg hc1 hcell hcell2 hidx hidx2
            go_wp2
            go_roundw
            case rel => exact ⟨q + 1, by omega, by go_num, by rw [take_snoc Hy.out, List.all_append, ← Bool.and_assoc, ← Htp.out]; simp, hf2.then (F.then hw8)⟩
            case measure => simp [intOf]; omega
          | false =>
            go_upto_region 9 with fail
            refine wp_region_ordX Fr.pre [] (.op 0 2 (.op 1 2 (.op 2 0 (.op 3 2 (.op 4 2 (.op 5 2 (.op 6 0 (.op 7 2 (.op 8 2 (.op 9 2 (.op 10 0 (.op 11 1 (.op 12 2 (.op 13 2 (.op 14 2 .fin))))))))))))))) _ (by kernel_rfl) (by kernel_rfl) (by simp only [pickX, List.getElem?_cons_succ, List.getElem?_cons_zero]; rfl) ?_
            have F := (Fr.refl wr).drew
            repeat (first | (with_reducible refine wpX_q (fun K hK => ?_); go_simp; refine hK _ ?_; clear hK K) | (with_reducible refine wpX_p (fun K hK => ?_); go_simp; refine hK _ ?_; clear hK K) | (with_reducible refine wpX_p (fun K hK => ?_); go_simp; rw [if_neg (by simp [undef])]; refine hK _ ?_; clear hK K) | (with_reducible refine wpX_q (fun K hK => ?_); go_simp; rw [if_neg (by simp [undef])]; refine hK _ ?_; clear hK K))
            refine wpX_e (fun K hK => ?_)
            go_simp
            refine hK _ _ ?_
            clear hK K
            repeat (first | (with_reducible refine wpX_q (fun K hK => ?_); go_simp; refine hK _ ?_; clear hK K) | (with_reducible refine wpX_p (fun K hK => ?_); go_simp; refine hK _ ?_; clear hK K) | (with_reducible refine wpX_p (fun K hK => ?_); go_simp; rw [if_neg (by simp [undef])]; refine hK _ ?_; clear hK K) | (with_reducible refine wpX_q (fun K hK => ?_); go_simp; rw [if_neg (by simp [undef])]; refine hK _ ?_; clear hK K))
            refine wpX_nil (fun w8 hw8 => ?_)
            clear hs hg hc1 hcell hcell2 hidx hidx2
            go_wp2
            go_roundw
            case rel => exact ⟨q + 1, by omega, by go_num, by rw [take_snoc Hy.out, List.all_append, ← Bool.and_assoc, ← Htp.out]; simp, hf2.then (F.then hw8)⟩
            case measure => simp [intOf]; omega
        · have Hq := Lib.hid hlt2
          have htq : tp = (decide (s ∈ ids g) && xs.all fun y => !aheadB g s y) := by have := Htp.out; rwa [List.take_of_length_le (by have := Hn.out; omega)] at this
          have Htq := Lib.hid htq
          have hsu := own_fr hsu hf2
          have hf3 := hf.then hf2
          have hcell1 := ((Fr.refl wr).alloc (.cells #[.string s] 9)).cell hcell
          clear htq hs hg hc1
          cases tp with
          | true =>
            go_wp2_with (at_builtin; refine wpList_appS rfl _ _ rfl _ _ _ rfl (own_fr hsu ((Fr.refl _).alloc _)) _ _ rfl (strs_new _ s) (by simp only [List.length_cons, List.length_nil]; omega) (hf3.alloc _).size ?_; intro v1 w1 hown1 hg1 hat1; have f1 := (hf3.alloc (.cells #[.string s] 9)).grown hg1 (own_base0 hsu))
            go_roundw
            case rel => exact ⟨k + 1, zs ++ [s], by omega, by go_num, Lib.hid (keep_yes Hx.out Hz.out (Htq.out.symm)), by simp; omega, hown1, f1⟩
            case measure => simp [intOf]; omega
          | false =>
            go_wp2
            go_roundw
            case rel => exact ⟨k + 1, zs, by omega, by go_num, Lib.hid (keep_no Hx.out Hz.out (Htq.out.symm)), by omega, hsu, hf3⟩
            case measure => simp [intOf]; omega
    · have hsu' := Strs.of_own hsu (by omega)
      have Hk := Lib.hid hlt
      go_wp2_with (go_at_call 43; refine (of04 _ _ _ hsu' (by omega)).mono ?_; rintro e w' ⟨u', rfl, hsu', hf'⟩)
      go_ret
      exact ⟨_, rfl, by rw [keep_all Hn.out Hk.out Hz.out] at hsu'; exact hsu', f0.then (hf.then hf')⟩
theorem meet_len (a b : List BS) : (meetL a b).length ≤ a.length := Nat.le_trans (length_ofL _) (List.length_filter_le _ _)
theorem strs_row {w : World} {N : Nat} {x : BS} (hN : w.heap[N]? = some (.cells #[.string x] 9 (0, 0))) : Strs w (.slice (some ⟨N, 0, none⟩) 1 1) [x] :=
  ⟨rfl, by simp, _, 1, rfl, by simp, by decide, (fun h => by cases h), fun _ => ⟨N, 0, rfl, fun i u hi => by
    cases i with
    | zero => simp at hi; subst hi; exact row_cell hN
    | succ i => simp at hi⟩⟩
set_option maxRecDepth 100000 in
set_option maxHeartbeats 4000000 in
theorem common12 (v : Value) (g : G) (x y : BS) (w : World) (hg : Nodes w v g) (hw : Wf g) (hgl : g.length ≤ 4096) :
    Calls Tryz.prog 12 #[.agg #[v], .string x, .string y] w fun e w' => ∃ u, e = .returned u ∧ Strs w' u (commL g x y) ∧ Fr [] w w' := by
  obtain ⟨ga, gc, rfl, _⟩ := hg.form
  have Hw := Lib.hid hw; clear hw
  have HG := Lib.hid hgl
  have HL := Lib.hid (Nat.le_trans hgl (by decide : 4096 ≤ 10000)); clear hgl
  have HM := Lib.hid (Nat.le_trans (meet_len (pastL g [x]) (pastL g [y])) (Nat.le_trans (past_len Hw.out [x]) (Nat.le_trans HL.out (by decide : 10000 ≤ 1000000))))
  have HP := Lib.hid (Nat.le_trans (past_len Hw.out [x]) (Nat.le_trans HL.out (by decide : 10000 ≤ 1000000)))
  have f0 := (Fr.refl w).alloc (.cells #[.slice ga g.length gc] 29)
  have hc0 := World.cell?_alloc_new (w := w) #[.slice ga g.length gc] 29 0
  have hg := hg.fr f0
  have hc0 : (w.alloc (.cells #[.slice ga g.length gc] 29)).cell? ⟨w.heap.size, 0, none⟩ = some (.slice ga g.length gc) := hc0
  go_enter Tryz.func12, Tryz.ntmps12
  go_upto_region 1 with fail
  generalize w.alloc (.cells #[.slice ga g.length gc] 29) = wA at f0 hc0 hg ⊢
  refine wp_region_ordX Fr.pre [] (.op 0 0 (.op 1 0 (.op 2 2 (.op 5 0 (.op 6 2 (.alt 3 (.alt 4 (.op 7 1 (.op 8 1 (.op 9 1 (.op 10 1 (.op 11 2 .fin))))) 7 (.op 4 1 (.op 8 1 (.op 9 1 (.op 10 1 (.op 11 2 .fin)))))) 7 (.op 3 1 (.op 4 1 (.op 8 1 (.op 9 1 (.op 10 1 (.op 11 2 .fin)))))))))))) _ (by kernel_rfl) (by kernel_rfl) (by simp only [pickX, List.getElem?_cons_succ, List.getElem?_cons_zero]; rfl) ?_
  have F := (Fr.refl wA).drew
  have hg := hg.fr F
  have hc0 := F.cell hc0
  have x_hc0 := Ext.cell hc0
  repeat (first | (with_reducible refine wpX_q (fun K hK => ?_); go_simp; refine hK _ ?_; clear hK K) | (with_reducible refine wpX_p (fun K hK => ?_); go_simp; refine hK _ ?_; clear hK K) | (with_reducible refine wpX_p (fun K hK => ?_); go_simp; rw [if_neg (by simp [undef])]; refine hK _ ?_; clear hK K) | (with_reducible refine wpX_q (fun K hK => ?_); go_simp; rw [if_neg (by simp [undef])]; refine hK _ ?_; clear hK K))
  clear x_hc0 hc0
  refine wpX_alt ?a1 ?a2
  case' a1 =>
    intro K hK
    (go_simp; intro wq hq; have F := F.then hq; have hg := hg.fr (hq); have hp_ := (Fr.refl wq).alloc (.cells #[.string x] 9); have hg := hg.fr (hp_); have hX := (MapKept.heap_alloc wq (.cells #[.string x] 9)).1; obtain ⟨N_hX, e_hX⟩ : ∃ N, N = wq.heap.size := ⟨_, rfl⟩; have l_hX := F.size; rw [← e_hX] at l_hX hX ⊢; have F := F.then hp_; refine ⟨hp_, hK _ _ ?_⟩; clear hK K hq hp_ e_hX; skip)
    repeat (first | (with_reducible refine wpX_q (fun K hK => ?_); go_simp; refine hK _ ?_; clear hK K) | (with_reducible refine wpX_p (fun K hK => ?_); go_simp; refine hK _ ?_; clear hK K) | (with_reducible refine wpX_p (fun K hK => ?_); go_simp; rw [if_neg (by simp [undef])]; refine hK _ ?_; clear hK K) | (with_reducible refine wpX_q (fun K hK => ?_); go_simp; rw [if_neg (by simp [undef])]; refine hK _ ?_; clear hK K))
    refine wpX_alt ?b1 ?b2
    case' b1 =>
      intro K hK
      (go_simp; intro wq hq; have F := F.then hq; have hg := hg.fr (hq); have hX := (hq).row hX; refine (pastN _ _ _ _ _ hg (strs_row hX) HL.out Hw.out).mono ?_; rintro e wp ⟨u1, rfl, hu1, g1⟩; have hg := hg.fr (g1); have hX := (g1).row hX; obtain ⟨ua1, uc1, rfl, _⟩ := hu1.form; have F := F.then (g1); refine ⟨_, rfl, (g1), hK _ _ ?_⟩; clear hK K hq; skip)
      repeat (first | (with_reducible refine wpX_q (fun K hK => ?_); go_simp; refine hK _ ?_; clear hK K) | (with_reducible refine wpX_p (fun K hK => ?_); go_simp; refine hK _ ?_; clear hK K) | (with_reducible refine wpX_p (fun K hK => ?_); go_simp; rw [if_neg (by simp [undef])]; refine hK _ ?_; clear hK K) | (with_reducible refine wpX_q (fun K hK => ?_); go_simp; rw [if_neg (by simp [undef])]; refine hK _ ?_; clear hK K))
      (refine wpX_e (fun K hK => ?_); go_simp; intro wq hq; have F := F.then hq; have hg := hg.fr (hq); have hu1 := hu1.fr (hq); have hp_ := (Fr.refl wq).alloc (.cells #[.string y] 9); have hg := hg.fr (hp_); have hu1 := hu1.fr (hp_); have hY := (MapKept.heap_alloc wq (.cells #[.string y] 9)).1; obtain ⟨N_hY, e_hY⟩ : ∃ N, N = wq.heap.size := ⟨_, rfl⟩; have l_hY := F.size; rw [← e_hY] at l_hY hY ⊢; have F := F.then hp_; refine ⟨hp_, hK _ _ ?_⟩; clear hK K hq hp_ e_hY; skip)
      repeat (first | (with_reducible refine wpX_q (fun K hK => ?_); go_simp; refine hK _ ?_; clear hK K) | (with_reducible refine wpX_p (fun K hK => ?_); go_simp; refine hK _ ?_; clear hK K) | (with_reducible refine wpX_p (fun K hK => ?_); go_simp; rw [if_neg (by simp [undef])]; refine hK _ ?_; clear hK K) | (with_reducible refine wpX_q (fun K hK => ?_); go_simp; rw [if_neg (by simp [undef])]; refine hK _ ?_; clear hK K))
    case' b2 =>
      intro K hK
      (go_simp; intro wq hq; have F := F.then hq; have hg := hg.fr (hq); have hX := (hq).row hX; have hp_ := (Fr.refl wq).alloc (.cells #[.string y] 9); have hg := hg.fr (hp_); have hX := (hp_).row hX; have hY := (MapKept.heap_alloc wq (.cells #[.string y] 9)).1; obtain ⟨N_hY, e_hY⟩ : ∃ N, N = wq.heap.size := ⟨_, rfl⟩; have l_hY := F.size; rw [← e_hY] at l_hY hY ⊢; have F := F.then hp_; refine ⟨hp_, hK _ _ ?_⟩; clear hK K hq hp_ e_hY; skip)
      repeat (first | (with_reducible refine wpX_q (fun K hK => ?_); go_simp; refine hK _ ?_; clear hK K) | (with_reducible refine wpX_p (fun K hK => ?_); go_simp; refine hK _ ?_; clear hK K) | (with_reducible refine wpX_p (fun K hK => ?_); go_simp; rw [if_neg (by simp [undef])]; refine hK _ ?_; clear hK K) | (with_reducible refine wpX_q (fun K hK => ?_); go_simp; rw [if_neg (by simp [undef])]; refine hK _ ?_; clear hK K))
      (refine wpX_e (fun K hK => ?_); go_simp; intro wq hq; have F := F.then hq; have hg := hg.fr (hq); have hX := (hq).row hX; have hY := (hq).row hY; refine (pastN _ _ _ _ _ hg (strs_row hX) HL.out Hw.out).mono ?_; rintro e wp ⟨u1, rfl, hu1, g1⟩; have hg := hg.fr (g1); have hX := (g1).row hX; have hY := (g1).row hY; obtain ⟨ua1, uc1, rfl, _⟩ := hu1.form; have F := F.then (g1); refine ⟨_, rfl, (g1), hK _ _ ?_⟩; clear hK K hq; skip)
      repeat (first | (with_reducible refine wpX_q (fun K hK => ?_); go_simp; refine hK _ ?_; clear hK K) | (with_reducible refine wpX_p (fun K hK => ?_); go_simp; refine hK _ ?_; clear hK K) | (with_reducible refine wpX_p (fun K hK => ?_); go_simp; rw [if_neg (by simp [undef])]; refine hK _ ?_; clear hK K) | (with_reducible refine wpX_q (fun K hK => ?_); go_simp; rw [if_neg (by simp [undef])]; refine hK _ ?_; clear hK K))
  case' a2 =>
    intro K hK
    (go_simp; intro wq hq; have F := F.then hq; have hg := hg.fr (hq); have hp_ := (Fr.refl wq).alloc (.cells #[.string y] 9); have hg := hg.fr (hp_); have hY := (MapKept.heap_alloc wq (.cells #[.string y] 9)).1; obtain ⟨N_hY, e_hY⟩ : ∃ N, N = wq.heap.size := ⟨_, rfl⟩; have l_hY := F.size; rw [← e_hY] at l_hY hY ⊢; have F := F.then hp_; refine ⟨hp_, hK _ _ ?_⟩; clear hK K hq hp_ e_hY; skip)
    repeat (first | (with_reducible refine wpX_q (fun K hK => ?_); go_simp; refine hK _ ?_; clear hK K) | (with_reducible refine wpX_p (fun K hK => ?_); go_simp; refine hK _ ?_; clear hK K) | (with_reducible refine wpX_p (fun K hK => ?_); go_simp; rw [if_neg (by simp [undef])]; refine hK _ ?_; clear hK K) | (with_reducible refine wpX_q (fun K hK => ?_); go_simp; rw [if_neg (by simp [undef])]; refine hK _ ?_; clear hK K))
    (refine wpX_e (fun K hK => ?_); go_simp; intro wq hq; have F := F.then hq; have hg := hg.fr (hq); have hY := (hq).row hY; have hp_ := (Fr.refl wq).alloc (.cells #[.string x] 9); have hg := hg.fr (hp_); have hY := (hp_).row hY; have hX := (MapKept.heap_alloc wq (.cells #[.string x] 9)).1; obtain ⟨N_hX, e_hX⟩ : ∃ N, N = wq.heap.size := ⟨_, rfl⟩; have l_hX := F.size; rw [← e_hX] at l_hX hX ⊢; have F := F.then hp_; refine ⟨hp_, hK _ _ ?_⟩; clear hK K hq hp_ e_hX; skip)
    repeat (first | (with_reducible refine wpX_q (fun K hK => ?_); go_simp; refine hK _ ?_; clear hK K) | (with_reducible refine wpX_p (fun K hK => ?_); go_simp; refine hK _ ?_; clear hK K) | (with_reducible refine wpX_p (fun K hK => ?_); go_simp; rw [if_neg (by simp [undef])]; refine hK _ ?_; clear hK K) | (with_reducible refine wpX_q (fun K hK => ?_); go_simp; rw [if_neg (by simp [undef])]; refine hK _ ?_; clear hK K))
    (refine wpX_e (fun K hK => ?_); go_simp; intro wq hq; have F := F.then hq; have hg := hg.fr (hq); have hX := (hq).row hX; have hY := (hq).row hY; refine (pastN _ _ _ _ _ hg (strs_row hX) HL.out Hw.out).mono ?_; rintro e wp ⟨u1, rfl, hu1, g1⟩; have hg := hg.fr (g1); have hX := (g1).row hX; have hY := (g1).row hY; obtain ⟨ua1, uc1, rfl, _⟩ := hu1.form; have F := F.then (g1); refine ⟨_, rfl, (g1), hK _ _ ?_⟩; clear hK K hq; skip)
    repeat (first | (with_reducible refine wpX_q (fun K hK => ?_); go_simp; refine hK _ ?_; clear hK K) | (with_reducible refine wpX_p (fun K hK => ?_); go_simp; refine hK _ ?_; clear hK K) | (with_reducible refine wpX_p (fun K hK => ?_); go_simp; rw [if_neg (by simp [undef])]; refine hK _ ?_; clear hK K) | (with_reducible refine wpX_q (fun K hK => ?_); go_simp; rw [if_neg (by simp [undef])]; refine hK _ ?_; clear hK K))
  all_goals
    (refine wpX_e (fun K hK => ?_); go_simp; intro wq hq; have F := F.then hq; have hg := hg.fr (hq); have hY := (hq).row hY; have hu1 := hu1.fr (hq); refine (pastN _ _ _ _ _ hg (strs_row hY) HL.out Hw.out).mono ?_; rintro e wp ⟨u2, rfl, hu2, g1⟩; have hg := hg.fr (g1); have hY := (g1).row hY; have hu1 := hu1.fr (g1); obtain ⟨ua2, uc2, rfl, _⟩ := hu2.form; have F := F.then (g1); refine ⟨_, rfl, (g1), hK _ _ ?_⟩; clear hK K hq; skip)
    repeat (first | (with_reducible refine wpX_q (fun K hK => ?_); go_simp; refine hK _ ?_; clear hK K) | (with_reducible refine wpX_p (fun K hK => ?_); go_simp; refine hK _ ?_; clear hK K) | (with_reducible refine wpX_p (fun K hK => ?_); go_simp; rw [if_neg (by simp [undef])]; refine hK _ ?_; clear hK K) | (with_reducible refine wpX_q (fun K hK => ?_); go_simp; rw [if_neg (by simp [undef])]; refine hK _ ?_; clear hK K))
    (refine wpX_e (fun K hK => ?_); go_simp; intro wq hq; have F := F.then hq; have hg := hg.fr (hq); have hu1 := hu1.fr (hq); have hu2 := hu2.fr (hq); refine (meet25 _ _ _ _ _ hu1 hu2 HP.out).mono ?_; rintro e wp ⟨u3, rfl, hu3, g1⟩; have hg := hg.fr (g1); have hu1 := hu1.fr (g1); have hu2 := hu2.fr (g1); obtain ⟨ua3, uc3, rfl, _⟩ := hu3.form; have F := F.then (g1); refine ⟨_, rfl, (g1), hK _ _ ?_⟩; clear hK K hq; skip)
    repeat (first | (with_reducible refine wpX_q (fun K hK => ?_); go_simp; refine hK _ ?_; clear hK K) | (with_reducible refine wpX_p (fun K hK => ?_); go_simp; refine hK _ ?_; clear hK K) | (with_reducible refine wpX_p (fun K hK => ?_); go_simp; rw [if_neg (by simp [undef])]; refine hK _ ?_; clear hK K) | (with_reducible refine wpX_q (fun K hK => ?_); go_simp; rw [if_neg (by simp [undef])]; refine hK _ ?_; clear hK K))
    (refine wpX_e (fun K hK => ?_); go_simp; intro wq hq; have F := F.then hq; have hg := hg.fr (hq); have hu3 := hu3.fr (hq); refine (tops18 _ _ _ _ _ hg hu3 HM.out Hw.out HG.out).mono ?_; rintro e wp ⟨u4, rfl, hu4, g1⟩; have hg := hg.fr (g1); have hu3 := hu3.fr (g1); obtain ⟨ua4, uc4, rfl, _⟩ := hu4.form; have F := F.then (g1); refine ⟨_, rfl, (g1), hK _ _ ?_⟩; clear hK K hq; skip)
    repeat (first | (with_reducible refine wpX_q (fun K hK => ?_); go_simp; refine hK _ ?_; clear hK K) | (with_reducible refine wpX_p (fun K hK => ?_); go_simp; refine hK _ ?_; clear hK K) | (with_reducible refine wpX_p (fun K hK => ?_); go_simp; rw [if_neg (by simp [undef])]; refine hK _ ?_; clear hK K) | (with_reducible refine wpX_q (fun K hK => ?_); go_simp; rw [if_neg (by simp [undef])]; refine hK _ ?_; clear hK K))
    refine wpX_nil (fun w9 hw9 => ?_)
    have hu4 := hu4.fr hw9
    have F := f0.then (F.then hw9)
    clear hg hu1 hu2 hu3 hw9
    go_wp2
    go_ret
    exact ⟨_, rfl, hu4, F⟩

theorem lack_none {g : G} {l : List BS} (h : ∀ x ∈ l, x ∈ ids g) : lackL g l = [] := by
  unfold lackL
  have : l.filter (fun x => !decide (x ∈ ids g)) = [] := by rw [List.filter_eq_nil_iff]; intro x hx; simp [h x hx]
  rw [this]; rfl
theorem lack_len (g : G) (l : List BS) : (lackL g l).length ≤ l.length := Nat.le_trans (length_ofL _) (List.length_filter_le _ _)
theorem lack_some {g : G} {l : List BS} (hr : Rising l) {x : BS} (hx : x ∈ l) (h : x ∉ ids g) : 0 < (lackL g l).length := by
  have : x ∈ lackL g l := by unfold lackL; rw [mem_ofL, List.mem_filter]; exact ⟨⟨hx, by simp [h]⟩, hr.1 x hx⟩
  exact List.length_pos_of_mem this
theorem less_pos {g : G} (hw : Wf g) {l : List BS} {x p : BS} (hp : p ∈ preds g x) (h : p ∉ l) : 0 < (ofL ((preds g x).filter fun y => decide (y ∉ l))).length := by
  have : p ∈ ofL ((preds g x).filter fun y => decide (y ∉ l)) := by rw [mem_ofL, List.mem_filter]; exact ⟨⟨hp, by simp [h]⟩, hw.right (preds_in hw hp)⟩
  exact List.length_pos_of_mem this
theorem less_len (a b : List BS) : (ofL (a.filter fun y => decide (y ∉ b))).length ≤ a.length := Nat.le_trans (length_ofL _) (List.length_filter_le _ _)

theorem risingT {v : Value} {xs : List BS} {w : World} (hs : Strs w v xs) (h : Rising xs) : Calls Tryz.prog 51 #[v] w fun e w' => e = .returned (.bool true) ∧ Fr [] w w' := by
  have := rising04 v xs w hs
  rw [decide_eq_true h] at this
  exact this.mono fun e w' ⟨h1, h2⟩ => ⟨h1, h2.fr⟩
theorem risingF {v : Value} {xs : List BS} {w : World} (hs : Strs w v xs) (h : ¬ Rising xs) : Calls Tryz.prog 51 #[v] w fun e w' => e = .returned (.bool false) ∧ Fr [] w w' := by
  have := rising04 v xs w hs
  rw [decide_eq_false h] at this
  exact this.mono fun e w' ⟨h1, h2⟩ => ⟨h1, h2.fr⟩
theorem lackE {v lv : Value} {g : G} {xs : List BS} {w : World} (hg : Nodes w v g) (hs : Strs w lv xs) (hl : xs.length ≤ 1000000) (h : ∀ x ∈ xs, x ∈ ids g) :
    Calls Tryz.prog 16 #[.agg #[v], lv] w fun e w' => ∃ u, e = .returned u ∧ Strs w' u [] ∧ Fr [] w w' := by
  have := lacking16 v lv g xs w hg hs hl
  rwa [lack_none h] at this

set_option maxRecDepth 100000 in
set_option maxHeartbeats 4000000 in
theorem closed20 (v lv : Value) (g : G) (xs : List BS) (w : World) (hg : Nodes w v g) (hs : Strs w lv xs) (hl : xs.length ≤ 1000000) (hw : Wf g) (hgl : g.length ≤ 4096) :
    Calls Tryz.prog 20 #[.agg #[v], lv] w fun e w' => e = .returned (.bool (closedB g xs)) ∧ Fr [] w w' := by
  obtain ⟨a, c, rfl, hc, hm, hn⟩ := hs.form
  obtain ⟨ga, gc, rfl, _⟩ := hg.form
  have Hw := Lib.hid hw; clear hw
  have HL := Lib.hid (Nat.le_trans hgl (by decide : 4096 ≤ 10000)); clear hgl
  have HX := Lib.hid hl
  obtain ⟨n, hnx⟩ : ∃ n, n = xs.length := ⟨_, rfl⟩
  rw [← hnx] at hs hc hn hl ⊢
  have Hn := Lib.hid hnx; clear hnx
  have f0 := (Fr.refl w).alloc (.cells #[.slice ga g.length gc] 29)
  have hc0 := World.cell?_alloc_new (w := w) #[.slice ga g.length gc] 29 0
  have hs := hs.fr f0
  have hg := hg.fr f0
  have hc0 : (w.alloc (.cells #[.slice ga g.length gc] 29)).cell? ⟨w.heap.size, 0, none⟩ = some (.slice ga g.length gc) := hc0
  by_cases hR : Rising xs
  · have HR := Lib.hid hR; clear hR
    have hll := lack_len g xs
    by_cases hI : ∀ x ∈ xs, x ∈ ids g
    · have HI := Lib.hid hI; clear hI
      go_enter Tryz.func20, Tryz.ntmps20
      go_upto_region 3 with (first
        | (go_at_call 51; refine (risingT hs HR.out).mono ?_; rintro e wx ⟨rfl, f⟩; have f0 := f0.then f; have hs := hs.fr f; have hg := hg.fr f; have hc0 := f.cell hc0; clear f)
        | (go_at_call 16; refine (lackE hg hs HX.out HI.out).mono ?_; rintro e w1 ⟨u, rfl, hu, f⟩; obtain ⟨ua, uc, rfl⟩ := hu.formN 0 rfl; have f0 := f0.then f; have hs := hs.fr f; have hg := hg.fr f; have hc0 := f.cell hc0; clear f))
      go_wp2
      go_loopw [5] (fun i wr => ∃ k : Nat, k ≤ n ∧ i = .int .i64 k ∧ Hid (∀ x ∈ xs.take k, ∀ p ∈ preds g x, p ∈ xs) ∧ Fr [] w1 wr) (fun i _ => n - (intOf i).toNat)
      case atStart => exact ⟨0, Nat.zero_le _, rfl, Lib.hid (by simp), .refl _⟩
      case round =>
        obtain ⟨k, hk, rfl, Hno, hf⟩ := hrel
        have hs := hs.fr hf
        have hg := hg.fr hf
        have hc1 := hf.cell hc0
        by_cases hlt : k < n
        · obtain ⟨s, hx⟩ : ∃ s, xs[k]? = some s := ⟨_, List.getElem?_eq_getElem (Hn.out ▸ hlt)⟩
          obtain ⟨b, o, hidx, hcell⟩ := hs.at_ Hn.out 23 9 Tryz.underlying23 Tryz.sizeOf9 k s hx
          have Hx := Lib.hid hx; clear hx
          have HPl := Lib.hid (Nat.le_trans (Nat.le_trans (len_preds Hw.out s) HL.out) (by decide : 10000 ≤ 1000000))
          go_upto_region 6 with fail
          refine wp_region_ordX Fr.pre [] (.op 0 0 (.op 1 2 (.op 2 2 (.op 3 2 (.op 4 0 (.op 6 2 (.op 5 1 (.op 7 1 (.op 8 0 (.op 9 2 .fin)))))))))) _ (by kernel_rfl) (by kernel_rfl) (by simp only [pickX, List.getElem?_cons_succ, List.getElem?_cons_zero]; rfl) ?_
          have F := (Fr.refl wr).drew
          have hg := hg.fr F
          have hs := hs.fr F
          have x_1 := Ext.cell (F.cell hcell)
          have x_2 := Ext.cell (F.cell hc1)
          repeat (first | (with_reducible refine wpX_q (fun K hK => ?_); go_simp; refine hK _ ?_; clear hK K) | (with_reducible refine wpX_p (fun K hK => ?_); go_simp; refine hK _ ?_; clear hK K) | (with_reducible refine wpX_p (fun K hK => ?_); go_simp; rw [if_neg (by simp [undef])]; refine hK _ ?_; clear hK K) | (with_reducible refine wpX_q (fun K hK => ?_); go_simp; rw [if_neg (by simp [undef])]; refine hK _ ?_; clear hK K))
          clear x_1 x_2
          (refine wpX_e (fun K hK => ?_); go_simp; intro wq hq; have F := F.then hq; have hg := hg.fr (hq); have hs := hs.fr (hq); refine (preds16 _ _ _ _ hg).mono ?_; rintro e wp ⟨u1, rfl, hu1, g1⟩; have hg := hg.fr (g1); have hs := hs.fr (g1); obtain ⟨ua1, uc1, rfl, _⟩ := hu1.form; have F := F.then (g1); refine ⟨_, rfl, (g1), hK _ _ ?_⟩; clear hK K hq; skip)
          repeat (first | (with_reducible refine wpX_q (fun K hK => ?_); go_simp; refine hK _ ?_; clear hK K) | (with_reducible refine wpX_p (fun K hK => ?_); go_simp; refine hK _ ?_; clear hK K) | (with_reducible refine wpX_p (fun K hK => ?_); go_simp; rw [if_neg (by simp [undef])]; refine hK _ ?_; clear hK K) | (with_reducible refine wpX_q (fun K hK => ?_); go_simp; rw [if_neg (by simp [undef])]; refine hK _ ?_; clear hK K))
          (refine wpX_e (fun K hK => ?_); go_simp; intro wq hq; have F := F.then hq; have hg := hg.fr (hq); have hs := hs.fr (hq); have hu1 := hu1.fr (hq); refine (less04 _ _ _ _ _ hu1 hs HPl.out).mono ?_; rintro e wp ⟨u2, rfl, hu2, g1⟩; have hg := hg.fr (g1); have hs := hs.fr (g1); have hu1 := hu1.fr (g1); obtain ⟨ua2, uc2, rfl, _⟩ := hu2.form; have F := F.then (g1); refine ⟨_, rfl, (g1), hK _ _ ?_⟩; clear hK K hq; skip)
          have hd0 := less_len (preds g s) xs
          have hd1 := HPl.out
          by_cases hall : ∀ p ∈ preds g s, p ∈ xs
          · have e0 : (ofL ((preds g s).filter fun y => decide (y ∉ xs))).length = 0 := by rw [less_none hall]; rfl
            rw [e0]
            have Hall := Lib.hid hall
            clear hu1 hu2 hs hg hc1 hcell hidx hall e0 hd0 hd1
            repeat (first | (with_reducible refine wpX_q (fun K hK => ?_); go_simp; refine hK _ ?_; clear hK K) | (with_reducible refine wpX_p (fun K hK => ?_); go_simp; refine hK _ ?_; clear hK K) | (with_reducible refine wpX_p (fun K hK => ?_); go_simp; rw [if_neg (by simp [undef])]; refine hK _ ?_; clear hK K) | (with_reducible refine wpX_q (fun K hK => ?_); go_simp; rw [if_neg (by simp [undef])]; refine hK _ ?_; clear hK K))
            refine wpX_nil (fun w8 hw8 => ?_)
            go_wp2
            go_roundw
            case rel =>
              refine ⟨k + 1, by omega, by go_num, Lib.hid (fun y hy => ?_), hf.then (F.then hw8)⟩
              rcases (mem_take_succ Hx.out).1 hy with hy | rfl
              · exact Hno.out y hy
              · exact Hall.out
            case measure => simp [intOf]; omega
          · have hex : ∃ p ∈ preds g s, p ∉ xs := Decidable.byContradiction fun h => hall fun p hp => Decidable.byContradiction fun h2 => h ⟨p, hp, h2⟩
            have hB : closedB g xs = false := decide_eq_false fun h => hall fun p hp => h.2.2 s (List.mem_of_getElem? Hx.out) p hp
            obtain ⟨p, hp, hpx⟩ := hex
            have hpos := less_pos Hw.out hp hpx
            have HB := Lib.hid hB
            obtain ⟨m, hm⟩ : ∃ m, m = (ofL ((preds g s).filter fun y => decide (y ∉ xs))).length := ⟨_, rfl⟩
            rw [← hm] at hpos hd0 ⊢
            have hd2 : decide ((0 : Int) < (m : Int)) = true := decide_eq_true (by omega)
            have hd3 : decide (0 < m) = true := decide_eq_true hpos
            clear hu1 hu2 hs hg hc1 hcell hidx hall hp hpx hB hm
            repeat (first | (with_reducible refine wpX_q (fun K hK => ?_); go_simp; refine hK _ ?_; clear hK K) | (with_reducible refine wpX_p (fun K hK => ?_); go_simp; refine hK _ ?_; clear hK K) | (with_reducible refine wpX_p (fun K hK => ?_); go_simp; rw [if_neg (by simp [undef])]; refine hK _ ?_; clear hK K) | (with_reducible refine wpX_q (fun K hK => ?_); go_simp; rw [if_neg (by simp [undef])]; refine hK _ ?_; clear hK K))
            refine wpX_nil (fun w8 hw8 => ?_)
            go_wp2
            go_ret
            exact ⟨ret_bool HB.out.symm, f0.then (hf.then (F.then hw8))⟩
        · have hB : closedB g xs = true := decide_eq_true ⟨HR.out, HI.out, fun x hx => Hno.out x (by rw [List.take_of_length_le (by have := Hn.out; omega)]; exact hx)⟩
          have HB := Lib.hid hB
          clear hB
          go_wp2
          go_ret
          exact ⟨ret_bool HB.out.symm, f0.then hf⟩
    · have hB : closedB g xs = false := decide_eq_false fun h => hI h.2.1
      rw [hB]
      have hex : ∃ x ∈ xs, x ∉ ids g := Decidable.byContradiction fun h => hI fun p hp => Decidable.byContradiction fun h2 => h ⟨p, hp, h2⟩
      obtain ⟨x, hx, hxi⟩ := hex
      have hpos := lack_some HR.out hx hxi
      obtain ⟨m, hm⟩ : ∃ m, m = (lackL g xs).length := ⟨_, rfl⟩
      rw [← hm] at hpos hll
      have hd2 : decide ((0 : Int) < (m : Int)) = true := decide_eq_true (by omega)
      have hd3 : decide (0 < m) = true := decide_eq_true hpos
      have Hm := Lib.hid hm
      have hml : m ≤ 1000000 := Nat.le_trans hll HX.out
      clear hB hI hx hxi hm
      go_enter Tryz.func20, Tryz.ntmps20
      go_wp2_with (first
        | (go_at_call 51; refine (risingT hs HR.out).mono ?_; rintro e wx ⟨rfl, f⟩; have f0 := f0.then f; have hs := hs.fr f; have hg := hg.fr f; have hc0 := f.cell hc0; clear f)
        | (go_at_call 16; refine (lacking16 _ _ _ _ _ hg hs HX.out).mono ?_; rintro e w1 ⟨u, rfl, hu, f⟩; obtain ⟨ua, uc, rfl⟩ := hu.formN m Hm.out.symm; have f0 := f0.then f; clear f hu))
      go_ret
      exact ⟨rfl, f0⟩
  · have HR := Lib.hid hR; clear hR
    have hB : closedB g xs = false := decide_eq_false fun h => HR.out h.1
    rw [hB]
    clear hB
    go_enter Tryz.func20, Tryz.ntmps20
    go_wp2_with (go_at_call 51; refine (risingF hs HR.out).mono ?_; rintro e wx ⟨rfl, f⟩)
    go_ret
    exact ⟨rfl, f0.then f⟩
set_option maxRecDepth 100000 in
set_option maxHeartbeats 4000000 in
theorem spread22 (v lv : Value) (g : G) (xs : List BS) (w : World) (hg : Nodes w v g) (hs : Strs w lv xs) (hl : xs.length ≤ 1000000) (hw : Wf g) (hgl : g.length ≤ 4096) :
    Calls Tryz.prog 22 #[.agg #[v], lv] w fun e w' => ∃ u, e = .returned u ∧ Strs w' u (spreadL g xs) ∧ Fr [] w w' := by
  obtain ⟨a, c, rfl, hc, hm, hn⟩ := hs.form
  obtain ⟨ga, gc, rfl, hgc, hgm, hgn⟩ := hg.form
  have Hw := Lib.hid hw; clear hw
  have HL := Lib.hid (Nat.le_trans hgl (by decide : 4096 ≤ 10000))
  obtain ⟨n, hnx⟩ : ∃ n, n = xs.length := ⟨_, rfl⟩
  rw [← hnx] at hs hc hn hl ⊢
  have Hn := Lib.hid hnx; clear hnx
  obtain ⟨m, hmx⟩ : ∃ n, n = g.length := ⟨_, rfl⟩
  rw [← hmx] at hg hgc hgn hgl ⊢
  have Hm := Lib.hid hmx; clear hmx
  have f0 := (Fr.refl w).alloc (.cells #[.slice ga m gc] 29)
  have hc0 := World.cell?_alloc_new (w := w) #[.slice ga m gc] 29 0
  go_enter Tryz.func22, Tryz.ntmps22
  go_wp2
  have hs := hs.fr f0
  have hg := hg.fr f0
  have hc0 : (w.alloc (.cells #[.slice ga m gc] 29)).cell? ⟨w.heap.size, 0, none⟩ = some (.slice ga m gc) := hc0
  generalize w.alloc (.cells #[.slice ga m gc] 29) = wA at f0 hc0 hs hg ⊢
  go_loopw [5, 6] (fun u i wr => ∃ (k : Nat) (zs : List BS), k ≤ m ∧ i = .int .i64 k ∧ Hid (zs = ((ids g).take k).filter fun x => decide (x ∈ xs) || xs.any fun y => aheadB g y x) ∧ zs.length ≤ k ∧ wr.ownsRow wA.heap.size 9 1 u zs.length (zs.map .string) ∧ Fr [] wA wr) (fun _ i _ => m - (intOf i).toNat)
  case atStart => exact ⟨0, [], Nat.zero_le _, rfl, Lib.hid (by simp), Nat.le_refl _, World.ownsRow_nil _ _ _ _, .refl _⟩
  case round =>
    obtain ⟨k, zs, hk, rfl, Hz, hzl, hsu, hf⟩ := hrel
    obtain ⟨wo, rfl⟩ : ∃ wo : World, wo = wr := ⟨_, rfl⟩
    have hs := hs.fr hf
    have hg := hg.fr hf
    have hc1 := hf.cell hc0
    by_cases hlt : k < m
    · obtain ⟨nd, hx⟩ : ∃ x, g[k]? = some x := ⟨_, List.getElem?_eq_getElem (Hm.out ▸ hlt)⟩
      obtain ⟨b, o, pv, hidx, hcell, -, -⟩ := hg.at_ Hm.out 27 71 Tryz.underlying27 Tryz.sizeOf71 k nd hx
      obtain ⟨s, hsn⟩ : ∃ s, s = nd.id := ⟨_, rfl⟩
      have hx2 : (ids g)[k]? = some s := by simp [ids, hx, hsn]
      rw [← hsn] at hcell
      have Hx := Lib.hid hx2; clear hx hx2 hsn
      have C1 := Lib.hid (has04 _ _ s _ hs)
      go_upto_region 7 with (go_at_call 28; refine C1.out.mono ?_; rintro e w' ⟨rfl, rfl⟩)
      clear hcell hidx
      go_wp2
      go_loopw [8, 9] (fun t i wr => ∃ q : Nat, q ≤ n ∧ i = .int .i64 q ∧ t = .bool (decide (s ∈ xs) || (xs.take q).any fun y => aheadB g y s) ∧ Fr [] wo wr) (fun _ i _ => n - (intOf i).toNat)
      case atStart => exact ⟨0, Nat.zero_le _, rfl, by simp, .refl _⟩
      case round =>
        obtain ⟨q, hq, rfl, rfl, hf2⟩ := hrel
        have hs := hs.fr hf2
        have hg := hg.fr hf2
        have hc1 := hf2.cell hc1
        obtain ⟨tp, htp⟩ : ∃ t, t = (decide (s ∈ xs) || (xs.take q).any fun y => aheadB g y s) := ⟨_, rfl⟩
        rw [← htp]
        have Htp := Lib.hid htp; clear htp
        by_cases hlt2 : q < n
        · obtain ⟨y, hy⟩ : ∃ s, xs[q]? = some s := ⟨_, List.getElem?_eq_getElem (Hn.out ▸ hlt2)⟩
          obtain ⟨b2, o2, hidx2, hcell2⟩ := hs.at_ Hn.out 23 9 Tryz.underlying23 Tryz.sizeOf9 q y hy
          have Hy := Lib.hid hy; clear hy
          cases tp with
          | false =>
            go_upto_region 10 with fail
            refine wp_region_ordX Fr.pre [] (.op 0 2 (.op 1 2 (.op 2 0 (.op 3 2 (.op 4 2 (.op 5 2 (.op 6 0 (.op 7 2 (.op 8 1 (.op 9 2 (.op 10 2 .fin))))))))))) _ (by kernel_rfl) (by kernel_rfl) (by simp only [pickX, List.getElem?_cons_succ, List.getElem?_cons_zero]; rfl) ?_
            have F := (Fr.refl wr).drew
            have hg := hg.fr F
            have x_2 := Ext.cell (F.cell hcell2)
            have x_3 := Ext.cell (F.cell hc1)
            repeat (first | (with_reducible refine wpX_q (fun K hK => ?_); go_simp; refine hK _ ?_; clear hK K) | (with_reducible refine wpX_p (fun K hK => ?_); go_simp; refine hK _ ?_; clear hK K) | (with_reducible refine wpX_p (fun K hK => ?_); go_simp; rw [if_neg (by simp [undef])]; refine hK _ ?_; clear hK K) | (with_reducible refine wpX_q (fun K hK => ?_); go_simp; rw [if_neg (by simp [undef])]; refine hK _ ?_; clear hK K))
            clear x_2 x_3
            (refine wpX_e (fun K hK => ?_); go_simp; intro wq hq; have F := F.then hq; have hg := hg.fr (hq); refine (aheadN _ _ _ _ _ hg (Hm.out ▸ HL.out) Hw.out).mono ?_; rintro e wp ⟨rfl, g1⟩; have hg := hg.fr (g1); have F := F.then (g1); refine ⟨_, rfl, (g1), hK _ _ ?_⟩; clear hK K hq; skip)
            repeat (first | (with_reducible refine wpX_q (fun K hK => ?_); go_simp; refine hK _ ?_; clear hK K) | (with_reducible refine wpX_p (fun K hK => ?_); go_simp; refine hK _ ?_; clear hK K) | (with_reducible refine wpX_p (fun K hK => ?_); go_simp; rw [if_neg (by simp [undef])]; refine hK _ ?_; clear hK K) | (with_reducible refine wpX_q (fun K hK => ?_); go_simp; rw [if_neg (by simp [undef])]; refine hK _ ?_; clear hK K))
            refine wpX_nil (fun w8 hw8 => ?_)
            clear hs hg hc1 hcell2 hidx2
            go_wp2
            go_roundw
            case rel => exact ⟨q + 1, by omega, by go_num, by rw [take_snoc Hy.out, List.any_append, ← Bool.or_assoc, ← Htp.out]; simp, hf2.then (F.then hw8)⟩
            case measure => simp [intOf]; omega
          | true =>
            go_upto_region 10 with fail
            refine wp_region_ordX Fr.pre [] (.op 0 2 (.op 1 2 (.op 2 0 (.op 3 2 (.op 4 2 (.op 5 2 (.op 6 0 (.op 7 2 (.op 8 1 (.op 9 2 (.op 10 2 .fin))))))))))) _ (by kernel_rfl) (by kernel_rfl) (by simp only [pickX, List.getElem?_cons_succ, List.getElem?_cons_zero]; rfl) ?_
            have F := (Fr.refl wr).drew
            repeat (first | (with_reducible refine wpX_q (fun K hK => ?_); go_simp; refine hK _ ?_; clear hK K) | (with_reducible refine wpX_p (fun K hK => ?_); go_simp; refine hK _ ?_; clear hK K) | (with_reducible refine wpX_p (fun K hK => ?_); go_simp; rw [if_neg (by simp [undef])]; refine hK _ ?_; clear hK K) | (with_reducible refine wpX_q (fun K hK => ?_); go_simp; rw [if_neg (by simp [undef])]; refine hK _ ?_; clear hK K))
            refine wpX_e (fun K hK => ?_)
            go_simp
            refine hK _ _ ?_
            clear hK K
            repeat (first | (with_reducible refine wpX_q (fun K hK => ?_); go_simp; refine hK _ ?_; clear hK K) | (with_reducible refine wpX_p (fun K hK => ?_); go_simp; refine hK _ ?_; clear hK K) | (with_reducible refine wpX_p (fun K hK => ?_); go_simp; rw [if_neg (by simp [undef])]; refine hK _ ?_; clear hK K) | (with_reducible refine wpX_q (fun K hK => ?_); go_simp; rw [if_neg (by simp [undef])]; refine hK _ ?_; clear hK K))
            refine wpX_nil (fun w8 hw8 => ?_)
            clear hs hg hc1 hcell2 hidx2
            go_wp2
            go_roundw
            case rel => exact ⟨q + 1, by omega, by go_num, by rw [take_snoc Hy.out, List.any_append, ← Bool.or_assoc, ← Htp.out]; simp, hf2.then (F.then hw8)⟩
            case measure => simp [intOf]; omega
        · have htq : tp = (decide (s ∈ xs) || xs.any fun y => aheadB g y s) := by have := Htp.out; rwa [List.take_of_length_le (by have := Hn.out; omega)] at this
          have Htq := Lib.hid htq
          have hsu := own_fr hsu hf2
          have hf3 := hf.then hf2
          clear htq hs hg hc1
          cases tp with
          | true =>
            go_wp2_with (at_builtin; refine wpList_appS rfl _ _ rfl _ _ _ rfl (own_fr hsu ((Fr.refl _).alloc _)) _ _ rfl (strs_new _ s) (by simp only [List.length_cons, List.length_nil]; omega) (hf3.alloc _).size ?_; intro v1 w1 hown1 hg1 hat1; have f1 := (hf3.alloc (.cells #[.string s] 9)).grown hg1 (own_base0 hsu))
            go_roundw
            case rel => exact ⟨k + 1, zs ++ [s], by omega, by go_num, Lib.hid (keep_yes Hx.out Hz.out (Htq.out.symm)), by simp; omega, hown1, f1⟩
            case measure => simp [intOf]; omega
          | false =>
            go_wp2
            go_roundw
            case rel => exact ⟨k + 1, zs, by omega, by go_num, Lib.hid (keep_no Hx.out Hz.out (Htq.out.symm)), by omega, hsu, hf3⟩
            case measure => simp [intOf]; omega
    · have hsu' := Strs.of_own hsu (by omega)
      have Hk := Lib.hid hlt
      go_wp2_with (go_at_call 43; refine (of04 _ _ _ hsu' (by omega)).mono ?_; rintro e w' ⟨u', rfl, hsu', hf'⟩)
      go_ret
      exact ⟨_, rfl, by rw [keep_all (by rw [length_ids]; exact Hm.out) Hk.out Hz.out] at hsu'; exact hsu', f0.then (hf.then hf')⟩
end Go.Proofs.YtoaebladjdnfjaaGreat
