import Derived.Test.YtoaebladjdnfjaaGreatIdsOf
import Derived.Test.YtoaebladjdnfjaaGreatRef18
import Derived.Test.YtoaebladjdnfjaaGreatDagAhead
import Derived.WalkLawsBesides
set_option linter.unusedSimpArgs false
set_option linter.unusedVariables false
/-
  ids.Meet.
-/
namespace Go.Proofs.YtoaebladjdnfjaaGreat
open Go.RowKit

def inBoth (a b : List BS) : List BS := a.filter fun x => decide (x ∈ b)
theorem both_eq {x : BS} {a b : List BS} (ha : (x :: a).Pairwise BLt) : inBoth (x :: a) (x :: b) = x :: inBoth a b := by
  unfold inBoth
  rw [List.filter_cons_of_pos (by simp)]
  congr 1
  refine List.filter_congr fun y hy => ?_
  have hne : y ≠ x := fun e => by subst e; exact blt_irrefl _ ((List.pairwise_cons.1 ha).1 _ hy)
  simp [hne]
theorem both_lt {x y : BS} {a b : List BS} (hb : (y :: b).Pairwise BLt) (h : BLt x y) : inBoth (x :: a) (y :: b) = inBoth a (y :: b) := by
  unfold inBoth
  rw [List.filter_cons_of_neg]
  intro hm
  rcases List.mem_cons.1 (of_decide_eq_true hm) with rfl | hm
  · exact blt_irrefl _ h
  · exact blt_asymm h ((List.pairwise_cons.1 hb).1 _ hm)
theorem both_gt {x y : BS} {a b : List BS} (ha : (x :: a).Pairwise BLt) (h : BLt y x) : inBoth (x :: a) (y :: b) = inBoth (x :: a) b := by
  unfold inBoth
  refine List.filter_congr fun z hz => ?_
  have hne : z ≠ y := fun e => by
    subst e
    rcases List.mem_cons.1 hz with rfl | hz
    · exact blt_irrefl _ h
    · exact blt_asymm h ((List.pairwise_cons.1 ha).1 _ hz)
  simp [hne]
theorem both_nil (a : List BS) : inBoth a [] = [] := by simp [inBoth]
theorem both_of (a b : List BS) : inBoth (ofL a) (ofL b) = meetL (ofL a) (ofL b) := by
  unfold meetL inBoth
  refine (ofL_of_rising ⟨fun x hx => ?_, ?_⟩).symm
  · exact (rising_ofL a).1 x (List.mem_filter.1 hx).1
  · exact (rising_ofL a).2.filter _
/-- Cut at the front. -/
theorem Strs.tail {P : Program} {w : World} {v : Value} {x : BS} {xs : List BS} (h : Strs w v (x :: xs)) (t e : TypeId) (ht : P.underlying t = some (.slice e)) (hs : ∀ W, (sizeOf e).run P W = .ok 1 W) :
    ∃ v', Strs w v' xs ∧ ∀ W, (Instr.slice t v (some (.int .i64 1)) none none).run P W = .ok v' W := by
  obtain ⟨a, c, rfl, _⟩ := h.form
  obtain ⟨a', h1, _, _, h2⟩ := h.cut (P := P) rfl t e ht hs 1 (x :: xs).length (by simp) (Nat.le_refl _)
  refine ⟨_, ?_, h2 rfl⟩
  simpa using h1

theorem lenNe (l : List BS) : (((l.length + 1 : Nat) : Int) == 0) = false ∧ decide ((0 : Int) < ((l.length + 1 : Nat) : Int)) = true ∧ decide (0 < l.length + 1) = true ∧ 0 < l.length + 1 ∧ l.length < l.length + 1 :=
  ⟨beq_eq_false_iff_ne.2 (by omega), decide_eq_true (by omega), decide_eq_true (by omega), by omega, by omega⟩
set_option maxRecDepth 100000 in
theorem meet72 (p q : Bool) (w : World) : Calls Tryz.prog 72 #[.bool p, .bool q] w fun e w' => e = .returned (.bool (p && q)) ∧ w = w' := by
  cases p <;> cases q <;> (go_enter Tryz.func72, Tryz.ntmps72; go_wp2; go_ret; exact ⟨rfl, rfl⟩)

set_option maxRecDepth 100000 in
set_option maxHeartbeats 1000000 in
theorem both71 (v u : Value) (xs ys : List BS) (w : World) (hx : Strs w v xs) (hy : Strs w u ys) (sx : xs.Pairwise BLt) (sy : ys.Pairwise BLt) (hxl : xs.length ≤ 1000000) (hyl : ys.length ≤ 1000000) :
    Calls Tryz.prog 71 #[v, u, .func (.func 72) #[] #[]] w fun e w' => ∃ z, e = .returned z ∧ w'.ownsRow w.heap.size 9 1 z (inBoth xs ys).length ((inBoth xs ys).map .string) ∧ Fr [] w w' := by
  obtain ⟨a, c, rfl, hc, hm, hn⟩ := hx.form
  obtain ⟨a2, c2, rfl, hc2, hm2, hn2⟩ := hy.form
  have Sx := Lib.hid sx
  have Sy := Lib.hid sy
  clear sx sy
  go_enter Tryz.func71, Tryz.ntmps71
  go_wp2
  go_loopw [0, 1, 7] (fun va vb z wr => ∃ (ps qs zs : List BS), Strs w va ps ∧ Strs w vb qs ∧ Hid (ps.Pairwise BLt) ∧ Hid (qs.Pairwise BLt) ∧ Hid (zs ++ inBoth ps qs = inBoth xs ys) ∧ ps.length ≤ 1000000 ∧ qs.length ≤ 1000000 ∧ zs.length + ps.length ≤ 1000000 ∧ wr.ownsRow w.heap.size 9 1 z zs.length (zs.map .string) ∧ Fr [] w wr) (fun va vb _ _ => lenV va + lenV vb)
  case atStart => exact ⟨xs, ys, [], hx, hy, Sx, Sy, Lib.hid rfl, hxl, hyl, by simpa using hxl, World.ownsRow_nil _ _ _ _, .refl _⟩
  case round =>
    obtain ⟨ps, qs, zs, hx, hy, Sa, Sb, Hz, hal, hbl, hzl, ho, hf⟩ := hrel
    cases ps with
    | nil =>
      obtain ⟨ra, rc, rfl⟩ := hx.formN 0 rfl
      cases qs with
      | nil =>
        obtain ⟨qa, qc, rfl⟩ := hy.formN 0 rfl
        go_wp2
        go_ret
        have := Hz.out
        rw [both_nil, List.append_nil] at this
        rw [← this]
        exact ⟨_, rfl, ho, hf⟩
      | cons y qs =>
        obtain ⟨qa, qc, rfl⟩ := hy.formN (qs.length + 1) (by simp)
        have hql : qs.length ≤ 1000000 := by simp at hbl; omega
        obtain ⟨bb, ob, hib, hcb⟩ := hy.at_ (by simp) 23 9 Tryz.underlying23 Tryz.sizeOf9 0 y rfl
        simp only [show ((0 : Nat) : Int) = 0 from rfl] at hib
        obtain ⟨vb', htb, hrb⟩ := hy.tail 23 9 Tryz.underlying23 Tryz.sizeOf9
        obtain ⟨tb, tcb, rfl⟩ := htb.formN qs.length rfl
        have lb := lenNe qs
        clear hy
        generalize qs.length + 1 = nb at hib hrb lb ⊢
        obtain ⟨lb1, lb2, lb3, lb4, lb5⟩ := lb
        have F := Fr.refl wr
        go_upto_region 3 with fail
        refine wp_region_ordX Fr.pre [] (.op 0 2 (.op 1 0 (.op 2 2 (.op 3 2 (.op 4 2 (.op 5 0 (.op 6 2 (.op 7 2 (.op 8 2 (.op 9 2 (.op 10 0 (.op 11 2 (.op 12 2 (.op 13 0 (.op 14 2 (.op 15 2 (.op 16 2 (.op 17 2 .fin)))))))))))))))))) _ (by kernel_rfl) (by kernel_rfl) (by simp only [pickX, List.getElem?_cons_succ, List.getElem?_cons_zero]; rfl) ?_
        have G := F.drew
        have x_b := Ext.cell ((hf.then G).cell hcb)
        repeat (first | (with_reducible refine wpX_q (fun K hK => ?_); go_simp; refine hK _ ?_; clear hK K) | (with_reducible refine wpX_p (fun K hK => ?_); go_simp; refine hK _ ?_; clear hK K) | (with_reducible refine wpX_p (fun K hK => ?_); go_simp; rw [if_neg (by simp [undef])]; refine hK _ ?_; clear hK K) | (with_reducible refine wpX_q (fun K hK => ?_); go_simp; rw [if_neg (by simp [undef])]; refine hK _ ?_; clear hK K))
        with_reducible refine wpX_nil (fun wn hw => ?_)
        have F := G.then hw
        clear G hw x_b
        go_upto_region 4 with fail
        refine wp_region_ordX Fr.pre [] (.op 0 2 (.op 1 0 (.op 2 2 (.op 3 2 (.op 4 2 (.op 5 0 (.op 6 2 (.op 7 2 (.op 8 2 (.op 9 2 (.op 10 0 (.op 11 2 (.op 12 2 (.op 13 0 (.op 14 2 (.op 15 2 (.op 16 2 (.op 17 2 .fin)))))))))))))))))) _ (by kernel_rfl) (by kernel_rfl) (by simp only [pickX, List.getElem?_cons_succ, List.getElem?_cons_zero]; rfl) ?_
        have G := F.drew
        have x_b := Ext.cell ((hf.then G).cell hcb)
        repeat (first | (with_reducible refine wpX_q (fun K hK => ?_); go_simp; refine hK _ ?_; clear hK K) | (with_reducible refine wpX_p (fun K hK => ?_); go_simp; refine hK _ ?_; clear hK K) | (with_reducible refine wpX_p (fun K hK => ?_); go_simp; rw [if_neg (by simp [undef])]; refine hK _ ?_; clear hK K) | (with_reducible refine wpX_q (fun K hK => ?_); go_simp; rw [if_neg (by simp [undef])]; refine hK _ ?_; clear hK K))
        with_reducible refine wpX_nil (fun wn hw => ?_)
        have F := G.then hw
        clear G hw x_b
        go_upto_region 9 with fail
        refine wp_region_ordX Fr.pre [] (.op 0 2 (.op 1 2 (.op 2 0 (.op 3 2 (.op 4 0 (.op 5 2 (.op 6 2 .fin))))))) _ (by kernel_rfl) (by kernel_rfl) (by simp only [pickX, List.getElem?_cons_succ, List.getElem?_cons_zero]; rfl) ?_
        have G := F.drew
        have x_b := Ext.cell ((hf.then G).cell hcb)
        repeat (first | (with_reducible refine wpX_q (fun K hK => ?_); go_simp; refine hK _ ?_; clear hK K) | (with_reducible refine wpX_p (fun K hK => ?_); go_simp; refine hK _ ?_; clear hK K) | (with_reducible refine wpX_p (fun K hK => ?_); go_simp; rw [if_neg (by simp [undef])]; refine hK _ ?_; clear hK K) | (with_reducible refine wpX_q (fun K hK => ?_); go_simp; rw [if_neg (by simp [undef])]; refine hK _ ?_; clear hK K))
        with_reducible refine wpX_nil (fun wn hw => ?_)
        have F := G.then hw
        clear G hw x_b
        have ho := own_fr ho F
        have hf := hf.then F
        go_wp2_with (go_at_call 72; refine (meet72 _ _ _).mono ?_; rintro e w' ⟨rfl, rfl⟩)
        go_roundw
        case rel => exact ⟨[], qs, zs, hx, htb, Sa, Lib.hid (List.pairwise_cons.1 Sb.out).2, Lib.hid (by have := Hz.out; simpa [inBoth] using this), by simp, hql, hzl, ho, hf⟩
        case measure => simp [intOf, lenV]; omega
    | cons x ps =>
      obtain ⟨ra, rc, rfl⟩ := hx.formN (ps.length + 1) (by simp)
      have hpl : ps.length ≤ 1000000 := by simp at hal; omega
      have hzl2 : zs.length + ps.length + 1 ≤ 1000000 := by simp at hzl; omega
      cases qs with
      | nil =>
        obtain ⟨qa, qc, rfl⟩ := hy.formN 0 rfl
        obtain ⟨ba, oa, hia, hca⟩ := hx.at_ (by simp) 23 9 Tryz.underlying23 Tryz.sizeOf9 0 x rfl
        simp only [show ((0 : Nat) : Int) = 0 from rfl] at hia
        obtain ⟨va', hta, hra⟩ := hx.tail 23 9 Tryz.underlying23 Tryz.sizeOf9
        obtain ⟨ta, tc, rfl⟩ := hta.formN ps.length rfl
        have la := lenNe ps
        have lb' : True := trivial
        clear hx
        generalize ps.length + 1 = na at hia hra la ⊢
        obtain ⟨la1, la2, la3, la4, la5⟩ := la
        have F := Fr.refl wr
        go_upto_region 3 with fail
        refine wp_region_ordX Fr.pre [] (.op 0 2 (.op 1 0 (.op 2 2 (.op 3 2 (.op 4 2 (.op 5 0 (.op 6 2 (.op 7 2 (.op 8 2 (.op 9 2 (.op 10 0 (.op 11 2 (.op 12 2 (.op 13 0 (.op 14 2 (.op 15 2 (.op 16 2 (.op 17 2 .fin)))))))))))))))))) _ (by kernel_rfl) (by kernel_rfl) (by simp only [pickX, List.getElem?_cons_succ, List.getElem?_cons_zero]; rfl) ?_
        have G := F.drew
        have x_a := Ext.cell ((hf.then G).cell hca)
        repeat (first | (with_reducible refine wpX_q (fun K hK => ?_); go_simp; refine hK _ ?_; clear hK K) | (with_reducible refine wpX_p (fun K hK => ?_); go_simp; refine hK _ ?_; clear hK K) | (with_reducible refine wpX_p (fun K hK => ?_); go_simp; rw [if_neg (by simp [undef])]; refine hK _ ?_; clear hK K) | (with_reducible refine wpX_q (fun K hK => ?_); go_simp; rw [if_neg (by simp [undef])]; refine hK _ ?_; clear hK K))
        with_reducible refine wpX_nil (fun wn hw => ?_)
        have F := G.then hw
        clear G hw x_a
        go_upto_region 4 with fail
        refine wp_region_ordX Fr.pre [] (.op 0 2 (.op 1 0 (.op 2 2 (.op 3 2 (.op 4 2 (.op 5 0 (.op 6 2 (.op 7 2 (.op 8 2 (.op 9 2 (.op 10 0 (.op 11 2 (.op 12 2 (.op 13 0 (.op 14 2 (.op 15 2 (.op 16 2 (.op 17 2 .fin)))))))))))))))))) _ (by kernel_rfl) (by kernel_rfl) (by simp only [pickX, List.getElem?_cons_succ, List.getElem?_cons_zero]; rfl) ?_
        have G := F.drew
        have x_a := Ext.cell ((hf.then G).cell hca)
        repeat (first | (with_reducible refine wpX_q (fun K hK => ?_); go_simp; refine hK _ ?_; clear hK K) | (with_reducible refine wpX_p (fun K hK => ?_); go_simp; refine hK _ ?_; clear hK K) | (with_reducible refine wpX_p (fun K hK => ?_); go_simp; rw [if_neg (by simp [undef])]; refine hK _ ?_; clear hK K) | (with_reducible refine wpX_q (fun K hK => ?_); go_simp; rw [if_neg (by simp [undef])]; refine hK _ ?_; clear hK K))
        with_reducible refine wpX_nil (fun wn hw => ?_)
        have F := G.then hw
        clear G hw x_a
        go_upto_region 7 with fail
        refine wp_region_ordX Fr.pre [] (.op 0 2 (.op 1 2 (.op 2 0 (.op 3 2 (.op 4 0 (.op 5 2 (.op 6 2 .fin))))))) _ (by kernel_rfl) (by kernel_rfl) (by simp only [pickX, List.getElem?_cons_succ, List.getElem?_cons_zero]; rfl) ?_
        have G := F.drew
        have x_a := Ext.cell ((hf.then G).cell hca)
        repeat (first | (with_reducible refine wpX_q (fun K hK => ?_); go_simp; refine hK _ ?_; clear hK K) | (with_reducible refine wpX_p (fun K hK => ?_); go_simp; refine hK _ ?_; clear hK K) | (with_reducible refine wpX_p (fun K hK => ?_); go_simp; rw [if_neg (by simp [undef])]; refine hK _ ?_; clear hK K) | (with_reducible refine wpX_q (fun K hK => ?_); go_simp; rw [if_neg (by simp [undef])]; refine hK _ ?_; clear hK K))
        with_reducible refine wpX_nil (fun wn hw => ?_)
        have F := G.then hw
        clear G hw x_a
        have ho := own_fr ho F
        have hf := hf.then F
        go_wp2_with (go_at_call 72; refine (meet72 _ _ _).mono ?_; rintro e w' ⟨rfl, rfl⟩)
        go_roundw
        case rel => exact ⟨ps, [], zs, hta, hy, Lib.hid (List.pairwise_cons.1 Sa.out).2, Sb, Lib.hid (by have := Hz.out; rw [both_nil] at this ⊢; exact this), hpl, by simp, by omega, ho, hf⟩
        case measure => simp [intOf, lenV]; omega
      | cons y qs =>
        obtain ⟨qa, qc, rfl⟩ := hy.formN (qs.length + 1) (by simp)
        have hql : qs.length ≤ 1000000 := by simp at hbl; omega
        have hx0 := hx
        have hy0 := hy
        rcases blt_total x y with hxy | hxy | hxy
        · have l1 := less_tt hxy
          have l2 := less_ff (blt_asymm hxy)
          have l3 := beq_ff (a := x) (b := y) (fun e => by subst e; exact blt_irrefl _ hxy)
          have l4 := beq_ff (a := y) (b := x) (fun e => by subst e; exact blt_irrefl _ hxy)
          have Hxy := Lib.hid hxy
          clear hxy
          obtain ⟨ba, oa, hia, hca⟩ := hx.at_ (by simp) 23 9 Tryz.underlying23 Tryz.sizeOf9 0 x rfl
          simp only [show ((0 : Nat) : Int) = 0 from rfl] at hia
          obtain ⟨va', hta, hra⟩ := hx.tail 23 9 Tryz.underlying23 Tryz.sizeOf9
          obtain ⟨ta, tc, rfl⟩ := hta.formN ps.length rfl
          have la := lenNe ps
          have lb' : True := trivial
          clear hx
          generalize ps.length + 1 = na at hia hra la hx0 ⊢
          obtain ⟨la1, la2, la3, la4, la5⟩ := la
          obtain ⟨bb, ob, hib, hcb⟩ := hy.at_ (by simp) 23 9 Tryz.underlying23 Tryz.sizeOf9 0 y rfl
          simp only [show ((0 : Nat) : Int) = 0 from rfl] at hib
          obtain ⟨vb', htb, hrb⟩ := hy.tail 23 9 Tryz.underlying23 Tryz.sizeOf9
          obtain ⟨tb, tcb, rfl⟩ := htb.formN qs.length rfl
          have lb := lenNe qs
          clear hy
          generalize qs.length + 1 = nb at hib hrb lb hy0 ⊢
          obtain ⟨lb1, lb2, lb3, lb4, lb5⟩ := lb
          have F := Fr.refl wr
          go_upto_region 3 with fail
          refine wp_region_ordX Fr.pre [] (.op 0 2 (.op 1 0 (.op 2 2 (.op 3 2 (.op 4 2 (.op 5 0 (.op 6 2 (.op 7 2 (.op 8 2 (.op 9 2 (.op 10 0 (.op 11 2 (.op 12 2 (.op 13 0 (.op 14 2 (.op 15 2 (.op 16 2 (.op 17 2 .fin)))))))))))))))))) _ (by kernel_rfl) (by kernel_rfl) (by simp only [pickX, List.getElem?_cons_succ, List.getElem?_cons_zero]; rfl) ?_
          have G := F.drew
          have x_a := Ext.cell ((hf.then G).cell hca)
          have x_b := Ext.cell ((hf.then G).cell hcb)
          repeat (first | (with_reducible refine wpX_q (fun K hK => ?_); go_simp; refine hK _ ?_; clear hK K) | (with_reducible refine wpX_p (fun K hK => ?_); go_simp; refine hK _ ?_; clear hK K) | (with_reducible refine wpX_p (fun K hK => ?_); go_simp; rw [if_neg (by simp [undef])]; refine hK _ ?_; clear hK K) | (with_reducible refine wpX_q (fun K hK => ?_); go_simp; rw [if_neg (by simp [undef])]; refine hK _ ?_; clear hK K))
          with_reducible refine wpX_nil (fun wn hw => ?_)
          have F := G.then hw
          clear G hw x_a x_b
          go_upto_region 4 with fail
          refine wp_region_ordX Fr.pre [] (.op 0 2 (.op 1 0 (.op 2 2 (.op 3 2 (.op 4 2 (.op 5 0 (.op 6 2 (.op 7 2 (.op 8 2 (.op 9 2 (.op 10 0 (.op 11 2 (.op 12 2 (.op 13 0 (.op 14 2 (.op 15 2 (.op 16 2 (.op 17 2 .fin)))))))))))))))))) _ (by kernel_rfl) (by kernel_rfl) (by simp only [pickX, List.getElem?_cons_succ, List.getElem?_cons_zero]; rfl) ?_
          have G := F.drew
          have x_a := Ext.cell ((hf.then G).cell hca)
          have x_b := Ext.cell ((hf.then G).cell hcb)
          repeat (first | (with_reducible refine wpX_q (fun K hK => ?_); go_simp; refine hK _ ?_; clear hK K) | (with_reducible refine wpX_p (fun K hK => ?_); go_simp; refine hK _ ?_; clear hK K) | (with_reducible refine wpX_p (fun K hK => ?_); go_simp; rw [if_neg (by simp [undef])]; refine hK _ ?_; clear hK K) | (with_reducible refine wpX_q (fun K hK => ?_); go_simp; rw [if_neg (by simp [undef])]; refine hK _ ?_; clear hK K))
          with_reducible refine wpX_nil (fun wn hw => ?_)
          have F := G.then hw
          clear G hw x_a x_b
          go_upto_region 7 with fail
          refine wp_region_ordX Fr.pre [] (.op 0 2 (.op 1 2 (.op 2 0 (.op 3 2 (.op 4 0 (.op 5 2 (.op 6 2 .fin))))))) _ (by kernel_rfl) (by kernel_rfl) (by simp only [pickX, List.getElem?_cons_succ, List.getElem?_cons_zero]; rfl) ?_
          have G := F.drew
          have x_a := Ext.cell ((hf.then G).cell hca)
          repeat (first | (with_reducible refine wpX_q (fun K hK => ?_); go_simp; refine hK _ ?_; clear hK K) | (with_reducible refine wpX_p (fun K hK => ?_); go_simp; refine hK _ ?_; clear hK K) | (with_reducible refine wpX_p (fun K hK => ?_); go_simp; rw [if_neg (by simp [undef])]; refine hK _ ?_; clear hK K) | (with_reducible refine wpX_q (fun K hK => ?_); go_simp; rw [if_neg (by simp [undef])]; refine hK _ ?_; clear hK K))
          with_reducible refine wpX_nil (fun wn hw => ?_)
          have F := G.then hw
          clear G hw x_a
          have ho := own_fr ho F
          have hf := hf.then F
          go_wp2_with (go_at_call 72; refine (meet72 _ _ _).mono ?_; rintro e w' ⟨rfl, rfl⟩)
          go_roundw
          case rel => exact ⟨ps, y :: qs, zs, hta, hy0, Lib.hid (List.pairwise_cons.1 Sa.out).2, Sb, Lib.hid (by have := Hz.out; rwa [both_lt Sb.out Hxy.out] at this), hpl, hbl, by omega, ho, hf⟩
          case measure => simp [intOf, lenV]; omega
        · subst hxy
          have l1 := less_ff (blt_irrefl x)
          have l3 := beq_tt (a := x) (b := x) rfl
          obtain ⟨ba, oa, hia, hca⟩ := hx.at_ (by simp) 23 9 Tryz.underlying23 Tryz.sizeOf9 0 x rfl
          simp only [show ((0 : Nat) : Int) = 0 from rfl] at hia
          obtain ⟨va', hta, hra⟩ := hx.tail 23 9 Tryz.underlying23 Tryz.sizeOf9
          obtain ⟨ta, tc, rfl⟩ := hta.formN ps.length rfl
          have la := lenNe ps
          have lb' : True := trivial
          clear hx
          generalize ps.length + 1 = na at hia hra la hx0 ⊢
          obtain ⟨la1, la2, la3, la4, la5⟩ := la
          obtain ⟨bb, ob, hib, hcb⟩ := hy.at_ (by simp) 23 9 Tryz.underlying23 Tryz.sizeOf9 0 x rfl
          simp only [show ((0 : Nat) : Int) = 0 from rfl] at hib
          obtain ⟨vb', htb, hrb⟩ := hy.tail 23 9 Tryz.underlying23 Tryz.sizeOf9
          obtain ⟨tb, tcb, rfl⟩ := htb.formN qs.length rfl
          have lb := lenNe qs
          clear hy
          generalize qs.length + 1 = nb at hib hrb lb hy0 ⊢
          obtain ⟨lb1, lb2, lb3, lb4, lb5⟩ := lb
          have F := Fr.refl wr
          go_upto_region 3 with fail
          refine wp_region_ordX Fr.pre [] (.op 0 2 (.op 1 0 (.op 2 2 (.op 3 2 (.op 4 2 (.op 5 0 (.op 6 2 (.op 7 2 (.op 8 2 (.op 9 2 (.op 10 0 (.op 11 2 (.op 12 2 (.op 13 0 (.op 14 2 (.op 15 2 (.op 16 2 (.op 17 2 .fin)))))))))))))))))) _ (by kernel_rfl) (by kernel_rfl) (by simp only [pickX, List.getElem?_cons_succ, List.getElem?_cons_zero]; rfl) ?_
          have G := F.drew
          have x_a := Ext.cell ((hf.then G).cell hca)
          have x_b := Ext.cell ((hf.then G).cell hcb)
          repeat (first | (with_reducible refine wpX_q (fun K hK => ?_); go_simp; refine hK _ ?_; clear hK K) | (with_reducible refine wpX_p (fun K hK => ?_); go_simp; refine hK _ ?_; clear hK K) | (with_reducible refine wpX_p (fun K hK => ?_); go_simp; rw [if_neg (by simp [undef])]; refine hK _ ?_; clear hK K) | (with_reducible refine wpX_q (fun K hK => ?_); go_simp; rw [if_neg (by simp [undef])]; refine hK _ ?_; clear hK K))
          with_reducible refine wpX_nil (fun wn hw => ?_)
          have F := G.then hw
          clear G hw x_a x_b
          go_upto_region 4 with fail
          refine wp_region_ordX Fr.pre [] (.op 0 2 (.op 1 0 (.op 2 2 (.op 3 2 (.op 4 2 (.op 5 0 (.op 6 2 (.op 7 2 (.op 8 2 (.op 9 2 (.op 10 0 (.op 11 2 (.op 12 2 (.op 13 0 (.op 14 2 (.op 15 2 (.op 16 2 (.op 17 2 .fin)))))))))))))))))) _ (by kernel_rfl) (by kernel_rfl) (by simp only [pickX, List.getElem?_cons_succ, List.getElem?_cons_zero]; rfl) ?_
          have G := F.drew
          have x_a := Ext.cell ((hf.then G).cell hca)
          have x_b := Ext.cell ((hf.then G).cell hcb)
          repeat (first | (with_reducible refine wpX_q (fun K hK => ?_); go_simp; refine hK _ ?_; clear hK K) | (with_reducible refine wpX_p (fun K hK => ?_); go_simp; refine hK _ ?_; clear hK K) | (with_reducible refine wpX_p (fun K hK => ?_); go_simp; rw [if_neg (by simp [undef])]; refine hK _ ?_; clear hK K) | (with_reducible refine wpX_q (fun K hK => ?_); go_simp; rw [if_neg (by simp [undef])]; refine hK _ ?_; clear hK K))
          with_reducible refine wpX_nil (fun wn hw => ?_)
          have F := G.then hw
          clear G hw x_a x_b
          go_upto_region 7 with fail
          refine wp_region_ordX Fr.pre [] (.op 0 2 (.op 1 2 (.op 2 0 (.op 3 2 (.op 4 0 (.op 5 2 (.op 6 2 .fin))))))) _ (by kernel_rfl) (by kernel_rfl) (by simp only [pickX, List.getElem?_cons_succ, List.getElem?_cons_zero]; rfl) ?_
          have G := F.drew
          have x_a := Ext.cell ((hf.then G).cell hca)
          repeat (first | (with_reducible refine wpX_q (fun K hK => ?_); go_simp; refine hK _ ?_; clear hK K) | (with_reducible refine wpX_p (fun K hK => ?_); go_simp; refine hK _ ?_; clear hK K) | (with_reducible refine wpX_p (fun K hK => ?_); go_simp; rw [if_neg (by simp [undef])]; refine hK _ ?_; clear hK K) | (with_reducible refine wpX_q (fun K hK => ?_); go_simp; rw [if_neg (by simp [undef])]; refine hK _ ?_; clear hK K))
          with_reducible refine wpX_nil (fun wn hw => ?_)
          have F := G.then hw
          clear G hw x_a
          go_upto_region 9 with fail
          refine wp_region_ordX Fr.pre [] (.op 0 2 (.op 1 2 (.op 2 0 (.op 3 2 (.op 4 0 (.op 5 2 (.op 6 2 .fin))))))) _ (by kernel_rfl) (by kernel_rfl) (by simp only [pickX, List.getElem?_cons_succ, List.getElem?_cons_zero]; rfl) ?_
          have G := F.drew
          have x_b := Ext.cell ((hf.then G).cell hcb)
          repeat (first | (with_reducible refine wpX_q (fun K hK => ?_); go_simp; refine hK _ ?_; clear hK K) | (with_reducible refine wpX_p (fun K hK => ?_); go_simp; refine hK _ ?_; clear hK K) | (with_reducible refine wpX_p (fun K hK => ?_); go_simp; rw [if_neg (by simp [undef])]; refine hK _ ?_; clear hK K) | (with_reducible refine wpX_q (fun K hK => ?_); go_simp; rw [if_neg (by simp [undef])]; refine hK _ ?_; clear hK K))
          with_reducible refine wpX_nil (fun wn hw => ?_)
          have F := G.then hw
          clear G hw x_b
          have ho := own_fr ho F
          have hf := hf.then F
          go_wp2_with (first
            | (go_at_call 72; refine (meet72 _ _ _).mono ?_; rintro e w' ⟨rfl, rfl⟩)
            | (at_builtin; refine wpList_appS rfl _ _ rfl _ _ _ rfl (own_fr ho ((Fr.refl _).alloc _)) _ _ rfl (strs_new _ x) (by simp only [List.length_cons, List.length_nil]; omega) (hf.alloc _).size ?_; intro v1 w1 hown1 hg1 hat1; have f1 := (hf.alloc (.cells #[.string x] 9)).grown hg1 (own_base0 ho)))
          go_roundw
          case rel => exact ⟨ps, qs, zs ++ [x], hta, htb, Lib.hid (List.pairwise_cons.1 Sa.out).2, Lib.hid (List.pairwise_cons.1 Sb.out).2, Lib.hid (by have := Hz.out; rw [both_eq Sa.out] at this; rw [← this]; simp), hpl, hql, by simp; omega, hown1, f1⟩
          case measure => simp [intOf, lenV]; omega
        · have l1 := less_tt hxy
          have l2 := less_ff (blt_asymm hxy)
          have l3 := beq_ff (a := x) (b := y) (fun e => by subst e; exact blt_irrefl _ hxy)
          have l4 := beq_ff (a := y) (b := x) (fun e => by subst e; exact blt_irrefl _ hxy)
          have Hxy := Lib.hid hxy
          clear hxy
          obtain ⟨ba, oa, hia, hca⟩ := hx.at_ (by simp) 23 9 Tryz.underlying23 Tryz.sizeOf9 0 x rfl
          simp only [show ((0 : Nat) : Int) = 0 from rfl] at hia
          obtain ⟨va', hta, hra⟩ := hx.tail 23 9 Tryz.underlying23 Tryz.sizeOf9
          obtain ⟨ta, tc, rfl⟩ := hta.formN ps.length rfl
          have la := lenNe ps
          have lb' : True := trivial
          clear hx
          generalize ps.length + 1 = na at hia hra la hx0 ⊢
          obtain ⟨la1, la2, la3, la4, la5⟩ := la
          obtain ⟨bb, ob, hib, hcb⟩ := hy.at_ (by simp) 23 9 Tryz.underlying23 Tryz.sizeOf9 0 y rfl
          simp only [show ((0 : Nat) : Int) = 0 from rfl] at hib
          obtain ⟨vb', htb, hrb⟩ := hy.tail 23 9 Tryz.underlying23 Tryz.sizeOf9
          obtain ⟨tb, tcb, rfl⟩ := htb.formN qs.length rfl
          have lb := lenNe qs
          clear hy
          generalize qs.length + 1 = nb at hib hrb lb hy0 ⊢
          obtain ⟨lb1, lb2, lb3, lb4, lb5⟩ := lb
          have F := Fr.refl wr
          go_upto_region 3 with fail
          refine wp_region_ordX Fr.pre [] (.op 0 2 (.op 1 0 (.op 2 2 (.op 3 2 (.op 4 2 (.op 5 0 (.op 6 2 (.op 7 2 (.op 8 2 (.op 9 2 (.op 10 0 (.op 11 2 (.op 12 2 (.op 13 0 (.op 14 2 (.op 15 2 (.op 16 2 (.op 17 2 .fin)))))))))))))))))) _ (by kernel_rfl) (by kernel_rfl) (by simp only [pickX, List.getElem?_cons_succ, List.getElem?_cons_zero]; rfl) ?_
          have G := F.drew
          have x_a := Ext.cell ((hf.then G).cell hca)
          have x_b := Ext.cell ((hf.then G).cell hcb)
          repeat (first | (with_reducible refine wpX_q (fun K hK => ?_); go_simp; refine hK _ ?_; clear hK K) | (with_reducible refine wpX_p (fun K hK => ?_); go_simp; refine hK _ ?_; clear hK K) | (with_reducible refine wpX_p (fun K hK => ?_); go_simp; rw [if_neg (by simp [undef])]; refine hK _ ?_; clear hK K) | (with_reducible refine wpX_q (fun K hK => ?_); go_simp; rw [if_neg (by simp [undef])]; refine hK _ ?_; clear hK K))
          with_reducible refine wpX_nil (fun wn hw => ?_)
          have F := G.then hw
          clear G hw x_a x_b
          go_upto_region 4 with fail
          refine wp_region_ordX Fr.pre [] (.op 0 2 (.op 1 0 (.op 2 2 (.op 3 2 (.op 4 2 (.op 5 0 (.op 6 2 (.op 7 2 (.op 8 2 (.op 9 2 (.op 10 0 (.op 11 2 (.op 12 2 (.op 13 0 (.op 14 2 (.op 15 2 (.op 16 2 (.op 17 2 .fin)))))))))))))))))) _ (by kernel_rfl) (by kernel_rfl) (by simp only [pickX, List.getElem?_cons_succ, List.getElem?_cons_zero]; rfl) ?_
          have G := F.drew
          have x_a := Ext.cell ((hf.then G).cell hca)
          have x_b := Ext.cell ((hf.then G).cell hcb)
          repeat (first | (with_reducible refine wpX_q (fun K hK => ?_); go_simp; refine hK _ ?_; clear hK K) | (with_reducible refine wpX_p (fun K hK => ?_); go_simp; refine hK _ ?_; clear hK K) | (with_reducible refine wpX_p (fun K hK => ?_); go_simp; rw [if_neg (by simp [undef])]; refine hK _ ?_; clear hK K) | (with_reducible refine wpX_q (fun K hK => ?_); go_simp; rw [if_neg (by simp [undef])]; refine hK _ ?_; clear hK K))
          with_reducible refine wpX_nil (fun wn hw => ?_)
          have F := G.then hw
          clear G hw x_a x_b
          go_upto_region 9 with fail
          refine wp_region_ordX Fr.pre [] (.op 0 2 (.op 1 2 (.op 2 0 (.op 3 2 (.op 4 0 (.op 5 2 (.op 6 2 .fin))))))) _ (by kernel_rfl) (by kernel_rfl) (by simp only [pickX, List.getElem?_cons_succ, List.getElem?_cons_zero]; rfl) ?_
          have G := F.drew
          have x_b := Ext.cell ((hf.then G).cell hcb)
          repeat (first | (with_reducible refine wpX_q (fun K hK => ?_); go_simp; refine hK _ ?_; clear hK K) | (with_reducible refine wpX_p (fun K hK => ?_); go_simp; refine hK _ ?_; clear hK K) | (with_reducible refine wpX_p (fun K hK => ?_); go_simp; rw [if_neg (by simp [undef])]; refine hK _ ?_; clear hK K) | (with_reducible refine wpX_q (fun K hK => ?_); go_simp; rw [if_neg (by simp [undef])]; refine hK _ ?_; clear hK K))
          with_reducible refine wpX_nil (fun wn hw => ?_)
          have F := G.then hw
          clear G hw x_b
          have ho := own_fr ho F
          have hf := hf.then F
          go_wp2_with (go_at_call 72; refine (meet72 _ _ _).mono ?_; rintro e w' ⟨rfl, rfl⟩)
          go_roundw
          case rel => exact ⟨x :: ps, qs, zs, hx0, htb, Sa, Lib.hid (List.pairwise_cons.1 Sb.out).2, Lib.hid (by have := Hz.out; rwa [both_gt Sa.out Hxy.out] at this), hal, hql, hzl, ho, hf⟩
          case measure => simp [intOf, lenV]; omega
end Go.Proofs.YtoaebladjdnfjaaGreat
