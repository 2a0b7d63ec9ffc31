import Derived.Test.YtoaebladjdnfjaaGreatBehind1
import Derived.RangeFuncNested
import Derived.RangeFuncBound
import Derived.RangeFuncCalls
import Derived.RangeFuncLeaves
import Derived.Shelf.RegionOpen
import Derived.WalkKit
import Derived.OwnWalkIn
import Derived.TacticsInMore
import Derived.LoopNIn
import Derived.LoopIn
import Derived.Deep.LoopGhost
import Derived.WalkMore
set_option linter.unusedSimpArgs false
set_option linter.unusedVariables false
/-
  walk.behind: the iterator.
-/
namespace Go.Proofs.YtoaebladjdnfjaaGreat
open Go.RowKit

theorem wpList_qu {w : World} {ops : Array Oper} {rest : List Oper} {o : Oper} {a : Act} {Q : Exit → Act → World → Prop} (hgd : o.guard = none) (s x : Operand)
    (ho : o.op = .call { callee := .builtin .append, args := #[s, x], argTypes := #[23, 23] })
    (g : Nat) (v : Value) (xs : List BS) (hs : a.eval s = v) (hown : Qu w g v xs) (hg : g < w.heap.size) (u : Value) (ys : List BS) (hx : a.eval x = u) (hu : Strs w u ys) (hn : xs.length + ys.length ≤ 5000000)
    (h : ∀ v' w' g', Qu w' g' v' (xs ++ ys) → g' < w'.heap.size → (g' = g ∨ w.heap.size ≤ g') → Kp [g] w w' → wpList Tryz.prog ops Q rest (a.put o.dst v') w') :
    wpList Tryz.prog ops Q (o :: rest) a w := by
  refine wpList_plain hgd fun K hK => ?_
  obtain ⟨v', w', g', hr, h2, h3, h4, h5⟩ := hown.app hg u ys hu hn o.type
  unfold Oper.wp execOp
  simp only [ho, resolve, invoke, builtin, Sem.run_bind, Sem.run_pure, Result.andThen_ok, List.map_toArray, List.map_cons, List.map_nil, hs, hx, hr]
  exact hK _ _ (h v' w' g' h2 h3 h4 h5)

/-- What the loop's body is to the iterator. -/
structure Body (g : G) (w0 : World) (l : Nat) (J : List BS → List Nat → World → Prop) : Prop where
  lies : ∀ pre T W, J pre T W → ∀ k ∈ T, k < W.heap.size ∧ w0.heap.size ≤ k
  kept : ∀ pre T W W' S, J pre T W → Kp S W W' → (∀ k ∈ S, k ∉ T) → J pre T W'
  round : ∀ pre x T W, J pre T W → pre.length < g.length → YieldAt Fence.wide 0 Tryz.prog l #[.string x] W fun e W' => e = .returned (.bool true) ∧ ∃ T', J (pre ++ [x]) T' W' ∧ Kp T W W' ∧ ∀ k ∈ T', k ∈ T ∨ W.heap.size ≤ k

set_option maxRecDepth 100000 in
set_option maxHeartbeats 4000000 in
theorem behind80 (l : Nat) (v lv : Value) (g : G) (xs : List BS) (c1 c2 : Nat) (w0 w : World) (T0 : List Nat) (J : List BS → List Nat → World → Prop) (F0 : Fr [] w0 w) (hd : DagR w0 v g) (hs : Strs w0 lv xs)
    (hw : Wf g) (hgl : g.length ≤ 1000) (hl : xs.length ≤ 1000000) (h1 : w.cell? ⟨c1, 0, none⟩ = some lv) (h2 : w.cell? ⟨c2, 0, none⟩ = some v) (n1 : c1 ∉ T0) (n2 : c2 ∉ T0) (hJ : Body g w0 l J) (h0 : J [] T0 w) :
    Calls Tryz.prog 80 #[.func (.yield l) #[] #[], .pointer (some ⟨c1, 0, none⟩), .pointer (some ⟨c2, 0, none⟩)] w fun e w' => (∃ z, e = .returned z) ∧ ∃ pre T, J pre T w' ∧ (∀ x, x ∈ pre ↔ x ∈ spreadL g xs) ∧ pre.length ≤ g.length ∧ Fr [] w0 w' := by
  have HJ := Lib.hid hJ; clear hJ
  have H0 := Lib.hid h0; clear h0
  have Hw := Lib.hid hw; clear hw
  have HL := Lib.hid (Nat.le_trans hgl (by decide : 1000 ≤ 10000))
  have Hd := Lib.hid hd; clear hd
  obtain ⟨la, lc, hlv, _⟩ := hs.form
  have hmm := @run_makeMap Tryz.prog
  subst hlv
  obtain ⟨G, hG⟩ : ∃ G, G = g.length := ⟨_, rfl⟩
  have hG1 : G ≤ 1000 := by rw [hG]; exact hgl
  have HG := Lib.hid hG; clear hG
  go_enter Tryz.func80, Tryz.ntmps80
  go_upto_region 1 with fail
  have f1 := (Fr.refl w).alloc (.map #[] 0)
  have hM0 := Mp.made w
  have h1' := Lib.hid (f1.cell h1)
  have h2' := Lib.hid (f1.cell h2)
  have k1 := cell_lt h1
  have k2 := cell_lt h2
  have hsz : w.heap.size < (w.alloc (.map #[] 0)).heap.size := by simp
  obtain ⟨b, hb⟩ : ∃ b, b = w.heap.size := ⟨_, rfl⟩
  rw [← hb] at hM0 k1 k2 hsz ⊢
  have Hb := Lib.hid hb; clear hb h1 h2
  have hF0 := F0
  generalize w.alloc (.map #[] 0) = wA at f1 hM0 h1' h2' hsz ⊢
  have C1 := Lib.hid (clone38 _ _ wA ((hs.fr F0).fr f1) hl)
  have H1 := h1'.out
  go_wp2_with (go_at_call 67; refine C1.out.mono ?_; rintro e w1 ⟨u, rfl, ho, f2⟩)
  have hbw := hM0.lt
  have hM1 := hM0.fr f2 (by simp)
  obtain ⟨g0, hQ0, hg0, hgw⟩ := Qu.of_own ho b hM1.lt
  have F1 : Fr [] w0 w1 := F0.then (f1.then f2)
  have K1 : Kp [] w w1 := Kp.of_fr (f1.then f2)
  have HJ0 := Lib.hid (HJ.out.kept _ _ _ _ [] H0.out K1 (by simp))
  have hT0 := fun k hk => (HJ.out.lies _ _ _ H0.out k hk)
  have hc1 := (f2.cell h1'.out)
  have hc2 := (f2.cell h2'.out)
  clear ho hM0 h1' h2' H1 hmm C1
  go_loopg [5] (G * (G + 1) + xs.length) (fun k q5 wr => ∃ (Q : List BS) (M : Ents) (pre : List BS) (T : List Nat) (gq : Nat), k = (G - M.length) * (G + 1) + Q.length ∧ k ≤ 2001000 ∧ Qu wr gq q5 Q ∧ gq < wr.heap.size ∧ gq ∉ T ∧ w0.heap.size ≤ gq ∧ Mp wr b M ∧ b ∉ T ∧ Hid (J pre T wr) ∧ Hid (Sp g xs Q M pre) ∧ Fr [] w0 wr ∧ (∀ k ∈ T, k ∈ T0 ∨ w.heap.size ≤ k) ∧ (b < gq ∨ Q = []) ∧ wr.cell? ⟨c1, 0, none⟩ = some (.slice la xs.length lc) ∧ wr.cell? ⟨c2, 0, none⟩ = some v)
  case atStart =>
    have e0 := F0.size
    have e1 := Hb.out
    refine ⟨xs, [], [], T0, g0, by simp, by have : G * (G + 1) ≤ 1000 * 1001 := Nat.mul_le_mul hG1 (by omega); omega, hQ0, hgw, fun hm => ?_, by omega, hM1, fun hm => ?_, HJ0, Lib.hid (Sp.start g xs), F1, fun k hk => .inl hk, hg0.imp (fun h => by omega) (fun h => h.2), hc1, hc2⟩
    · have := (hT0 _ hm).1; omega
    · have := (hT0 _ hm).1; omega
  case round =>
    obtain ⟨Q, M, pre, T, gq, hk, hkb, hQ, hgs, hgT, hg0', hM, hbT, hj, hS, hf, hT, hbq, hc1, hc2⟩ := hrel
    cases Q with
    | nil => 
      have hfin : ∃ pre T, J pre T wr ∧ (∀ x, x ∈ pre ↔ x ∈ spreadL g xs) ∧ pre.length ≤ g.length ∧ Fr [] w0 wr := ⟨pre, T, hj.out, fun x => hS.out.all Hw.out x, by rw [hS.out.len]; exact hS.out.fits hM.nodup, hf⟩
      have Hfin := Lib.hid hfin
      clear hfin
      rcases hQ with ⟨rfl, _⟩ | ⟨qo, qc, qcur, rfl, hqr⟩
      · go_wp2
        go_end0
        obtain ⟨pre', T', a1, a2, a3⟩ := Hfin.out
        first
          | exact ⟨⟨_, rfl⟩, pre', T', a1, a2, a3⟩
          | exact ⟨⟨_, rfl⟩, pre', ⟨T', a1⟩, a2, a3⟩
      · go_wp2
        go_end0
        obtain ⟨pre', T', a1, a2, a3⟩ := Hfin.out
        first
          | exact ⟨⟨_, rfl⟩, pre', T', a1, a2, a3⟩
          | exact ⟨⟨_, rfl⟩, pre', ⟨T', a1⟩, a2, a3⟩
    | cons x Q =>
      have hML := hS.out.fits hM.nodup
      have hQn : (x :: Q).length ≤ 3000000 := by omega
      have hs' := hQ.strs (by omega)
      obtain ⟨q1, hQ1, hcut⟩ := hQ.cut 23 Tryz.underlying23 Tryz.sizeOf9
      obtain ⟨qa, qc, hqe, _⟩ := hs'.form
      subst hqe
      obtain ⟨b0, o0, hidx, hcell⟩ := hs'.at_ rfl 23 9 Tryz.underlying23 Tryz.sizeOf9 0 x rfl
      obtain ⟨qn, hqn⟩ : ∃ qn, qn = (x :: Q).length := ⟨_, rfl⟩
      have hqpos : 0 < qn := by rw [hqn]; simp
      rw [← hqn] at hidx hcut ⊢
      have Hqn := Lib.hid hqn; clear hqn
      have hidx0 : ∀ W, (Instr.indexAt 23 (.slice qa qn qc) (.int .i64 0)).run Tryz.prog W = .ok (.pointer (some ⟨b0, o0, none⟩)) W := hidx
      clear hidx
      have hdec : decide (0 < qn) = true := decide_eq_true hqpos
      have hdec2 : decide ((0 : Int) < (qn : Int)) = true := decide_eq_true (by omega)
      have hlk := hM.lookI x
      rw [hS.out.marks.get x] at hlk
      have Hk := Lib.hid hk
      clear hk hs' hQ
      by_cases hxm : x ∈ keysL M
      · rw [if_pos hxm] at hlk
        have Hxm := Lib.hid hxm; clear hxm
        go_wp2
        go_roundg (gk - 1)
        case measure => have := Hk.out; simp at this; omega
        case rel =>
          have := Hk.out
          simp at this
          exact ⟨Q, M, pre, T, gq, by omega, by omega, hQ1, hgs, hgT, hg0', hM, hbT, hj, Lib.hid (hS.out.skip (.inl Hxm.out)), hf, hT, .inl (hbq.resolve_right (by simp)), hc1, hc2⟩
      · rw [if_neg hxm] at hlk
        have Hxm := Lib.hid hxm; clear hxm
        have C2 := Lib.hid (has18 v x g wr (Hd.out.fr hf))
        by_cases hxi : x ∈ ids g
        · rw [decide_eq_true hxi] at C2
          have Hxi := Lib.hid hxi; clear hxi
          have hM2 := fun w3 (f3 : Fr [] wr w3) => (hM.fr f3 (by simp)).put Tryz.underlying57 Tryz.underlying9 x (.int .i64 1)
          have HM2 := Lib.hid hM2
          clear hM2
          go_upto_region 7 with (go_at_call 41; refine C2.out.mono ?_; rintro e w3 ⟨rfl, f3⟩; obtain ⟨w4, hput, hM4, f4⟩ := HM2.out w3 f3; have hlk3 := (hM.fr f3 (by simp)).lookI x; rw [hS.out.marks.get x, if_neg Hxm.out] at hlk3)
          have hbq' := hbq.resolve_right (by simp)
          have eb := Hb.out
          have ew0 := F0.size
          have e3 := f3.size
          have e4 := f4.size
          have F4 : Fr [] w0 w4 := (hf.then f3).drop f4 (fun k hk => by simp at hk; omega)
          have K4 : Kp [b] wr w4 := (Kp.of_fr f3).trans (Kp.of_frS f4)
          have hj4 := HJ.out.kept _ _ _ _ [b] hj.out K4 (by simpa using hbT)
          have hQ4 := (hQ1.fr f3).fr f4
          have hc14 := (f4.cell (f3.cell hc1))
          have hc24 := (f4.cell (f3.cell hc2))
          have hmore := hS.out.more hM.nodup Hxm.out Hxi.out
          obtain ⟨fn, ytmps, yassign, ybody, hy, hR⟩ := HJ.out.round pre x T w4 hj4 (by rw [hS.out.len]; omega)
          have hb4 := hM4.lt
          have Hmore := Lib.hid hmore
          have HQn := Lib.hid hQn
          clear eb
          clear hmore hQn hML hlk hlk3 hput hcut hcell hidx0 hdec hdec2 C2 HM2 hM hc1 hc2 hQ1 hqpos hj4
          refine (wpIn_wide (n := 1)).1 ?_
          gi_wp2
          refine hR.mono ?_
          rintro e w5 ⟨rfl, T5, hj5, k5, hT5⟩
          clear hR hy
          have hTl := HJ.out.lies _ _ _ hj5
          have hTg : ∀ k ∈ T, w0.heap.size ≤ k := fun k hk => (HJ.out.lies _ _ _ hj.out k hk).2
          have F5 : Fr [] w0 w5 := k5.fr F4 hTg
          have e5 := k5.size
          have no5 : ∀ k, k < w4.heap.size → k ∉ T → k ∉ T5 := fun k hk hn hm => (hT5 k hm).elim hn (fun h => by omega)
          have nc : ∀ c, c < b → c ∉ T0 → c ∉ T := fun c hc hn hm => (hT c hm).elim hn (fun h => by have := Hb.out; omega)
          have hQ5 := hQ4.kp k5 hgT
          have hM5 := hM4.kp k5 hbT
          have hc15 := k5.cell hc14 (nc _ k1 n1)
          have hc25 := k5.cell hc24 (nc _ k2 n2)
          have hgT5 := no5 gq (by omega) hgT
          have hbT5 := no5 b hb4 hbT
          have hTo5 : ∀ k ∈ T5, k ∈ T0 ∨ w.heap.size ≤ k := fun k hk => (hT5 k hk).elim (hT k) (fun h => by right; have := Hb.out; have := hf.size; have := f3.size; have := f4.size; omega)
          have Hj5 := Lib.hid hj5
          clear hQ4 hM4 hc14 hc24 k5 hj5 hT5 nc no5
          have C6 := Lib.hid (kidsD v x g w5 (Hd.out.fr F5) Hw.out HL.out)
          have hkl := Lib.hid (length_kids (g := g) x)
          have hgs5 : gq < w5.heap.size := by omega
          have hM5' := Lib.hid hM5
          clear hM5
          (try dsimp only)
          gi_wp2
          go_wp2_with (first
            | (go_at_call 81; refine C6.out.mono ?_; rintro e w6 ⟨u6, rfl, hu6, f6⟩; obtain ⟨ka, kc, hku, _⟩ := hu6.form; subst hku)
            | (at_builtin; refine wpList_qu rfl _ _ rfl gq _ Q rfl (hQ5.fr f6) (by have := f6.size; omega) _ _ rfl hu6 (by have := hkl.out; have := HQn.out; simp at this; omega) ?_; intro v8 w8 g8 hQ8 hg8 hg8' k8))
          obtain ⟨k', hk'⟩ : ∃ k', k' = (G - (M.length + 1)) * (G + 1) + (Q.length + (kids g x).length) := ⟨_, rfl⟩
          have hlt : k' < gk := by
            have h9 := Hmore.out
            have h10 := Hk.out
            have h11 := hkl.out
            have h14 := HG.out
            obtain ⟨r, hr⟩ : ∃ r, G - M.length = r + 1 := ⟨G - M.length - 1, by omega⟩
            have h13 : G - (M.length + 1) = r := by omega
            rw [hr, Nat.succ_mul, List.length_cons] at h10
            rw [h13] at hk'
            omega
          have Hlt := Lib.hid hlt
          have Hk' := Lib.hid hk'
          clear hlt hk'
          go_roundg k'
          case measure => exact Hlt.out
          case rel =>
            have e6 := f6.size
            have e8 := k8.size
            have K8 : Kp [gq] w5 w8 := (Kp.of_fr f6).trans k8
            have hlt := Hlt.out
            have hnT : ∀ k ∈ T5, k < w5.heap.size := fun k hk => (hTl k hk).1
            have e0 := F5.size
            have hg89 : w0.heap.size ≤ g8 := by rcases hg8' with rfl | h <;> omega
            have h12 : (up M x (.int .i64 1)).length = M.length + 1 := by rw [len_up, if_neg Hxm.out]
            refine ⟨Q ++ kids g x, up M x (.int .i64 1), pre ++ [x], T5, g8, by rw [h12, List.length_append]; exact Hk'.out, by omega, hQ8, hg8, fun hm => ?_, hg89, (hM5'.out.fr f6 (by simp)).kp k8 ?_, hbT5, Lib.hid (HJ.out.kept _ _ _ _ [gq] Hj5.out K8 (by simpa using hgT5)), Lib.hid (hS.out.next Hw.out Hxi.out Hxm.out), k8.fr (F5.then f6) ?_, hTo5, .inl (by rcases hg8' with rfl | h <;> omega), ?_, ?_⟩
            · have := hnT _ hm
              rcases hg8' with rfl | h
              · exact hgT5 hm
              · omega
            · simp; omega
            · intro k hk; simp at hk; omega
            · refine k8.cell (f6.cell hc15) ?_
              simp; omega
            · refine k8.cell (f6.cell hc25) ?_
              simp; omega
        · rw [decide_eq_false hxi] at C2
          have Hxi := Lib.hid hxi; clear hxi
          go_wp2_with (go_at_call 41; refine C2.out.mono ?_; rintro e w3 ⟨rfl, f3⟩)
          go_roundg (gk - 1)
          case measure => have := Hk.out; simp at this; omega
          case rel =>
            have := Hk.out
            simp at this
            have hz := f3.size
            exact ⟨Q, M, pre, T, gq, by omega, by omega, hQ1.fr f3, by omega, hgT, hg0', hM.fr f3 (by simp), hbT, Lib.hid (HJ.out.kept _ _ _ _ [] hj.out (Kp.of_fr f3) (by simp)), Lib.hid (hS.out.skip (.inr Hxi.out)), hf.then f3, hT, .inl (hbq.resolve_right (by simp)), f3.cell hc1, f3.cell hc2⟩
end Go.Proofs.YtoaebladjdnfjaaGreat
