import Derived.Test.YtoaebladjdnfjaaGreatMeet
import Derived.Test.YtoaebladjdnfjaaGreatSets
set_option linter.unusedSimpArgs false
set_option linter.unusedVariables false
/-
  Package walk: Between, Lacking, Tops, Common, Closed.
-/
namespace Go.Proofs.YtoaebladjdnfjaaGreat
open Go.RowKit

theorem both_meet (a b : List BS) : inBoth (ofL a) (ofL b) = meetL a b := by
  refine sorted_ext ((sorted_ofL a).filter _) (sorted_ofL _) fun x => ?_
  unfold inBoth meetL
  simp only [List.mem_filter, mem_ofL, decide_eq_true_eq]
  constructor
  · rintro ⟨⟨h1, h2⟩, h3, _⟩; exact ⟨⟨h1, h3⟩, h2⟩
  · rintro ⟨⟨h1, h3⟩, h2⟩; exact ⟨⟨h1, h2⟩, h3, h2⟩
set_option maxRecDepth 100000 in
theorem meetD (v u : Value) (xs ys : List BS) (w : World) (hx : Strs w v xs) (hy : Strs w u ys) (hxl : xs.length ≤ 1000000) (hyl : ys.length ≤ 1000000) :
    Calls Tryz.prog 34 #[v, u] w fun e w' => ∃ z, e = .returned z ∧ Strs w' z (meetL xs ys) ∧ Fr [] w w' := by
  obtain ⟨a, c, rfl, _⟩ := hx.form
  obtain ⟨a2, c2, rfl, _⟩ := hy.form
  have l1 := length_ofL xs
  have l2 := length_ofL ys
  have s1 := Lib.hid (sorted_ofL xs)
  have s2 := Lib.hid (sorted_ofL ys)
  have C1 := Lib.hid (ofD _ _ _ hx hxl)
  go_enter Tryz.func34, Tryz.ntmps34
  go_wp2_with (first
    | (go_at_call 40; refine C1.out.mono ?_; rintro e w1 ⟨u1, rfl, ho1, f1⟩; clear C1; have h1 := Strs.of_own ho1 (by omega); have C2 := Lib.hid (ofD _ _ _ (hy.fr f1) hyl))
    | (go_at_call 40; refine C2.out.mono ?_; rintro e w2 ⟨u2, rfl, ho2, f2⟩; clear C2; have h2 := Strs.of_own ho2 (by omega); have C3 := Lib.hid (both71 _ _ _ _ _ (h1.fr f2) h2 s1.out s2.out (by omega) (by omega)))
    | (go_at_call 71; refine C3.out.mono ?_; rintro e w3 ⟨u3, rfl, ho3, f3⟩))
  go_ret
  refine ⟨_, rfl, ?_, f1.then (f2.then f3)⟩
  have h3 := Strs.of_own ho3 (by have : (inBoth (ofL xs) (ofL ys)).length ≤ (ofL xs).length := List.length_filter_le _ _; omega)
  rwa [both_meet] at h3

theorem Mp.kp {T : List Nat} {w w' : World} {b : Nat} {l : Ents} (h : Mp w b l) (k : Kp T w w') (hb : b ∉ T) : Mp w' b l := by
  have hl := h.lt
  obtain ⟨es, c, hh, r⟩ := h
  exact ⟨es, c, (k.block b hl hb).trans hh, r⟩
theorem i64_pos {n : Nat} {p : Prop} [Decidable p] (h : 0 < n ↔ p) : decide ((0 : Int) < (n : Int)) = decide p := by
  by_cases hp : p
  · rw [decide_eq_true hp]; exact decide_eq_true (by have := h.2 hp; omega)
  · rw [decide_eq_false hp]; exact decide_eq_false (fun k => hp (h.1 (by omega)))
theorem nat_pos {n : Nat} {p : Prop} [Decidable p] (h : 0 < n ↔ p) : decide (0 < n) = decide p := by
  by_cases hp : p
  · rw [decide_eq_true hp]; exact decide_eq_true (h.2 hp)
  · rw [decide_eq_false hp]; exact decide_eq_false (fun k => hp (h.1 k))
theorem i64_zero {n : Nat} {p : Prop} [Decidable p] (h : 0 < n ↔ p) : ((n : Int) == 0) = !decide p := by
  by_cases hp : p
  · rw [decide_eq_true hp]; exact beq_eq_false_iff_ne.2 (by have := h.2 hp; omega)
  · rw [decide_eq_false hp]; exact beq_iff_eq.2 (by have : ¬ 0 < n := fun k => hp (h.1 k); omega)

set_option maxRecDepth 100000 in
theorem between38 (x : BS) (c1 c2 b1 b2 : Nat) (l1 l2 : Ents) (S1 S2 : List BS) (w : World) (h1 : w.cell? ⟨c1, 0, none⟩ = some (.map (some b1))) (h2 : w.cell? ⟨c2, 0, none⟩ = some (.map (some b2)))
    (m1 : Mp w b1 l1) (m2 : Mp w b2 l2) (n1 : Cnt 1000000 l1 (· ∈ S1)) (n2 : Cnt 1000000 l2 (· ∈ S2)) :
    Calls Tryz.prog 38 #[.string x, .pointer (some ⟨c1, 0, none⟩), .pointer (some ⟨c2, 0, none⟩)] w fun e w' => e = .returned (.bool (decide (x ∈ S1) || !decide (x ∈ S2))) ∧ Fr [] w w' := by
  obtain ⟨k1, hk1, hv1, hs1⟩ := n1.val x
  obtain ⟨k2, hk2, hv2, hs2⟩ := n2.val x
  have lk1 := m1.lookI x
  have lk2 := m2.lookI x
  rw [hv1] at lk1
  rw [hv2] at lk2
  have t1 := i64_pos hs1
  have t1' := nat_pos hs1
  have t2 := i64_zero hs2
  clear hv1 hv2 hs1 hs2 n1 n2
  cases hA : decide (x ∈ S1) with
  | true =>
    rw [hA] at t1 t1'
    have HA := Lib.hid hA
    clear hA t2
    go_enter Tryz.func38, Tryz.ntmps38
    go_wp2
    go_ret
    exact ⟨rfl, .refl _⟩
  | false =>
    rw [hA] at t1 t1'
    have HA := Lib.hid hA
    clear hA
    generalize decide (x ∈ S2) = B at t2 ⊢
    go_enter Tryz.func38, Tryz.ntmps38
    go_wp2
    go_ret
    exact ⟨rfl, .refl _⟩
theorem betw_filter (g : G) (a b : List BS) : (ordL g g.length).filter (fun x => !(decide (x ∈ pastL g a) || !decide (x ∈ pastL g b))) = betwL g a b := by
  unfold betwL
  refine List.filter_congr fun x _ => ?_
  cases decide (x ∈ pastL g a) <;> cases decide (x ∈ pastL g b) <;> rfl

set_option maxRecDepth 100000 in
set_option maxHeartbeats 1000000 in
theorem betweenD (v av bv : Value) (g : G) (la lb : List BS) (w : World) (hd : DagR w v g) (ha : Strs w av la) (hb : Strs w bv lb) (hw : Wf g) (hl : g.length ≤ 4096) :
    Calls Tryz.prog 13 #[v, av, bv] w fun e w' => ∃ u, e = .returned u ∧ Strs w' u (betwL g la lb) ∧ Fr [] w w' := by
  obtain ⟨aa, ac, rfl, _⟩ := ha.form
  obtain ⟨ba, bc, rfl, _⟩ := hb.form
  have Hw := Lib.hid hw; clear hw
  have HL := Lib.hid (Nat.le_trans hl (by decide : 4096 ≤ 10000))
  have HP := fun l => Lib.hid (Nat.le_trans (past_len Hw.out l) (Nat.le_trans HL.out (by decide : 10000 ≤ 1000000)))
  have HO := Lib.hid (Nat.le_trans (Nat.le_of_eq (length_order Hw.out)) (Nat.le_trans HL.out (by decide : 10000 ≤ 1000000)))
  have C1 := Lib.hid (pastD _ _ _ _ _ hd Hw.out ha HL.out)
  have HP1 := HP la
  have HP2 := HP lb
  clear HP
  go_enter Tryz.func13, Tryz.ntmps13
  go_upto_region 2 with (first
    | (go_at_call 23; refine C1.out.mono ?_; rintro e w1 ⟨u1, rfl, hu1, f1⟩; clear C1; have C2 := Lib.hid (setD _ _ _ hu1 HP1.out))
    | (go_at_call 36; refine C2.out.mono ?_; rintro e w2 ⟨b1, l1, rfl, hb1, m1, n1, f2⟩; clear C2 hu1; have C3 := Lib.hid (pastD _ _ _ _ _ (hd.fr (f1.then f2)) Hw.out (hb.fr (f1.then f2)) HL.out))
    | (go_at_call 23; refine C3.out.mono ?_; rintro e w3 ⟨u2, rfl, hu2, f3⟩; clear C3; have C4 := Lib.hid (setD _ _ _ hu2 HP2.out))
    | (go_at_call 36; refine C4.out.mono ?_; rintro e w4 ⟨b2, l2, rfl, hb2, m2, n2, f4⟩; clear C4 hu2))
  have hm1 := (m1.fr f3 (by simp)).fr f4 (by simp)
  have F := ((f1.then f2).then f3).then f4
  have g1 := (Fr.refl w4).alloc (.cells #[.map (some b1)] 57)
  have g2 := (Fr.refl (w4.alloc (.cells #[.map (some b1)] 57))).alloc (.cells #[.map (some b2)] 57)
  have c1 := g2.cell (World.cell?_alloc_new (w := w4) #[.map (some b1)] 57 0)
  have c2 := World.cell?_alloc_new (w := w4.alloc (.cells #[.map (some b1)] 57)) #[.map (some b2)] 57 0
  rw [World.size_alloc] at c2
  have M1 := (hm1.fr g1 (by simp)).fr g2 (by simp)
  have M2 := (m2.fr g1 (by simp)).fr g2 (by simp)
  have F5 := (F.then g1).then g2
  obtain ⟨C, hC⟩ : ∃ C, C = w4.heap.size := ⟨_, rfl⟩
  rw [← hC] at c1 c2 ⊢
  have c1 : ((w4.alloc (.cells #[.map (some b1)] 57)).alloc (.cells #[.map (some b2)] 57)).cell? ⟨C, 0, none⟩ = some (.map (some b1)) := c1
  have c2 : ((w4.alloc (.cells #[.map (some b1)] 57)).alloc (.cells #[.map (some b2)] 57)).cell? ⟨C + 1, 0, none⟩ = some (.map (some b2)) := c2
  clear hC g1 g2 hm1 m1 m2 F f1 f2 f3 f4 hb1 hb2
  generalize (w4.alloc (.cells #[.map (some b1)] 57)).alloc (.cells #[.map (some b2)] 57) = W5 at c1 c2 M1 M2 F5 ⊢
  have C5 := Lib.hid (orderO _ _ _ (hd.fr F5) Hw.out HL.out)
  have N1 := Lib.hid n1
  have N2 := Lib.hid n2
  clear n1 n2
  have Hc1 := Lib.hid c1
  have Hc2 := Lib.hid c2
  clear c1 c2
  have k1 := M1.lt
  have k2 := M2.lt
  have k3 := cell_lt Hc1.out
  have k4 := cell_lt Hc2.out
  have eg : ∀ args w, (callFunc 38 args).run Tryz.prog w = .ok (.enter 38 args) w := enters_of Tryz.func38 (by kernel_rfl) rfl
  have Heg := Lib.hid eg
  clear eg
  go_upto_region 3 with (first
    | (go_at_call 27; refine C5.out.mono ?_; rintro e w6 ⟨u, rfl, ho, f6⟩; clear C5)
    | (obtain ⟨T, hT, hTb⟩ := own_T ho; have nT : ∀ k, k < W5.heap.size → k ∉ T := fun k hk hm => by { have := hTb k hm; omega }; have C6 := deleteF 38 #[] #[.pointer (some ⟨C, 0, none⟩), .pointer (some ⟨C + 1, 0, none⟩)] Heg.out (fun x => decide (x ∈ pastL g la) || !decide (x ∈ pastL g lb)) u (ordL g g.length) W5.heap.size T w6 ho HO.out hT (fun x w1 _ hK => between38 x C (C + 1) b1 b2 l1 l2 _ _ w1 (hK.cell (f6.cell Hc1.out) (nT _ k3)) (hK.cell (f6.cell Hc2.out) (nT _ k4)) ((M1.fr f6 (by simp)).kp hK (nT _ k1)) ((M2.fr f6 (by simp)).kp hK (nT _ k2)) N1.out N2.out); rw [betw_filter] at C6; go_at_call 37; refine C6.mono ?_; rintro e w7 ⟨u7, rfl, ho7, -, kp7⟩; have f7 := kp7.fr f6 hTb))
  go_wp2
  go_ret
  exact ⟨_, rfl, Strs.of_own ho7 (by have := HO.out; have : (betwL g la lb).length ≤ (ordL g g.length).length := List.length_filter_le _ _; omega), F5.then f7⟩
theorem ofL_filter (p : BS → Bool) (l : List BS) : (ofL l).filter p = ofL (l.filter p) := by
  refine sorted_ext ((sorted_ofL l).filter _) (sorted_ofL _) fun x => ?_
  simp only [List.mem_filter, mem_ofL]
  constructor
  · rintro ⟨⟨h1, h2⟩, h3⟩; exact ⟨⟨h1, h3⟩, h2⟩
  · rintro ⟨⟨h1, h3⟩, h2⟩; exact ⟨⟨h1, h2⟩, h3⟩
set_option maxRecDepth 100000 in
set_option maxHeartbeats 1000000 in
theorem lackingD (v lv : Value) (g : G) (xs : List BS) (w : World) (hd : DagR w v g) (hs : Strs w lv xs) (hl : xs.length ≤ 1000000) :
    Calls Tryz.prog 15 #[v, lv] w fun e w' => ∃ u, e = .returned u ∧ Strs w' u (lackL g xs) ∧ Fr [] w w' := by
  obtain ⟨a, c, rfl, _⟩ := hs.form
  have C1 := Lib.hid (ofD _ _ _ hs hl)
  have l1 := length_ofL xs
  have eg : ∀ args w, (callFunc 41 args).run Tryz.prog w = .ok (.enter 41 args) w := enters_of Tryz.func41 (by kernel_rfl) rfl
  have Heg := Lib.hid eg
  clear eg
  go_enter Tryz.func15, Tryz.ntmps15
  go_wp2_with (first
    | (go_at_call 40; refine C1.out.mono ?_; rintro e w1 ⟨u1, rfl, ho1, f1⟩; clear C1)
    | (obtain ⟨T, hT, hTb⟩ := own_T ho1; have C2 := deleteF 41 #[v] #[] Heg.out (fun x => decide (x ∈ ids g)) u1 (ofL xs) w.heap.size T w1 ho1 (by omega) hT (fun x w2 _ hK => has18 v x g w2 (hd.fr (hK.fr f1 hTb))); rw [ofL_filter] at C2; go_at_call 37; refine C2.mono ?_; rintro e w7 ⟨u7, rfl, ho7, -, kp7⟩; have f7 := kp7.fr f1 hTb))
  go_ret
  exact ⟨_, rfl, Strs.of_own ho7 (by have := lack_len g xs; show (lackL g xs).length ≤ _; omega), f7⟩

theorem tops_below {g : G} (hw : Wf g) (l : List BS) :
    ((ofL l).filter fun x => decide (x ∈ ids g)).filter (fun x => !decide (∃ y ∈ (ofL l).filter (fun x => decide (x ∈ ids g)), x ∈ pastL g (preds g y))) = topsL g l := by
  refine sorted_ext (((sorted_ofL l).filter _).filter _) (sorted_ofL _) fun x => ?_
  unfold topsL
  rw [mem_ofL, List.mem_filter, List.mem_filter, mem_ofL, List.mem_filter]
  have key : x ∈ ids g → ((∃ y ∈ (ofL l).filter (fun x => decide (x ∈ ids g)), x ∈ pastL g (preds g y)) ↔ ∃ y ∈ l, aheadB g x y = true) := by
    intro hx
    constructor
    · rintro ⟨y, hy, hp⟩
      rw [List.mem_filter, mem_ofL, decide_eq_true_eq] at hy
      obtain ⟨p, h1, h2, h3⟩ := ((isPast_pastL hw _).2 x).1 hp
      refine ⟨y, hy.1.1, (aheadB_iff hw x y).2 ⟨?_, hx, hy.2, .step h1 h3⟩⟩
      rintro rfl
      have d1 := depth_pred hw h1
      have d2 := reach_depth hw h3
      omega
    · rintro ⟨y, hy, ha⟩
      obtain ⟨h1, h2, h3, h4⟩ := (aheadB_iff hw x y).1 ha
      refine ⟨y, ?_, ?_⟩
      · rw [List.mem_filter, mem_ofL, decide_eq_true_eq]; exact ⟨⟨hy, hw.right h3⟩, h3⟩
      · cases h4 with
        | refl => exact absurd rfl h1
        | step hp hr => exact ((isPast_pastL hw _).2 x).2 ⟨_, hp, preds_in hw hp, hr⟩
  by_cases hx : x ∈ ids g
  · have hk := key hx
    simp only [Bool.not_eq_true', decide_eq_false_iff_not, Bool.and_eq_true, decide_eq_true_eq, List.all_eq_true]
    rw [hk]
    constructor
    · rintro ⟨⟨⟨h1, h2⟩, h3⟩, h4⟩
      exact ⟨⟨h1, h3, fun y hy => by cases hb : aheadB g x y with | false => rfl | true => exact absurd ⟨y, hy, hb⟩ h4⟩, h2⟩
    · rintro ⟨⟨h1, h3, h4⟩, h2⟩
      refine ⟨⟨⟨h1, h2⟩, h3⟩, ?_⟩
      rintro ⟨y, hy, hb⟩
      rw [h4 y hy] at hb; cases hb
  · simp [hx]

/-- What of a list is there. -/
def ownL (g : G) (l : List BS) : List BS := (ofL l).filter fun x => decide (x ∈ ids g)
def belowP (g : G) (os : List BS) (x : BS) : Prop := ∃ y ∈ os, x ∈ pastL g (preds g y)
instance (g : G) (os : List BS) (x : BS) : Decidable (belowP g os x) := by unfold belowP; infer_instance
theorem own_len {g : G} (l : List BS) : (ownL g l).length ≤ g.length := by
  rw [← length_ids]
  refine nodup_len _ _ (sorted_nodup ((sorted_ofL l).filter _)) fun x hx => ?_
  unfold ownL at hx
  exact of_decide_eq_true (List.mem_filter.1 hx).2

set_option maxRecDepth 100000 in
theorem tops44 (x : BS) (c : Nat) (v : Value) (g : G) (w : World) (hd : DagR w v g) (hc : w.cell? ⟨c, 0, none⟩ = some v) :
    Calls Tryz.prog 44 #[.string x, .pointer (some ⟨c, 0, none⟩)] w fun e w' => e = .returned (.bool (!decide (x ∈ ids g))) ∧ Fr [] w w' := by
  go_enter Tryz.func44, Tryz.ntmps44
  go_wp2_with (go_at_call 41; refine (has18 _ _ _ _ hd).mono ?_; rintro e w1 ⟨rfl, h1⟩)
  go_ret
  exact ⟨rfl, h1⟩
set_option maxRecDepth 100000 in
theorem tops46 (x : BS) (c b K : Nat) (l : Ents) (S : BS → Prop) [DecidablePred S] (w : World) (h1 : w.cell? ⟨c, 0, none⟩ = some (.map (some b))) (m1 : Mp w b l) (n1 : Cnt K l S) :
    Calls Tryz.prog 46 #[.string x, .pointer (some ⟨c, 0, none⟩)] w fun e w' => e = .returned (.bool (decide (S x))) ∧ Fr [] w w' := by
  obtain ⟨k1, hk1, hv1, hs1⟩ := n1.val x
  have lk1 := m1.lookI x
  rw [hv1] at lk1
  have t1 := i64_pos hs1
  have t1' := nat_pos hs1
  clear hv1 hs1 n1
  generalize decide (S x) = B at t1 t1' ⊢
  go_enter Tryz.func46, Tryz.ntmps46
  go_wp2
  go_ret
  exact ⟨rfl, .refl _⟩
theorem DagR.ptr {w : World} {v : Value} {g : G} (h : DagR w v g) : ∃ p, v = .pointer p := by
  rcases h with ⟨rfl, _⟩ | ⟨mN, mH, h⟩
  · exact ⟨_, rfl⟩
  · obtain ⟨b, rfl⟩ := h.ptr; exact ⟨_, rfl⟩
theorem filter_not_not (l : List BS) (p : BS → Bool) : l.filter (fun x => !(!p x)) = l.filter p := List.filter_congr fun x _ => by simp
/-- An own row's block is of its elements' type. -/
theorem own_T2 {w : World} {base e size n : Nat} {v : Value} {xs : List Value} (h : w.ownsRow base e size v n xs) : ∃ T : List Nat, (∀ g, v.ownBlock = some g → g ∈ T) ∧ ∀ x ∈ T, base ≤ x ∧ ∃ cur, w.heap[x]? = some (.cells cur e (0, 0)) := by
  rcases h.2 with ⟨rfl, _⟩ | ⟨g, cap, cur, rfl, hb, hg, _⟩
  · exact ⟨[], fun g h => by simp [Value.ownBlock] at h, fun x h => by simp at h⟩
  · exact ⟨[g], fun k h => by simp [Value.ownBlock] at h; subst h; simp, fun x hx => by rw [List.mem_singleton.1 hx]; exact ⟨hb, cur, hg⟩⟩

set_option maxRecDepth 100000 in
set_option maxHeartbeats 2000000 in
theorem topsD (v lv : Value) (g : G) (xs : List BS) (w : World) (hd : DagR w v g) (hs : Strs w lv xs) (hl : xs.length ≤ 1000000) (hw : Wf g) (hgl : g.length ≤ 4096) :
    Calls Tryz.prog 17 #[v, lv] w fun e w' => ∃ u, e = .returned u ∧ Strs w' u (topsL g xs) ∧ Fr [] w w' := by
  obtain ⟨a, c, rfl, _⟩ := hs.form
  obtain ⟨vp, rfl⟩ := hd.ptr
  have Hw := Lib.hid hw; clear hw
  have HL := Lib.hid (Nat.le_trans hgl (by decide : 4096 ≤ 10000))
  have f0 := (Fr.refl w).alloc (.cells #[.pointer vp] 26)
  have hc0 := World.cell?_alloc_new (w := w) #[.pointer vp] 26 0
  have hd := hd.fr f0
  have hs := hs.fr f0
  have l1 := length_ofL xs
  have hc0 : (w.alloc (.cells #[.pointer vp] 26)).cell? ⟨w.heap.size, 0, none⟩ = some (.pointer vp) := hc0
  have C1 := Lib.hid (ofD _ _ _ hs hl)
  have eg1 : ∀ args w, (callFunc 44 args).run Tryz.prog w = .ok (.enter 44 args) w := enters_of Tryz.func44 (by kernel_rfl) rfl
  have eg2 : ∀ args w, (callFunc 46 args).run Tryz.prog w = .ok (.enter 46 args) w := enters_of Tryz.func46 (by kernel_rfl) rfl
  have Heg1 := Lib.hid eg1
  have Heg2 := Lib.hid eg2
  clear eg1 eg2
  have Hc0 := Lib.hid hc0
  clear hc0
  have hol := own_len (g := g) xs
  have Hol := Lib.hid (Nat.le_trans hol hgl)
  have hmm := @run_makeMap Tryz.prog
  go_enter Tryz.func17, Tryz.ntmps17
  go_upto_region 2 with (first
    | (go_at_call 40; refine C1.out.mono ?_; rintro e w1 ⟨u1, rfl, ho1, f1⟩; clear C1)
    | (obtain ⟨T, hT, hTb⟩ := own_T ho1; have C2 := deleteF 44 #[] #[.pointer (some ⟨w.heap.size, 0, none⟩)] Heg1.out (fun x => !decide (x ∈ ids g)) u1 (ofL xs) _ T w1 ho1 (by omega) hT (fun x w2 _ hK => tops44 x w.heap.size _ g w2 (hd.fr (hK.fr f1 hTb)) ((hK.fr f1 hTb).cell Hc0.out)); rw [filter_not_not] at C2; go_at_call 37; refine C2.mono ?_; rintro e w2 ⟨u2, rfl, ho2, -, kp2⟩; have f2 := kp2.fr f1 hTb; clear C2))
  have F2 := f0.then f2
  have m1 := Mp.made w2
  have g1 := (Fr.refl (w2.alloc (.map #[] 0))).alloc (.cells #[.map (some w2.heap.size)] 57)
  have hrow := (MapKept.heap_alloc (w2.alloc (.map #[] 0)) (.cells #[.map (some w2.heap.size)] 57)).1
  have M1 := m1.fr g1 (by simp)
  have hW := ((Fr.refl w2).alloc (.map #[] 0)).then g1
  rw [World.size_alloc] at hrow
  go_upto_region 3 with fail
  obtain ⟨B, hB⟩ : ∃ B, B = w2.heap.size := ⟨_, rfl⟩
  rw [← hB] at hrow M1 hW ⊢
  have hBw : w2.heap.size ≤ B := by rw [hB]; exact Nat.le_refl _
  clear hB m1 g1 hmm
  generalize (w2.alloc (.map #[] 0)).alloc (.cells #[.map (some B)] 57) = W3 at hrow M1 hW ⊢
  obtain ⟨oL, hoL⟩ : ∃ l, l = ownL g xs := ⟨_, rfl⟩
  have ho : w2.ownsRow (w.alloc (.cells #[.pointer vp] 26)).heap.size 9 1 u2 oL.length (oL.map .string) := by rw [hoL]; exact ho2
  rw [← hoL] at Hol
  have HoL := Lib.hid hoL
  clear hoL ho2 kp2
  have hS := Strs.of_own ho (Nat.le_trans Hol.out (by decide))
  obtain ⟨ua, uc, rfl⟩ := own_form ho
  obtain ⟨n, hnx⟩ : ∃ n, n = oL.length := ⟨_, rfl⟩
  rw [← hnx] at ho hS ⊢
  have hn : n ≤ 4096 := by rw [hnx]; exact Hol.out
  have Hn := Lib.hid hnx; clear hnx
  have Ho := Lib.hid ho
  clear ho
  have hd := hd.fr f2
  have hc2 := f2.cell Hc0.out
  have Hc2 := Lib.hid hc2
  clear hc2 hs
  go_wp2
  go_loopw [18] (fun i wr => ∃ (k : Nat) (l : Ents), k ≤ n ∧ i = .int .i64 k ∧ Mp wr B l ∧ Hid (Cnt (k * 4096) l (belowP g (oL.take k))) ∧ wr.heap[B + 1]? = some (.cells #[.map (some B)] 57 (0, 0)) ∧ Fr [] w2 wr) (fun i _ => n - (intOf i).toNat)
  case atStart => exact ⟨0, [], Nat.zero_le _, rfl, M1, Lib.hid ((Cnt.nil 0).congr (by simp [belowP])), hrow, hW⟩
  case round =>
    obtain ⟨k, l, hk, rfl, hM, Hcn, hrow, hf⟩ := hrel
    by_cases hlt : k < n
    · obtain ⟨x, hx⟩ : ∃ s, oL[k]? = some s := ⟨_, List.getElem?_eq_getElem (Hn.out ▸ hlt)⟩
      obtain ⟨b, o, hidx, hcell⟩ := (hS.fr hf).at_ Hn.out 23 9 Tryz.underlying23 Tryz.sizeOf9 k x hx
      have Hx := Lib.hid hx; clear hx
      go_upto_region 6 with fail
      clear hidx hcell
      refine wp_region_ordX Fr.pre [] (.op 0 0 (.op 1 0 (.op 2 2 (.op 6 2 (.op 3 1 (.op 4 1 (.op 5 0 .fin))))))) _ (by kernel_rfl) (by kernel_rfl) (by simp only [pickX, List.getElem?_cons_succ, List.getElem?_cons_zero]; rfl) ?_
      have F := (Fr.refl wr).drew
      have hdr := (hd.fr hf).fr F
      have x_c := Ext.cell ((hf.then F).cell Hc2.out)
      repeat (first | (with_reducible refine wpX_q (fun K hK => ?_); go_simp; refine hK _ ?_; clear hK K) | (with_reducible refine wpX_p (fun K hK => ?_); go_simp; refine hK _ ?_; clear hK K) | (with_reducible refine wpX_p (fun K hK => ?_); go_simp; rw [if_neg (by simp [undef])]; refine hK _ ?_; clear hK K) | (with_reducible refine wpX_q (fun K hK => ?_); go_simp; rw [if_neg (by simp [undef])]; refine hK _ ?_; clear hK K))
      clear x_c
      (refine wpX_e (fun K hK => ?_); go_simp; intro wq hq; have F := F.then hq; have hdr := hdr.fr (hq); refine (predsD _ _ _ _ hdr Hw.out HL.out).mono ?_; rintro e wp ⟨u3, rfl, hu3, g1⟩; have hdr := hdr.fr (g1); obtain ⟨ua3, uc3, rfl, _⟩ := hu3.form; have F := F.then (g1); refine ⟨_, rfl, (g1), hK _ _ ?_⟩; clear hK K hq; skip)
      repeat (first | (with_reducible refine wpX_q (fun K hK => ?_); go_simp; refine hK _ ?_; clear hK K) | (with_reducible refine wpX_p (fun K hK => ?_); go_simp; refine hK _ ?_; clear hK K) | (with_reducible refine wpX_p (fun K hK => ?_); go_simp; rw [if_neg (by simp [undef])]; refine hK _ ?_; clear hK K) | (with_reducible refine wpX_q (fun K hK => ?_); go_simp; rw [if_neg (by simp [undef])]; refine hK _ ?_; clear hK K))
      (refine wpX_e (fun K hK => ?_); go_simp; intro wq hq; have F := F.then hq; have hdr := hdr.fr (hq); have hu3 := hu3.fr (hq); refine (pastD _ _ _ _ _ hdr Hw.out hu3 HL.out).mono ?_; rintro e wp ⟨u4, rfl, hu4, g1⟩; have hdr := hdr.fr (g1); have hu3 := hu3.fr (g1); obtain ⟨ua4, uc4, rfl, _⟩ := hu4.form; have F := F.then (g1); refine ⟨_, rfl, (g1), hK _ _ ?_⟩; clear hK K hq; skip)
      repeat (first | (with_reducible refine wpX_q (fun K hK => ?_); go_simp; refine hK _ ?_; clear hK K) | (with_reducible refine wpX_p (fun K hK => ?_); go_simp; refine hK _ ?_; clear hK K) | (with_reducible refine wpX_p (fun K hK => ?_); go_simp; rw [if_neg (by simp [undef])]; refine hK _ ?_; clear hK K) | (with_reducible refine wpX_q (fun K hK => ?_); go_simp; rw [if_neg (by simp [undef])]; refine hK _ ?_; clear hK K))
      with_reducible refine wpX_nil (fun w9 hw9 => ?_)
      have hu4 := hu4.fr hw9
      have F := F.then hw9
      have hM := hM.fr F (by simp)
      have hrow := F.row hrow
      have hf := hf.then F
      clear hdr hu3 hw9 F
      have hpl := Nat.le_trans (past_len Hw.out (preds g x)) hgl
      obtain ⟨pl, hple⟩ : ∃ l, l = pastL g (preds g x) := ⟨_, rfl⟩
      rw [← hple] at hu4 hpl ⊢
      have Hpl := Lib.hid hple
      clear hple
      obtain ⟨m, hmx⟩ : ∃ n, n = pl.length := ⟨_, rfl⟩
      rw [← hmx] at hu4 hpl ⊢
      have Hm := Lib.hid hmx; clear hmx
      go_wp2
      go_loopw [28] (fun i wr => ∃ (q : Nat) (l : Ents), q ≤ m ∧ i = .int .i64 q ∧ Mp wr B l ∧ Hid (Cnt (k * 4096 + q) l (fun y => belowP g (oL.take k) y ∨ y ∈ pl.take q)) ∧ wr.heap[B + 1]? = some (.cells #[.map (some B)] 57 (0, 0)) ∧ Fr [] w2 wr ∧ Strs wr (.slice ua4 m uc4) pl) (fun i _ => m - (intOf i).toNat)
      case atStart => exact ⟨0, l, Nat.zero_le _, rfl, hM, Lib.hid (Hcn.out.congr (by simp)), hrow, hf, hu4⟩
      case round =>
        obtain ⟨q, l, hq, rfl, hM, Hcn, hrow, hf, hu4⟩ := hrel
        by_cases hlt2 : q < m
        · obtain ⟨y, hy⟩ : ∃ s, pl[q]? = some s := ⟨_, List.getElem?_eq_getElem (Hm.out ▸ hlt2)⟩
          obtain ⟨b, o, hidx, hcell⟩ := hu4.at_ Hm.out 23 9 Tryz.underlying23 Tryz.sizeOf9 q y hy
          have Hy := Lib.hid hy; clear hy
          have hcB := row_cell hrow
          obtain ⟨j, hjk, hjv, hjs⟩ := Hcn.out.val y
          have hlk := hM.lookI y
          rw [hjv] at hlk
          obtain ⟨w5, hput, hM2, f5⟩ := hM.put Tryz.underlying57 Tryz.underlying9 y (.int .i64 ((j : Int) + 1))
          have hj1 := i64_succ j (by
            have : k * 4096 ≤ 4096 * 4096 := Nat.mul_le_mul_right _ (by omega)
            omega)
          have Hjv := Lib.hid hjv
          clear hjv hjs
          go_wp2
          go_roundw
          case rel =>
            refine ⟨q + 1, _, by omega, by go_num, hM2, Lib.hid ((Hcn.out.up Hjv.out).congr fun z => ?_), f5.row hrow, hf.drop f5 (fun z hz => by simp at hz; subst hz; exact hBw), hu4.fr f5⟩
            rw [mem_take_succ Hy.out]
            exact or_assoc
          case measure => simp [intOf]; omega
        · have Hq := Lib.hid hlt2
          go_wp2
          go_roundw
          case rel =>
            refine ⟨k + 1, l, by omega, by go_num, hM, Lib.hid ?_, hrow, hf⟩
            have hmm2 := Hcn.out
            refine ⟨fun z hz => ?_, fun z hz => hmm2.no z fun h => hz ?_⟩
            · obtain ⟨j, a1, a2, a3⟩ := hmm2.yes z (by
                obtain ⟨y, hy, hz⟩ := hz
                rcases (mem_take_succ Hx.out).1 hy with hy | rfl
                · exact .inl ⟨y, hy, hz⟩
                · exact .inr (by rw [List.take_of_length_le (by have := Hm.out; have := Hq.out; omega), Hpl.out]; exact hz))
              exact ⟨j, a1, by omega, a3⟩
            · rcases h with ⟨y, hy, h⟩ | h
              · exact ⟨y, (mem_take_succ Hx.out).2 (.inl hy), h⟩
              · exact ⟨x, (mem_take_succ Hx.out).2 (.inr rfl), by rw [← Hpl.out]; exact List.mem_of_mem_take h⟩
          case measure => simp [intOf]; omega
    · have hcn := Hcn.out
      rw [List.take_of_length_le (by have := Hn.out; omega)] at hcn
      have Hcn := Lib.hid hcn
      clear hcn
      have ho := own_fr Ho.out hf
      rw [Hn.out] at ho
      obtain ⟨T, hT, hTb⟩ := own_T2 ho
      have nB : B ∉ T := fun h => by obtain ⟨_, cur, hc⟩ := hTb B h; exact mp_ne hc hM rfl
      have nC : B + 1 ∉ T := fun h => by
        obtain ⟨_, cur, hc⟩ := hTb (B + 1) h
        rw [hrow] at hc
        simp at hc
      have C3 := deleteF 46 #[] #[.pointer (some ⟨B + 1, 0, none⟩)] Heg2.out (fun x => decide (belowP g oL x)) _ oL _ T wr ho (Nat.le_trans Hol.out (by decide)) hT (fun x w2 _ hK => tops46 x (B + 1) B _ l (belowP g oL) w2 (row_cell (hK.row hrow nC)) (hM.kp hK nB) Hcn.out)
      rw [← Hn.out] at C3
      have C4 := Lib.hid C3
      clear C3
      go_wp2_with (go_at_call 37; refine C4.out.mono ?_; rintro e w7 ⟨u7, rfl, ho7, -, kp7⟩)
      go_ret
      refine ⟨_, rfl, ?_, ?_⟩
      · have e1 : oL.filter (fun x => !decide (belowP g oL x)) = topsL g xs := by rw [HoL.out]; exact tops_below Hw.out xs
        rw [e1] at ho7
        exact Strs.of_own ho7 (by have := length_ofL (xs.filter fun x => decide (x ∈ ids g) && xs.all fun y => !aheadB g x y); have := List.length_filter_le (fun x => decide (x ∈ ids g) && xs.all fun y => !aheadB g x y) xs; show (topsL g xs).length ≤ _; unfold topsL; omega)
      · exact kp7.fr (F2.then hf) (fun x hx => Nat.le_trans f0.size (hTb x hx).1)
set_option maxRecDepth 100000 in
set_option maxHeartbeats 1000000 in
theorem commonD (v : Value) (g : G) (x y : BS) (w : World) (hd : DagR w v g) (hw : Wf g) (hgl : g.length ≤ 4096) :
    Calls Tryz.prog 11 #[v, .string x, .string y] w fun e w' => ∃ u, e = .returned u ∧ Strs w' u (commL g x y) ∧ Fr [] w w' := by
  obtain ⟨vp, rfl⟩ := hd.ptr
  have Hw := Lib.hid hw; clear hw
  have HG := Lib.hid hgl
  have HL := Lib.hid (Nat.le_trans hgl (by decide : 4096 ≤ 10000)); clear hgl
  have HM := Lib.hid (Nat.le_trans (meet_len (pastL g [x]) (pastL g [y])) (Nat.le_trans (past_len Hw.out [x]) (Nat.le_trans HL.out (by decide : 10000 ≤ 1000000))))
  have HP := Lib.hid (Nat.le_trans (past_len Hw.out [x]) (Nat.le_trans HL.out (by decide : 10000 ≤ 1000000)))
  have HP2 := Lib.hid (Nat.le_trans (past_len Hw.out [y]) (Nat.le_trans HL.out (by decide : 10000 ≤ 1000000)))
  have f0 := (Fr.refl w).alloc (.cells #[.string x] 9)
  have C1 := Lib.hid (pastD _ _ _ _ _ (hd.fr f0) Hw.out (strs_new w x) HL.out)
  go_enter Tryz.func11, Tryz.ntmps11
  go_wp2_with (first
    | (go_at_call 23; refine C1.out.mono ?_; rintro e w1 ⟨u1, rfl, hu1, f1⟩; clear C1; have f2 := (Fr.refl w1).alloc (.cells #[.string y] 9); have C2 := Lib.hid (pastD _ _ _ _ _ (((hd.fr f0).fr f1).fr f2) Hw.out (strs_new w1 y) HL.out))
    | (go_at_call 23; refine C2.out.mono ?_; rintro e w2 ⟨u2, rfl, hu2, f3⟩; clear C2; have F3 := ((f0.then f1).then f2).then f3; have C3 := Lib.hid (meetD _ _ _ _ _ ((hu1.fr f2).fr f3) hu2 HP.out HP2.out))
    | (go_at_call 34; refine C3.out.mono ?_; rintro e w3 ⟨u3, rfl, hu3, f4⟩; clear C3; have F4 := F3.then f4; have C4 := Lib.hid (topsD _ _ _ _ _ (hd.fr F4) hu3 HM.out Hw.out HG.out))
    | (go_at_call 17; refine C4.out.mono ?_; rintro e w5 ⟨u5, rfl, hu5, f5⟩; clear C4))
  go_ret
  exact ⟨_, rfl, hu5, F4.then f5⟩

set_option maxRecDepth 100000 in
theorem closed49 (x : BS) (c b : Nat) (l : Ents) (S : List BS) (w : World) (h1 : w.cell? ⟨c, 0, none⟩ = some (.map (some b))) (m1 : Mp w b l) (n1 : Cnt 1000000 l (· ∈ S)) :
    Calls Tryz.prog 49 #[.string x, .pointer (some ⟨c, 0, none⟩)] w fun e w' => e = .returned (.bool (!decide (x ∈ S))) ∧ Fr [] w w' := by
  obtain ⟨k1, hk1, hv1, hs1⟩ := n1.val x
  have lk1 := m1.lookI x
  rw [hv1] at lk1
  have t1 := i64_zero hs1
  clear hv1 hs1 n1
  generalize decide (x ∈ S) = B at t1 ⊢
  go_enter Tryz.func49, Tryz.ntmps49
  go_wp2
  go_ret
  exact ⟨rfl, .refl _⟩
theorem has_all {g : G} {xs : List BS} {k n : Nat} (h : ∀ x ∈ xs.take k, x ∈ ids g ∧ ∀ p ∈ preds g x, p ∈ xs) (hn : n = xs.length) (hk : ¬ k < n) : closedB g xs = decide (Rising xs) := by
  rw [List.take_of_length_le (by omega)] at h
  unfold closedB
  by_cases hr : Rising xs
  · rw [decide_eq_true hr]; exact decide_eq_true ⟨hr, fun x hx => (h x hx).1, fun x hx => (h x hx).2⟩
  · rw [decide_eq_false hr]; exact decide_eq_false fun k => hr k.1

set_option maxRecDepth 100000 in
set_option maxHeartbeats 2000000 in
theorem closedD (v lv : Value) (g : G) (xs : List BS) (w : World) (hd : DagR w v g) (hs : Strs w lv xs) (hl : xs.length ≤ 1000000) (hw : Wf g) (hgl : g.length ≤ 4096) :
    Calls Tryz.prog 19 #[v, lv] w fun e w' => e = .returned (.bool (closedB g xs)) ∧ Fr [] w w' := by
  obtain ⟨a, c, rfl, hc, hm, hn⟩ := hs.form
  obtain ⟨vp, rfl⟩ := hd.ptr
  have Hw := Lib.hid hw; clear hw
  have HL := Lib.hid (Nat.le_trans hgl (by decide : 4096 ≤ 10000))
  have C1 := Lib.hid (setD _ _ _ hs hl)
  have eg : ∀ args w, (callFunc 49 args).run Tryz.prog w = .ok (.enter 49 args) w := enters_of Tryz.func49 (by kernel_rfl) rfl
  have Heg := Lib.hid eg
  clear eg
  obtain ⟨n, hnx⟩ : ∃ n, n = xs.length := ⟨_, rfl⟩
  rw [← hnx] at hs hc hn hl C1 ⊢
  have Hn := Lib.hid hnx; clear hnx
  go_enter Tryz.func19, Tryz.ntmps19
  go_upto_region 2 with (go_at_call 36; refine C1.out.mono ?_; rintro e w2 ⟨b1, l1, rfl, hb1, m1, n1, f2⟩; clear C1)
  have N1 := Lib.hid n1
  have g1 := (Fr.refl w2).alloc (.cells #[.map (some b1)] 57)
  have c1 := World.cell?_alloc_new (w := w2) #[.map (some b1)] 57 0
  have M1 := m1.fr g1 (by simp)
  have F := f2.then g1
  have c1 : (w2.alloc (.cells #[.map (some b1)] 57)).cell? ⟨w2.heap.size, 0, none⟩ = some (.map (some b1)) := c1
  have Hc1 := Lib.hid c1
  clear n1 c1 m1 g1 f2
  generalize w2.alloc (.cells #[.map (some b1)] 57) = W3 at Hc1 M1 F ⊢
  go_wp2
  go_loopw [12] (fun i wr => ∃ k : Nat, k ≤ n ∧ i = .int .i64 k ∧ Hid (∀ x ∈ xs.take k, x ∈ ids g ∧ ∀ p ∈ preds g x, p ∈ xs) ∧ Fr [] W3 wr) (fun i _ => n - (intOf i).toNat)
  case atStart => exact ⟨0, Nat.zero_le _, rfl, Lib.hid (by simp), .refl _⟩
  case round =>
    obtain ⟨k, hk, rfl, Hno, hf⟩ := hrel
    have F := F.then hf
    have hs := hs.fr F
    have hd := hd.fr F
    by_cases hlt : k < n
    · obtain ⟨s, hx⟩ : ∃ s, xs[k]? = some s := ⟨_, List.getElem?_eq_getElem (Hn.out ▸ hlt)⟩
      obtain ⟨b, o, hidx, hcell⟩ := hs.at_ Hn.out 23 9 Tryz.underlying23 Tryz.sizeOf9 k s hx
      have Hx := Lib.hid hx; clear hx
      by_cases hi : s ∈ ids g
      · have Hi := Lib.hid hi; clear hi
        have C2 := Lib.hid (hasDT hd Hi.out)
        by_cases hp : ∀ p ∈ preds g s, p ∈ xs
        · have hany : (preds g s).any (fun y => !decide (y ∈ xs)) = false := by rw [List.any_eq_false]; intro y hy; simp [hp y hy]
          have Hp := Lib.hid hp
          have Hany := Lib.hid hany
          clear hp hany
          go_wp2_with (first
            | (go_at_call 41; refine C2.out.mono ?_; rintro e w5 ⟨rfl, f5⟩; clear C2; have C3 := Lib.hid (predsD _ s _ _ (hd.fr f5) Hw.out HL.out))
            | (go_at_call 45; refine C3.out.mono ?_; rintro e w6 ⟨u, rfl, hu, f6⟩; clear C3; have G := (hf.then f5).then f6; have C4 := containsF 49 #[] #[.pointer (some ⟨w2.heap.size, 0, none⟩)] Heg.out (fun y => !decide (y ∈ xs)) _ _ _ hu (fun y w7 _ hf7 => closed49 y w2.heap.size b1 l1 xs w7 ((G.then hf7).cell Hc1.out) (M1.fr (G.then hf7) (by simp)) N1.out); rw [Hany.out] at C4; have C4 := Lib.hid C4)
            | (go_at_call 48; refine C4.out.mono ?_; rintro e w8 ⟨rfl, f8⟩; clear C4))
          go_roundw
          case rel =>
            refine ⟨k + 1, by omega, by go_num, Lib.hid (fun y hy => ?_), G.then f8⟩
            rcases (mem_take_succ Hx.out).1 hy with hy | rfl
            · exact Hno.out y hy
            · exact ⟨Hi.out, Hp.out⟩
          case measure => simp [intOf]; omega
        · have hany : (preds g s).any (fun y => !decide (y ∈ xs)) = true := by
            obtain ⟨p, h1, h2⟩ : ∃ p ∈ preds g s, p ∉ xs := Decidable.byContradiction fun h => hp fun p hp => Decidable.byContradiction fun h2 => h ⟨p, hp, h2⟩
            exact List.any_eq_true.2 ⟨p, h1, by simp [h2]⟩
          have hB : closedB g xs = false := decide_eq_false fun h => hp fun p hp => h.2.2 s (List.mem_of_getElem? Hx.out) p hp
          have HB := Lib.hid hB
          have Hany := Lib.hid hany
          clear hp hany hB
          go_wp2_with (first
            | (go_at_call 41; refine C2.out.mono ?_; rintro e w5 ⟨rfl, f5⟩; clear C2; have C3 := Lib.hid (predsD _ s _ _ (hd.fr f5) Hw.out HL.out))
            | (go_at_call 45; refine C3.out.mono ?_; rintro e w6 ⟨u, rfl, hu, f6⟩; clear C3; have G := (hf.then f5).then f6; have C4 := containsF 49 #[] #[.pointer (some ⟨w2.heap.size, 0, none⟩)] Heg.out (fun y => !decide (y ∈ xs)) _ _ _ hu (fun y w7 _ hf7 => closed49 y w2.heap.size b1 l1 xs w7 ((G.then hf7).cell Hc1.out) (M1.fr (G.then hf7) (by simp)) N1.out); rw [Hany.out] at C4; have C4 := Lib.hid C4)
            | (go_at_call 48; refine C4.out.mono ?_; rintro e w8 ⟨rfl, f8⟩; clear C4))
          go_ret
          exact ⟨ret_bool HB.out.symm, F.then ((f5.then f6).then f8)⟩
      · have hB : closedB g xs = false := decide_eq_false fun h => hi (h.2.1 s (List.mem_of_getElem? Hx.out))
        have HB := Lib.hid hB
        have C2 := has18 _ s _ _ hd
        rw [decide_eq_false hi] at C2
        have C2 := Lib.hid C2
        clear hB hi
        go_wp2_with (go_at_call 41; refine C2.out.mono ?_; rintro e w5 ⟨rfl, f5⟩)
        go_ret
        exact ⟨ret_bool HB.out.symm, F.then f5⟩
    · have HB := Lib.hid (has_all Hno.out Hn.out hlt)
      have C2 := Lib.hid (rising59 _ _ _ hs)
      go_wp2_with (go_at_call 50; refine C2.out.mono ?_; rintro e w5 ⟨rfl, f5⟩)
      go_ret
      exact ⟨ret_bool HB.out.symm, F.then f5.fr⟩
end Go.Proofs.YtoaebladjdnfjaaGreat
