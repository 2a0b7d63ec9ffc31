import Derived.Test.YtppgjglfoibfcaaGreatCmp
set_option linter.unusedSimpArgs false
set_option linter.unusedVariables false
/-
  Order.
-/
namespace Go.Proofs.YtppgjglfoibfcaaGreat
open Go.RowKit Go.Maps Go.Sort Go.Shelf

instance extGNonempty (w : World) : Nonempty (Ext Gr w) := ⟨⟨w, .refl w⟩⟩
theorem ExtG.cell {w : World} {a : Addr} {v : Value} (h : w.cell? a = some v) : ∀ x : Ext Gr w, x.w.cell? a = some v := fun x => x.fr.fr.cell h
def ordI (g : G) (a b : BS) : Int := if cmpI (depth g a : Nat) (depth g b : Nat) = 0 then cmpS a b else cmpI (depth g a : Nat) (depth g b : Nat)

set_option maxRecDepth 100000 in
set_option maxHeartbeats 2000000 in
theorem order52 (v : Value) (a b : BS) (g : G) (k : Nat) (w : World) (hd : DagR w v g) (hc : w.cell? ⟨k, 0, none⟩ = some v) :
    Calls Tryz.prog 215 #[.string a, .string b, .pointer (some ⟨k, 0, none⟩)] w fun e w' => e = .returned (.int .i64 (ordI g a b)) ∧ Gr w w' := by
  go_enter Tryz.func215, Tryz.ntmps215
  go_upto_region 1 with fail
  refine wp_region_ordE Gr.pre false [(0, false), (1, false), (3, false), (4, false), (7, false), (8, false), (2, true), (5, true), (6, true), (9, true), (10, true), (11, true), (12, false)] _ (by kernel_rfl) (by kernel_rfl) (by simp only [pick, List.filterMap_cons, List.filterMap_nil, List.getElem?_cons_succ, List.getElem?_cons_zero, Option.map_some]; rfl) ?_
  have fd := (Gr.refl w).drew
  have x1 := ExtG.cell (fd.fr.cell hc)
  repeat (with_reducible refine wpO_q (fun K hK => ?_); go_simp; refine hK _ ?_; clear hK K)
  refine wpO_e (fun K hK => ?_)
  go_simp
  intro w1 hw1
  have g1 := fd.trans hw1
  refine (depth20 _ _ _ _ (hd.fr g1.fr)).mono ?_
  rintro e w2 ⟨rfl, hw2⟩
  have g2 := g1.trans hw2
  refine ⟨_, rfl, hw2, hK _ _ ?_⟩
  clear hK K
  repeat (with_reducible refine wpO_q (fun K hK => ?_); go_simp; refine hK _ ?_; clear hK K)
  refine wpO_e (fun K hK => ?_)
  go_simp
  intro w3 hw3
  have g3 := g2.trans hw3
  refine (depth20 _ _ _ _ (hd.fr g3.fr)).mono ?_
  rintro e w4 ⟨rfl, hw4⟩
  have g4 := g3.trans hw4
  refine ⟨_, rfl, hw4, hK _ _ ?_⟩
  clear hK K x1
  repeat (with_reducible refine wpO_q (fun K hK => ?_); go_simp; refine hK _ ?_; clear hK K)
  refine wpO_e (fun K hK => ?_)
  go_simp
  intro w5 hw5
  have g5 := g4.trans hw5
  refine (compare54 _ _ _).mono ?_
  rintro e w5' ⟨rfl, rfl⟩
  refine ⟨_, rfl, .refl _, hK _ _ ?_⟩
  clear hK K
  repeat (with_reducible refine wpO_q (fun K hK => ?_); go_simp; refine hK _ ?_; clear hK K)
  refine wpO_e (fun K hK => ?_)
  go_simp
  intro w6 hw6
  have g6 := g5.trans hw6
  refine (compare55 _ _ _).mono ?_
  rintro e w6' ⟨rfl, rfl⟩
  refine ⟨_, rfl, .refl _, hK _ _ ?_⟩
  clear hK K
  repeat (with_reducible refine wpO_q (fun K hK => ?_); go_simp; refine hK _ ?_; clear hK K)
  refine wpO_e (fun K hK => ?_)
  go_simp
  intro w7 hw7
  have g7 := g6.trans hw7
  have k0 := World.cell?_alloc_new w7 #[.int .i64 (cmpI (depth g a : Nat) (depth g b : Nat)), .int .i64 (cmpS a b)] 3 0
  have k1 := World.cell?_alloc_new w7 #[.int .i64 (cmpI (depth g a : Nat) (depth g b : Nat)), .int .i64 (cmpS a b)] 3 1
  go_simp
  refine ⟨(Gr.refl w7).alloc _, hK _ _ ?_⟩
  clear hK K
  repeat (with_reducible refine wpO_q (fun K hK => ?_); go_simp; refine hK _ ?_; clear hK K)
  refine wpO_e (fun K hK => ?_)
  go_simp
  intro w8 hw8
  have g8 := (g7.alloc _).trans hw8
  have R := or53 _ _ _ _ (hw8.fr.cell k0) (hw8.fr.cell k1)
  change Calls _ _ _ _ (fun e w' => e = .returned (.int .i64 (ordI g a b)) ∧ w8 = w') at R
  refine R.mono ?_
  rintro e w8' ⟨rfl, rfl⟩
  refine ⟨_, rfl, .refl _, hK _ _ ?_⟩
  clear hK K
  repeat (with_reducible refine wpO_q (fun K hK => ?_); go_simp; refine hK _ ?_; clear hK K)
  refine wpO_nil (fun w9 hw9 => ?_)
  go_wp2
  go_ret
  exact ⟨rfl, g8.trans hw9⟩

/-- What Order sorts by, on the bytes. -/
def cfO (g : G) (x y : List UInt8) : Int := ordI g (bsOf x) (bsOf y)
theorem ordI_neg (g : G) (a b : BS) : ordI g a b < 0 ↔ OLt g a b := by
  unfold ordI OLt cmpI cmpS
  by_cases h1 : ((depth g a : Nat) : Int) < (depth g b : Nat)
  · have h1' : depth g a < depth g b := by omega
    simp [h1, h1']
  · by_cases h2 : ((depth g b : Nat) : Int) < (depth g a : Nat)
    · have : ¬ depth g a < depth g b := by omega
      have h3 : ¬ depth g a = depth g b := by omega
      simp [h1, h2, this, h3]
    · have h3 : depth g a = depth g b := by omega
      by_cases h4 : BLt a b
      · simp [h3, h4]
      · by_cases h5 : BLt b a
        · simp [h3, h4, h5]
        · simp [h3, h4, h5]
theorem ltO (g : G) (x y : List UInt8) : ltOf (cfO g) x y = true ↔ OLt g (bsOf x) (bsOf y) := by
  unfold ltOf cfO
  rw [decide_eq_true_eq]
  exact ordI_neg g _ _
theorem ltO' (g : G) (x y : List UInt8) : ltOf (cfO g) x y = false ↔ ¬ OLt g (bsOf x) (bsOf y) := by
  rw [← ltO, Bool.not_eq_true]
theorem olt_no {g : G} {a b : BS} (h : ¬ OLt g a b) : a = b ∨ OLt g b a := (olt_total g a b).elim (fun k => absurd k h) _root_.id
theorem swoO (g : G) : SWO (ltOf (cfO g)) where
  irrefl x := (ltO' g x x).2 (olt_irrefl g _)
  trans x y z h1 h2 := (ltO g x z).2 (olt_trans ((ltO g x y).1 h1) ((ltO g y z).1 h2))
  ntrans x y z h1 h2 := (ltO' g x z).2 fun h => by
    rcases olt_no ((ltO' g x y).1 h1) with e | h3
    · rw [e] at h; exact (ltO' g y z).1 h2 h
    · rcases olt_no ((ltO' g y z).1 h2) with e | h4
      · rw [← e] at h; exact (ltO' g x y).1 h1 h
      · exact olt_irrefl g _ (olt_trans (olt_trans h h4) h3)
theorem totO (g : G) (x y : List UInt8) (h1 : ltOf (cfO g) x y = false) (h2 : ltOf (cfO g) y x = false) : x = y := by
  rcases olt_no ((ltO' g x y).1 h1) with e | h
  · exact bsOf_inj e
  · exact absurd h ((ltO' g y x).1 h2)

theorem keys51 (b : Nat) (w : World) : Calls Tryz.prog 214 #[.map (some b)] w fun e w' => e = .returned (.func (.func 277) #[] #[.pointer (some ⟨w.heap.size, 0, none⟩)]) ∧ w' = w.alloc (.cells #[.map (some b)] 231) :=
  (callsIn_wide (n := 5)).1 (AnyZ.keys_in Tryz.layKeysN Fence.wide 5 trivial rfl (some b) w)

theorem collect66 (b : Nat) (l : Ents) (w : World) (h : Mp w b l) (hs : ∀ x ∈ keysL l, x.size ≤ 1000000) (hl : l.length ≤ 1000000) :
    Calls Tryz.prog 217 #[.func (.func 277) #[] #[.pointer (some ⟨w.heap.size, 0, none⟩)]] (w.alloc (.cells #[.map (some b)] 231)) fun e w' =>
      ∃ v ss, e = .returned v ∧ w'.ownsRow (w.heap.size + 1) 9 1 v ss.length (ss.map encStr) ∧ (v = .slice none 0 0 ↔ ss = []) ∧ ss.Perm ((keysL l).map fun x => x.data.toList) ∧ Fr [] (w.alloc (.cells #[.map (some b)] 231)) w' := by
  obtain ⟨D, hown, hsize, hperm⟩ := h.owns Tryz.underlying9 (fun x hx => Nat.le_trans (hs x hx) (by decide)) (Nat.le_trans hl (by decide))
  have hseq : SeqGives Fence.wide 3 Tryz.prog 277 #[.pointer (some ⟨w.heap.size, 0, none⟩)] encStr (fun ss => ss.Perm (strKeys D)) (Maps.size D) (w.alloc (.cells #[.map (some b)] 231)) :=
    AnyZ.keys_gives (ρ := Tryz.layKeysN_ren) { Tryz.layKeysN with } Fence.wide _ trivial rfl (by omega) w.heap.size b l.length D _ (by simp) (by simp) (hown.alloc _)
  have cS := AnyZ.collect_in Tryz.layCollect Fence.wide 5 trivial trivial rfl (by omega) 277 #[.pointer (some ⟨w.heap.size, 0, none⟩)] trivial (enters_of Tryz.func277 (by kernel_rfl) rfl) _ _ (by rw [hsize]; exact Nat.le_trans hl (by decide)) (by rw [hsize]; omega) _ hseq
  refine Calls.mono ((callsIn_wide (n := 5)).1 cS) ?_
  rintro e w' ⟨v, ss, rfl, hS, hrow, hn, hb⟩
  rw [World.size_alloc] at hrow
  exact ⟨v, ss, rfl, hrow, hn, hS.trans hperm, Fr.of_below hb⟩

theorem ltO_sorted (g : G) (L : List BS) (hn : L.Nodup) (ss : List (List UInt8)) (hp : ss.Perm (L.map fun x => x.data.toList)) :
    ((ss.mergeSort fun x y => !(ltOf (cfO g)) y x).map bsOf).Pairwise (OLt g) ∧ ∀ x, x ∈ (ss.mergeSort fun x y => !(ltOf (cfO g)) y x).map bsOf ↔ x ∈ L := by
  have tr : ∀ a b c : List UInt8, (!(ltOf (cfO g)) b a) = true → (!(ltOf (cfO g)) c b) = true → (!(ltOf (cfO g)) c a) = true := fun a b c h1 h2 => by
    simp only [Bool.not_eq_true'] at *
    exact (swoO g).ntrans _ _ _ h2 h1
  have to : ∀ a b : List UInt8, ((!(ltOf (cfO g)) b a) || (!(ltOf (cfO g)) a b)) = true := fun a b => by
    cases h : ltOf (cfO g) b a with
    | false => simp
    | true =>
      cases h2 : ltOf (cfO g) a b with
      | false => simp
      | true => exact absurd ((swoO g).trans _ _ _ h h2) (by rw [(swoO g).irrefl]; simp)
  have hs := List.pairwise_mergeSort tr to ss
  have hperm := (List.mergeSort_perm ss fun x y => !(ltOf (cfO g)) y x).trans hp
  have hnd : (ss.mergeSort fun x y => !(ltOf (cfO g)) y x).Nodup := hperm.nodup_iff.2 (List.pairwise_map.2 (hn.imp fun {a b} hab e => hab (bs_ext e)))
  refine ⟨?_, fun x => ?_⟩
  · rw [List.pairwise_map]
    refine (hs.and hnd).imp ?_
    rintro a b ⟨h1, h2⟩
    rw [Bool.not_eq_true', ltO'] at h1
    rcases olt_no h1 with e | h
    · exact absurd (bsOf_inj e.symm) h2
    · exact h
  · constructor
    · intro h
      obtain ⟨a, ha, rfl⟩ := List.mem_map.1 h
      obtain ⟨y, hy, rfl⟩ := List.mem_map.1 (hperm.mem_iff.1 ha)
      have : bsOf y.data.toList = y := bs_ext (by simp [bsOf])
      rw [this]; exact hy
    · intro h
      exact List.mem_map.2 ⟨x.data.toList, hperm.mem_iff.2 (List.mem_map.2 ⟨x, h, rfl⟩), bs_ext (by simp [bsOf])⟩

set_option maxRecDepth 100000 in
set_option maxHeartbeats 1000000 in
theorem sorted50 (k b : Nat) (l : Ents) (v : Value) (g : G) (w : World) (h : Mp w b l) (hs : ∀ x ∈ keysL l, x.size ≤ 1000000) (hl : l.length ≤ 1000000) (hd : DagR w v g) (hc : w.cell? ⟨k, 0, none⟩ = some v) :
    Calls Tryz.prog 213 #[.func (.func 277) #[] #[.pointer (some ⟨w.heap.size, 0, none⟩)], .func (.func 215) #[] #[.pointer (some ⟨k, 0, none⟩)]] (w.alloc (.cells #[.map (some b)] 231)) fun e w' =>
      ∃ (u : Value) (xs : List BS), e = .returned u ∧ w'.ownsRow w.heap.size 9 1 u xs.length (xs.map .string) ∧ xs.Pairwise (OLt g) ∧ (∀ x, x ∈ xs ↔ x ∈ keysL l) ∧ Fr [] w w' := by
  have cC := collect66 b l w h hs hl
  have hnd := h.nodup
  have Hn := Lib.hid hnd; clear hnd
  have fW := (Fr.refl w).alloc (.cells #[.map (some b)] 231)
  clear h hs
  go_enter Tryz.func213, Tryz.ntmps213
  go_upto_region 2 with (go_at_call 217; refine cC.mono ?_; rintro e w1 ⟨rv, ss, rfl, hrow, hnil, hperm, f1⟩)
  have hlen := hperm.length_eq
  simp [keysL] at hlen
  have hlen2 : ss.length ≤ 1000000 := by omega
  clear hlen
  have Hperm := Lib.hid hperm; clear hperm
  have F1 := fW.then f1
  rcases hrow.2 with ⟨rfl, hz⟩ | ⟨gb, cap, cur, rfl, hbase, hgb, r1, r2, r3, r4⟩
  · have hss : ss = [] := List.eq_nil_of_length_eq_zero hz
    subst hss
    go_wp2_with (go_at_call 265; refine (AnyF.slices_SortFunc_none Tryz.laySortF0 none 0 _ w1).mono ?_; rintro e w' ⟨rfl, rfl⟩)
    go_ret
    refine ⟨_, [], rfl, World.ownsRow_nil _ _ _ _, List.Pairwise.nil, fun x => ?_, F1⟩
    have := Hperm.out.length_eq
    simp at this
    have : keysL l = [] := List.eq_nil_of_length_eq_zero this.symm
    rw [this]
  · have hH : Holds encStr w1 gb 0 ss.toArray := holds_of_block hgb (by simpa using r4)
    have hgl : gb < w1.heap.size := (Array.getElem?_eq_some_iff.1 hgb).1
    have hframe : ∀ m os dk, Fr [] w (sortWorld encStr w1 gb 0 m dk os) := fun m os dk => F1.grown (grownBy_sorted dk) (fun j hj => by cases hj; omega)
    have hcmp : CmpLays1 Tryz.prog 215 #[.pointer (some ⟨k, 0, none⟩)] encStr (cfO g) gb 0 ss.toArray.size w1 := fun m os dk hdk x y => by
      have R := order52 v (bsOf x) (bsOf y) g k (sortWorld encStr w1 gb 0 m dk os) (hd.fr (hframe m os dk)) ((hframe m os dk).cell hc)
      refine Calls.mono R ?_
      rintro e w' ⟨he, q, os', hw⟩
      exact ⟨he, q, os', hw⟩
    have hen : ∀ args w, (callFunc 215 args).run Tryz.prog w = .ok (.enter 215 args) w := enters_of Tryz.func215 (by kernel_rfl) rfl
    have hsz : ss.toArray.size < 4611686018427387904 := by simp; omega
    have h1c : OneCell encStr := fun x => rfl
    have cS := Any.slices_SortFunc_total Tryz.laySortF encStr h1c (cfO g) (swoO g) 215 #[.pointer (some ⟨k, 0, none⟩)] gb 0 cap ss.toArray w1 hen hcmp hH hgl hsz (totO g)
    have cS' : Calls Tryz.prog 265 #[.slice (some ⟨gb, 0, none⟩) ss.length cap, .func (.func 215) #[] #[.pointer (some ⟨k, 0, none⟩)]] w1 fun e w' => e = .returned (.tuple #[]) ∧ ∃ nn os, w' = sortWorld encStr w1 gb 0 nn (ss.mergeSort fun x y => !(ltOf (cfO g)) y x).toArray os := cS
    clear cS hcmp hen
    go_wp2_with (go_at_call 265; refine cS'.mono ?_; rintro e w' ⟨rfl, hex⟩)
    go_ret
    obtain ⟨nn, os, rfl⟩ := hex
    obtain ⟨s1, s2⟩ := ltO_sorted g (keysL l) Hn.out ss Hperm.out
    have hr := ownsRow_sorted (n := nn) (os := os) (ss := ss) (ts := ss.mergeSort fun x y => !(ltOf (cfO g)) y x) (by simp) hbase hgb r1 r2 r3
    refine ⟨_, _, rfl, ?_, s1, s2, hframe _ _ _⟩
    have e1 : (ss.mergeSort fun x y => !(ltOf (cfO g)) y x).map encStr = ((ss.mergeSort fun x y => !(ltOf (cfO g)) y x).map bsOf).map Value.string := by rw [List.map_map]; rfl
    rw [e1] at hr
    have hll : ss.length = ((ss.mergeSort fun x y => !(ltOf (cfO g)) y x).map bsOf).length := by simp
    rw [← hll]
    exact own_mono hr (by simp)

set_option maxRecDepth 100000 in
theorem order28O (v : Value) (g : G) (w : World) (hd : DagR w v g) (hw : Wf g) (hl : g.length ≤ 1000000) :
    Calls Tryz.prog 146 #[v] w fun e w' => ∃ (u : Value) (out : List BS), e = .returned u ∧ w'.ownsRow w.heap.size 9 1 u out.length (out.map .string) ∧ IsOrder g out ∧ Fr [] w w' := by
  rcases hd with ⟨rfl, rfl⟩ | ⟨mN, mH, bD, lN, lH, rfl, h⟩
  · go_enter Tryz.func146, Tryz.ntmps146
    go_wp2
    go_ret
    exact ⟨_, [], rfl, World.ownsRow_nil _ _ _ _, ⟨List.Pairwise.nil, fun x => by simp [ids]⟩, (Fr.refl w).alloc _⟩
  · have f0 := (Fr.refl w).alloc (.cells #[.pointer (some ⟨bD, 0, none⟩)] 27)
    have h1 := h.fr f0 (by simp) (by simp)
    have c0 := h1.c0
    have hlen : lN.length ≤ 1000000 := by rw [h.lenN]; exact hl
    have cS := sorted50 w.heap.size mN lN (.pointer (some ⟨bD, 0, none⟩)) g (w.alloc (.cells #[.pointer (some ⟨bD, 0, none⟩)] 27)) h1.mapN (fun x hx => by rw [hw.right ((h.keysN x).1 hx)]; omega) hlen (.inr ⟨mN, mH, bD, lN, lH, rfl, h1⟩) (by simp)
    have cK := keys51 mN (w.alloc (.cells #[.pointer (some ⟨bD, 0, none⟩)] 27))
    have hiff := h.keysN
    have H := Lib.hid hiff; clear hiff
    clear h h1
    simp only [World.size_alloc] at cS cK
    go_enter Tryz.func146, Tryz.ntmps146
    go_wp2_with (first
      | (go_at_call 214; refine cK.mono ?_; rintro e w' ⟨rfl, rfl⟩)
      | (go_at_call 213; refine cS.mono ?_; rintro e w' ⟨u, xs, rfl, hs, hx, hm, hf⟩))
    go_ret
    exact ⟨_, xs, rfl, own_mono hs (by simp), ⟨hx, fun x => (hm x).trans (H.out x)⟩, f0.then hf⟩
theorem order_len {g : G} {out : List BS} (hw : Wf g) (h : IsOrder g out) : out.length ≤ g.length := by
  rw [← length_ids]
  refine nodup_len _ _ ?_ fun x hx => (h.2 x).1 hx
  refine h.1.imp ?_
  intro a b h e
  subst e
  rcases h with h | h
  · omega
  · exact blt_irrefl _ h.2
theorem order28 (v : Value) (g : G) (w : World) (hd : DagR w v g) (hw : Wf g) (hl : g.length ≤ 1000000) :
    Calls Tryz.prog 146 #[v] w fun e w' => ∃ u out, e = .returned u ∧ Strs w' u out ∧ IsOrder g out ∧ Fr [] w w' :=
  (order28O v g w hd hw hl).mono fun e w' ⟨u, out, h1, h2, h3, h4⟩ => ⟨u, out, h1, Strs.of_own h2 (by have := order_len hw h3; omega), h3, h4⟩
end Go.Proofs.YtppgjglfoibfcaaGreat
