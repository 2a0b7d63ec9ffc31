import Derived.Test.YtnebdfpjjpbolaaDagAdd
import Derived.Test.YtnebdfpjjpbolaaKeys
set_option linter.unusedSimpArgs false
set_option linter.unusedVariables false
/-
  Heads, Clone.
-/
namespace Go.Proofs.Ytnebdfpjjpbolaa
open Go.RowKit

theorem sorted_heads (g : G) : (heads g).Pairwise BLt := sorted_ofL _

set_option maxRecDepth 100000 in
theorem heads34 (v : Value) (g : G) (w : World) (hd : DagR w v g) (hw : Wf g) (hl : g.length ≤ 1000000) :
    Calls Try.prog 34 #[v] w fun e w' => ∃ u, e = .returned u ∧ Strs w' u (heads g) ∧ Fr [] w w' := by
  rcases hd with ⟨rfl, rfl⟩ | ⟨mN, mH, bD, lN, lH, rfl, h⟩
  · go_enter Try.func34, Try.ntmps34
    go_wp2
    go_ret
    exact ⟨_, rfl, Strs.nil _, .refl _⟩
  · have c0 := h.c1
    have hkey : ∀ x ∈ keysL lH, x ∈ ids g := fun x hx => ((mem_heads hw x).1 ((h.keysH x).1 hx)).1
    have hlen : lH.length ≤ 1000000 := by
      have := nodup_len (keysL lH) (ids g) h.mapH.nodup hkey
      rw [length_ids] at this
      simp [keysL] at this; omega
    have cS := sorted45 mH lH w h.mapH (fun x hx => by rw [hw.right (hkey x hx)]; omega) hlen
    have cK := keys46 mH w
    have hiff := h.keysH
    clear hkey hlen h
    have H := Lib.hid hiff; clear hiff
    go_enter Try.func34, Try.ntmps34
    go_wp2_with (first
      | (go_at_call 46; refine cK.mono ?_; rintro e w' ⟨rfl, rfl⟩)
      | (go_at_call 45; refine cS.mono ?_; rintro e w' ⟨u, xs, rfl, hs, hx, hm, hf⟩))
    go_ret
    have : xs = heads g := sorted_ext hx (sorted_heads g) fun x => (hm x).trans (H.out x)
    subst this
    exact ⟨_, rfl, hs, ((Fr.refl w).alloc _).then hf⟩

theorem clone56 (b : Nat) (l : Ents) (w : World) (h : Mp w b l) : Calls Try.prog 56 #[.map (some b)] w fun e w' => e = .returned (.map (some w.heap.size)) ∧ Mp w' w.heap.size l ∧ Fr [] w w' := by
  obtain ⟨es, clock, hb, r⟩ := h
  refine Calls.mono (AnyW.maps_Clone Try.layCloneN b es clock w hb) ?_
  rintro e w' ⟨rfl, rfl⟩
  exact ⟨rfl, ⟨es, clock, (MapKept.heap_alloc w _).1, r⟩, (Fr.refl w).alloc _⟩
theorem clone57 (b : Nat) (l : Ents) (w : World) (h : Mp w b l) : Calls Try.prog 57 #[.map (some b)] w fun e w' => e = .returned (.map (some w.heap.size)) ∧ Mp w' w.heap.size l ∧ Fr [] w w' := by
  obtain ⟨es, clock, hb, r⟩ := h
  refine Calls.mono (AnyW.maps_Clone Try.layCloneI b es clock w hb) ?_
  rintro e w' ⟨rfl, rfl⟩
  exact ⟨rfl, ⟨es, clock, (MapKept.heap_alloc w _).1, r⟩, (Fr.refl w).alloc _⟩

set_option maxRecDepth 100000 in
set_option maxHeartbeats 1000000 in
/-- A clone: a graph of its own, that holds the same. -/
theorem clone32 (v : Value) (mN mH : Nat) (g : G) (w : World) (hd : DagAt w v mN mH g) :
    Calls Try.prog 32 #[v] w fun e w' => ∃ u m1 m2, e = .returned u ∧ DagAt w' u m1 m2 g ∧ w.heap.size ≤ m1 ∧ w.heap.size ≤ m2 ∧ Fr [] w w' := by
  obtain ⟨bD, lN, lH, rfl, h⟩ := hd
  have c0 := h.c0
  have c1 := h.c1
  have H := Lib.hid h; clear h
  go_enter Try.func32, Try.ntmps32
  go_upto_region 3 with fail
  refine wp_region_ord [(0, false), (1, false), (2, false), (3, false), (5, false), (6, false), (7, false), (8, false), (4, true), (9, true), (10, false), (11, true), (12, false)] _ (by kernel_rfl) (by kernel_rfl) (by simp only [pick, List.filterMap_cons, List.filterMap_nil, List.getElem?_cons_succ, List.getElem?_cons_zero, Option.map_some]; rfl) ?_
  have fd := (Fr.refl w).drew
  have x1 := Ext.cell (fd.cell c0)
  have x2 := Ext.cell (fd.cell c1)
  repeat (with_reducible refine wpO_q (fun K hK => ?_); go_simp; refine hK _ ?_; clear hK K)
  refine wpO_e (fun K hK => ?_)
  go_simp
  intro w1 hw1
  have g1 := fd.then hw1
  refine (clone56 _ _ _ (H.out.mapN.fr g1 (by simp))).mono ?_
  rintro e w2 ⟨rfl, hm1, hw2⟩
  have g2 := g1.then hw2
  have hs1 : w.heap.size ≤ w1.heap.size := g1.size
  refine ⟨_, rfl, hw2, hK _ _ ?_⟩
  clear hK K
  repeat (with_reducible refine wpO_q (fun K hK => ?_); go_simp; refine hK _ ?_; clear hK K)
  refine wpO_e (fun K hK => ?_)
  go_simp
  intro w3 hw3
  have g3 := g2.then hw3
  refine (clone57 _ _ _ (H.out.mapH.fr g3 (by simp))).mono ?_
  rintro e w4 ⟨rfl, hm2, hw4⟩
  have g4 := g3.then hw4
  have hs2 : w1.heap.size < w3.heap.size := Nat.lt_of_lt_of_le hm1.lt hw3.size
  refine ⟨_, rfl, hw4, hK _ _ ?_⟩
  clear hK K x1 x2
  repeat (with_reducible refine wpO_q (fun K hK => ?_); go_simp; refine hK _ ?_; clear hK K)
  refine wpO_e (fun K hK => ?_)
  go_simp
  intro w5 hw5
  go_simp
  refine ⟨(Fr.refl w5).alloc _, hK _ _ ?_⟩
  clear hK K
  repeat (with_reducible refine wpO_q (fun K hK => ?_); go_simp; refine hK _ ?_; clear hK K)
  refine wpO_nil (fun w6 hw6 => ?_)
  have f5 := (Fr.refl w5).alloc (.cells #[.map (some w1.heap.size), .map (some w3.heap.size)] 61)
  have F6 := ((g4.then hw5).then f5).then hw6
  have k0 := hw6.cell (World.cell?_alloc_new w5 #[.map (some w1.heap.size), .map (some w3.heap.size)] 61 0)
  have k1 := hw6.cell (World.cell?_alloc_new w5 #[.map (some w1.heap.size), .map (some w3.heap.size)] 61 1)
  have m1 := hm1.fr ((((hw3.then hw4).then hw5).then f5).then hw6) (by simp)
  have m2 := hm2.fr ((hw5.then f5).then hw6) (by simp)
  go_wp2
  go_ret
  exact ⟨_, w1.heap.size, w3.heap.size, rfl, ⟨_, lN, lH, rfl, ⟨k0, k1, by omega, m1, m2, H.out.keysN, H.out.lenN, fun x => (H.out.nodes x).fr F6, H.out.keysH⟩⟩, hs1, by omega, F6⟩
theorem clone32n (w : World) : Calls Try.prog 32 #[.pointer none] w fun e w' => e = .returned (.pointer none) ∧ w = w' := by
  go_enter Try.func32, Try.ntmps32
  go_wp2
  go_ret
  exact ⟨rfl, rfl⟩
end Go.Proofs.Ytnebdfpjjpbolaa
