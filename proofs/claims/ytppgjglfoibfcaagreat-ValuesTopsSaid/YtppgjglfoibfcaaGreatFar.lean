import Derived.Test.YtppgjglfoibfcaaGreatVals5
import Derived.Test.YtppgjglfoibfcaaGreatWrite21
set_option linter.unusedSimpArgs false
set_option linter.unusedVariables false
/-
  A row of slices is stored to: what is read off other blocks stays.
-/
namespace Go.Proofs.YtppgjglfoibfcaaGreat
open Go.RowKit

structure Far (R : Nat) (w w' : World) : Prop where
  row : ∃ cs e f, w.heap[R]? = some (.cells cs e f) ∧ ∀ (j : Nat) v, cs[j]? = some v → ∃ a n c, v = Value.slice a n c
  eq : ∀ k, k ≠ R → w'.heap[k]? = w.heap[k]?
theorem Far.set2 {w : World} {R : Nat} {a b : Option Addr} {n c n2 c2 : Nat} {e : TypeId} {f : Nat × Nat} (hR : w.heap[R]? = some (.cells #[.slice a n c, .slice b n2 c2] e f)) (x y : Value) : Far R w ((w.setCell ⟨R, 0, none⟩ x).setCell ⟨R, 1, none⟩ y) :=
  ⟨⟨_, _, _, hR, fun j v h => by
    match j with
    | 0 => simp at h; exact ⟨_, _, _, h.symm⟩
    | 1 => simp at h; exact ⟨_, _, _, h.symm⟩
    | j + 2 => simp at h⟩, fun k hk => (Below.heap_setCell _ ⟨R, 1, none⟩ _ _ hk).trans (Below.heap_setCell _ ⟨R, 0, none⟩ _ _ hk)⟩
theorem Far.cell {w w' : World} {R b o : Nat} (h : Far R w w') {v : Value} (hv : ∀ a n c, v ≠ .slice a n c) (hc : w.cell? ⟨b, o, none⟩ = some v) : w'.cell? ⟨b, o, none⟩ = some v ∧ b ≠ R := by
  obtain ⟨cs, e, f, hR, hs⟩ := h.row
  have hb : b ≠ R := by
    rintro rfl
    simp only [World.cell?, hR, Option.isSome_none, Bool.false_eq_true, if_false] at hc
    obtain ⟨a, n, c, e⟩ := hs o v hc
    exact hv a n c e
  refine ⟨?_, hb⟩
  simp only [World.cell?, h.eq b hb] at hc ⊢
  exact hc
theorem Far.other {w w' : World} {R b o : Nat} (h : Far R w w') (hb : b ≠ R) {v : Value} (hc : w.cell? ⟨b, o, none⟩ = some v) : w'.cell? ⟨b, o, none⟩ = some v := by
  simp only [World.cell?, h.eq b hb] at hc ⊢; exact hc
theorem Strs.far {w w' : World} {R : Nat} (hf : Far R w w') {v : Value} {xs : List BS} (h : Strs w v xs) : Strs w' v xs := by
  obtain ⟨h1, h2, a, c, e, h3, h4, h5, h6⟩ := h
  refine ⟨h1, h2, a, c, e, h3, h4, h5, fun h0 => ?_⟩
  obtain ⟨b, o, rfl, hc⟩ := h6 h0
  refine ⟨b, o, rfl, fun i x hx => ?_⟩
  have hcx := hc i x hx
  rw [List.getElem?_map, Option.map_eq_some_iff] at hx
  obtain ⟨s, _, rfl⟩ := hx
  exact (hf.cell (by simp) hcx).1
theorem Recs.far {α : Type} {k : Nat} {enc : α → List Value} {w w' : World} {R : Nat} (hf : Far R w w') (hl : ∀ x, (enc x).length = k) (h0 : ∀ x, ∃ y, (enc x)[0]? = some y ∧ ∀ a n c, y ≠ .slice a n c) {v : Value} {xs : List α} (h : Recs k enc w v xs) : Recs k enc w' v xs := by
  obtain ⟨h1, h2, a, c, e, h3, h4, h5, h6⟩ := h
  refine ⟨h1, h2, a, c, e, h3, h4, h5, fun hp => ?_⟩
  obtain ⟨b, o, rfl, hc⟩ := h6 hp
  obtain ⟨x0, hx0⟩ : ∃ n, xs[0]? = some n := ⟨_, List.getElem?_eq_getElem hp⟩
  obtain ⟨y, hy, hn⟩ := h0 x0
  have hk : 0 < k := by have := lt_of_getElem? hy; rwa [hl] at this
  have h7 := hc 0 y (by have := flat_get hl hx0 hk; rw [Nat.zero_mul] at this; rw [this]; exact hy)
  have hb := (hf.cell hn h7).2
  exact ⟨b, o, rfl, fun i x hx => hf.other hb (hc i x hx)⟩
theorem Nodes.far {w w' : World} {R : Nat} (hf : Far R w w') {v : Value} {g : G} (h : Nodes w v g) : Nodes w' v g := by
  obtain ⟨cs, ⟨h1, h2, a, c, e, h3, h4, h5, h6⟩, h7⟩ := h
  refine ⟨cs, ⟨h1, h2, a, c, e, h3, h4, h5, fun h0 => ?_⟩, fun i n hi => ?_⟩
  · obtain ⟨b, o, rfl, hc⟩ := h6 h0
    obtain ⟨n0, hn0⟩ : ∃ n, g[0]? = some n := ⟨_, List.getElem?_eq_getElem h0⟩
    obtain ⟨pv, k1, _, _⟩ := h7 0 n0 hn0
    have hb := (hf.cell (by simp) (hc (0 * 2) _ k1)).2
    exact ⟨b, o, rfl, fun i x hx => hf.other hb (hc i x hx)⟩
  · obtain ⟨pv, k1, k2, k3⟩ := h7 i n hi
    exact ⟨pv, k1, k2, k3.far hf⟩
theorem Mp.far {w w' : World} {R m : Nat} (hf : Far R w w') {l : Ents} (h : Mp w m l) : Mp w' m l := by
  obtain ⟨cs, e, f, hR, _⟩ := hf.row
  have := mp_ne hR h
  obtain ⟨es, cl, hb, r⟩ := h
  exact ⟨es, cl, (hf.eq m this).trans hb, r⟩
theorem NodeV.far {w w' : World} {R : Nat} (hf : Far R w w') {v : Value} {g : G} {x : BS} (h : NodeV w v g x) : NodeV w' v g x := by
  obtain ⟨pv, kv, h1, h2, h3⟩ := h; exact ⟨pv, kv, h1, h2.far hf, h3.far hf⟩
theorem DagAt.far {w w' : World} {R : Nat} (hf : Far R w w') {v : Value} {mN mH : Nat} {g : G} (h : DagAt w v mN mH g) : DagAt w' v mN mH g := by
  obtain ⟨bD, lN, lH, rfl, h⟩ := h
  exact ⟨bD, lN, lH, rfl, ⟨(hf.cell (by simp) h.c0).1, (hf.cell (by simp) h.c1).1, h.ne, h.mapN.far hf, h.mapH.far hf, h.keysN, h.lenN, fun x => (h.nodes x).far hf, h.keysH⟩⟩
theorem DagN.far {S : List Nat} {w w' : World} {R : Nat} (hf : Far R w w') {v : Value} {g : G} (h : DagN S w v g) : DagN S w' v g :=
  h.imp _root_.id fun ⟨a, b, h, h1, h2⟩ => ⟨a, b, h.far hf, h1, h2⟩
theorem RowsR.far {w w' : World} {R : Nat} (hf : Far R w w') {v : Value} {xs : List Rw} (h : RowsR w v xs) : RowsR w' v xs :=
  Recs.far hf lenRw (fun x => ⟨_, rfl, by simp⟩) h
theorem ValsAt.far {w w' : World} {R vb bm : Nat} (hf : Far R w w') {p : Option Addr} {L : List Wr} {K : Nat} (h : ValsAt w vb bm (.pointer p) L K) : ValsAt w' vb bm (.pointer p) L K := by
  obtain ⟨l, h1, h2, h3, h4⟩ := h.map
  have hb := (hf.cell (by simp) (rowAt h.blk (j := 0) rfl)).2
  exact ⟨(hf.eq vb hb).trans h.blk, ⟨l, h1.far hf, h2, h3, fun n => (h4 n).imp (fun ⟨u, a, b⟩ => ⟨u, a, Recs.far hf lenWt (fun x => ⟨_, rfl, by simp⟩) b⟩) _root_.id⟩, h.srt⟩
end Go.Proofs.YtppgjglfoibfcaaGreat
