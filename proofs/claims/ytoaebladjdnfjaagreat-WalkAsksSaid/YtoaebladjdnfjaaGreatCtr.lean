import Derived.Test.YtoaebladjdnfjaaGreatMake
import Derived.Test.YtoaebladjdnfjaaGreatExec
set_option linter.unusedSimpArgs false
set_option linter.unusedVariables false
/-
  The contracts once more, in the words of functions that can be run.
-/
namespace Go.Proofs.YtoaebladjdnfjaaGreat
open Go.RowKit

theorem textsT (v u : Value) (xs ys : List BS) (w : World) (hx : Strs w v xs) (hy : Strs w u ys) (h : xs = ys) :
    Calls Tryz.prog 10 #[v, u] w fun e w' => e = .returned (.bool true) ∧ Fr [] w w' := by
  have := texts15 v u xs ys w hx hy
  rwa [decide_eq_true h] at this
theorem pastD (v lv : Value) (l : List BS) (g : G) (w : World) (hd : DagR w v g) (hw : Wf g) (hlv : Strs w lv l) (hl : g.length ≤ 10000) :
    Calls Tryz.prog 23 #[v, lv] w fun e w' => ∃ u, e = .returned u ∧ Strs w' u (pastL g l) ∧ Fr [] w w' :=
  (past16d v lv l g w hd hw hlv (by omega)).mono fun e w' ⟨u, out, h1, h2, h3, h4⟩ => ⟨u, h1, past_eq hw h3 ▸ h2, h4⟩
theorem orderD (v : Value) (g : G) (w : World) (hd : DagR w v g) (hw : Wf g) (hl : g.length ≤ 10000) :
    Calls Tryz.prog 27 #[v] w fun e w' => ∃ u, e = .returned u ∧ Strs w' u (ordL g g.length) ∧ Fr [] w w' :=
  (order28 v g w hd hw (by omega)).mono fun e w' ⟨u, out, h1, h2, h3, h4⟩ => ⟨u, h1, isOrder_ext h3 (isOrder_ordL hw) ▸ h2, h4⟩
theorem orderO (v : Value) (g : G) (w : World) (hd : DagR w v g) (hw : Wf g) (hl : g.length ≤ 10000) :
    Calls Tryz.prog 27 #[v] w fun e w' => ∃ u, e = .returned u ∧ w'.ownsRow w.heap.size 9 1 u (ordL g g.length).length ((ordL g g.length).map .string) ∧ Fr [] w w' :=
  (order28O v g w hd hw (by omega)).mono fun e w' ⟨u, out, h1, h2, h3, h4⟩ => ⟨u, h1, isOrder_ext h3 (isOrder_ordL hw) ▸ h2, h4⟩
theorem aheadD (v : Value) (a b : BS) (g : G) (w : World) (hd : DagR w v g) (hw : Wf g) (hl : g.length ≤ 10000) :
    Calls Tryz.prog 26 #[v, .string a, .string b] w fun e w' => e = .returned (.bool (aheadB g a b)) ∧ Fr [] w w' :=
  (ahead26 v a b g w hd hw hl).mono fun e w' ⟨h1, h2⟩ => ⟨says_ahead hw h1, h2⟩
theorem pastN (v lv : Value) (g : G) (l : List BS) (w : World) (hs : Nodes w v g) (hlv : Strs w lv l) (hl : g.length ≤ 10000) (hwf : Wf g) :
    Calls Tryz.prog 35 #[.agg #[v], lv] w fun e w' => ∃ u, e = .returned u ∧ Strs w' u (pastL g l) ∧ Fr [] w w' :=
  (past16 v lv g l w hs hlv (by omega) hwf).mono fun e w' ⟨u, out, h1, h2, h3, h4⟩ => ⟨u, h1, past_eq hwf h3 ▸ h2, h4⟩
theorem aheadN (v : Value) (g : G) (a b : BS) (w : World) (hs : Nodes w v g) (hl : g.length ≤ 10000) (hwf : Wf g) :
    Calls Tryz.prog 47 #[.agg #[v], .string a, .string b] w fun e w' => e = .returned (.bool (aheadB g a b)) ∧ Fr [] w w' :=
  (ahead16 v g a b w hs (by omega) hwf).mono fun e w' ⟨h1, h2⟩ => ⟨says_ahead hwf h1, h2⟩
theorem len_preds {g : G} (hw : Wf g) (x : BS) : (preds g x).length ≤ g.length := by
  by_cases hx : x ∈ ids g
  · obtain ⟨n, hn, rfl⟩ := List.mem_map.1 hx
    obtain ⟨i, hi⟩ := List.mem_iff_getElem?.1 hn
    rw [preds_at hw hi, ← length_ids]
    exact nodup_len _ _ (sorted_nodup (hw i n hi).2.1.2) fun y hy => by
      have := (hw i n hi).2.2.2 y hy
      rw [ids_take] at this; exact List.mem_of_mem_take this
  · rw [preds_none hx]; simp
theorem predsD (v : Value) (x : BS) (g : G) (w : World) (hd : DagR w v g) (hw : Wf g) (hl : g.length ≤ 10000) :
    Calls Tryz.prog 45 #[v, .string x] w fun e w' => ∃ u, e = .returned u ∧ Strs w' u (preds g x) ∧ Fr [] w w' :=
  preds22 v x g w hd (by have := len_preds hw x; omega)
theorem kidsD (v : Value) (x : BS) (g : G) (w : World) (hd : DagR w v g) (hw : Wf g) (hl : g.length ≤ 10000) :
    Calls Tryz.prog 81 #[v, .string x] w fun e w' => ∃ u, e = .returned u ∧ Strs w' u (kids g x) ∧ Fr [] w w' :=
  kids24 v x g w hd (by have := length_kids (g := g) x; omega)
theorem depthD (v : Value) (x : BS) (g : G) (w : World) (hd : DagR w v g) :
    Calls Tryz.prog 59 #[v, .string x] w fun e w' => e = .returned (.int .i64 (depth g x : Nat)) ∧ Fr [] w w' :=
  (depth20 v x g w hd).mono fun e w' ⟨h1, h2⟩ => ⟨h1, h2.fr⟩
theorem addAt {mN mH : Nat} {v pv : Value} {id : BS} {ps : List BS} {g g' : G} {w : World} {z : Int} (h : addE g id ps = z) (h2 : addG g id ps = g') (hd : DagAt w v mN mH g) (hw : Wf g) (hp : Strs w pv ps) (hl : g.length ≤ 4096) :
    Calls Tryz.prog 32 #[v, .string id, pv] w fun e w' => e = .returned (.int .i64 z) ∧ DagAt w' v mN mH g' ∧ Fr [mN, mH] w w' := by
  have := add12 mN mH v pv id ps g w hd hw hp hl
  rwa [h, h2] at this
theorem Strs.formN {w : World} {v : Value} {xs : List BS} (h : Strs w v xs) (n : Nat) (hn : xs.length = n) : ∃ a c, v = .slice a n c := by
  obtain ⟨a, c, rfl, _⟩ := h.form; exact ⟨a, c, by rw [hn]⟩
theorem DagAt.ptr {w : World} {v : Value} {mN mH : Nat} {g : G} (h : DagAt w v mN mH g) : ∃ b, v = .pointer (some ⟨b, 0, none⟩) := by
  obtain ⟨bD, lN, lH, rfl, _⟩ := h; exact ⟨_, rfl⟩
theorem strs_new2 (w : World) (x y : BS) : Strs (w.alloc (.cells #[.string x, .string y] 9)) (.slice (some ⟨w.heap.size, 0, none⟩) 2 2) [x, y] := Sl.new w #[.string x, .string y] 9 1 2 rfl (by omega)
theorem strs_new3 (w : World) (x y z : BS) : Strs (w.alloc (.cells #[.string x, .string y, .string z] 9)) (.slice (some ⟨w.heap.size, 0, none⟩) 3 3) [x, y, z] := Sl.new w #[.string x, .string y, .string z] 9 1 3 rfl (by omega)
end Go.Proofs.YtoaebladjdnfjaaGreat
