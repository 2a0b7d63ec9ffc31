import Derived.Test.YtppgjglfoibfcaaGreatPast
import Derived.Test.YtppgjglfoibfcaaGreatMake
set_option linter.unusedSimpArgs false
set_option linter.unusedVariables false
/-
  What is past, and ahead, as functions that can be run.
-/
namespace Go.Proofs.YtppgjglfoibfcaaGreat

def pastS (g : G) (l : List BS) : List Nd := g.foldr (fun n acc => if n.id ∈ l ∨ ∃ m ∈ acc, n.id ∈ m.preds then n :: acc else acc) []
def pastL (g : G) (l : List BS) : List BS := ofL ((pastS g l).map (·.id))
def aheadB (g : G) (a b : BS) : Bool := decide (a ≠ b ∧ a ∈ ids g ∧ b ∈ ids g ∧ a ∈ pastL g [b])

theorem pastS_cons (n : Nd) (s : G) (l : List BS) : pastS (n :: s) l = if n.id ∈ l ∨ ∃ m ∈ pastS s l, n.id ∈ m.preds then n :: pastS s l else pastS s l := rfl
theorem pastS_sound {g : G} (hw : Wf g) (l : List BS) : ∀ (s p : G), g = p ++ s → ∀ n ∈ pastS s l, n ∈ s ∧ ∃ y ∈ l, y ∈ ids g ∧ Reach g y n.id
  | [], p, _, n, hn => by simp [pastS] at hn
  | x :: s, p, hg, n, hn => by
    have ih := pastS_sound hw l s (p ++ [x]) (by rw [hg]; simp)
    have hx : g[p.length]? = some x := by rw [hg]; simp
    have hxi : x.id ∈ ids g := List.mem_map.2 ⟨x, List.mem_of_getElem? hx, rfl⟩
    rw [pastS_cons] at hn
    split at hn
    · rename_i hc
      rcases List.mem_cons.1 hn with rfl | hn
      · refine ⟨List.mem_cons_self, ?_⟩
        rcases hc with hc | ⟨m, hm, hc⟩
        · exact ⟨_, hc, hxi, .refl _⟩
        · obtain ⟨hms, y, hy, hyi, hr⟩ := ih m hm
          obtain ⟨j, hj⟩ := List.mem_iff_getElem?.1 (show m ∈ g by rw [hg]; simp [hms])
          exact ⟨y, hy, hyi, hr.snoc (by rw [preds_at hw hj]; exact hc)⟩
      · exact ⟨List.mem_cons_of_mem _ (ih n hn).1, (ih n hn).2⟩
    · exact ⟨List.mem_cons_of_mem _ (ih n hn).1, (ih n hn).2⟩
theorem pastS_full {g : G} (hw : Wf g) (l : List BS) : ∀ (s p : G), g = p ++ s → ∀ n ∈ s, (∃ y ∈ l, y ∈ ids g ∧ Reach g y n.id) → n ∈ pastS s l
  | [], p, _, n, hn, _ => by simp at hn
  | x :: s, p, hg, n, hn, hp => by
    have ih := pastS_full hw l s (p ++ [x]) (by rw [hg]; simp)
    have hx : g[p.length]? = some x := by rw [hg]; simp
    rw [pastS_cons]
    rcases List.mem_cons.1 hn with rfl | hn
    · rw [if_pos]
      · exact List.mem_cons_self
      · obtain ⟨y, hy, hyi, hr⟩ := hp
        rcases hr.last with e | ⟨z, hz, hpz⟩
        · exact .inl (by rw [e]; exact hy)
        · obtain ⟨k, m, hk, hmz, hpm, hin⟩ := mem_preds hw hpz
          obtain ⟨j, n', hjk, hj, he⟩ := mem_ids_take_iff.1 hin
          have hjp : j = p.length := at_uniq hw hj hx he
          have hms : m ∈ s := by
            rw [hg, List.getElem?_append_right (by omega)] at hk
            obtain ⟨q, hq⟩ : ∃ q, k - p.length = q + 1 := ⟨k - p.length - 1, by omega⟩
            rw [hq, List.getElem?_cons_succ] at hk
            exact List.mem_of_getElem? hk
          exact .inr ⟨m, ih m hms ⟨y, hy, hyi, by rw [hmz]; exact hz⟩, hpm⟩
    · have := ih n hn hp
      split
      · exact List.mem_cons_of_mem _ this
      · exact this
theorem isPast_pastL {g : G} (hw : Wf g) (l : List BS) : IsPast g l (pastL g l) := by
  refine ⟨rising_ofL _, fun x => ?_⟩
  unfold pastL
  rw [mem_ofL]
  constructor
  · rintro ⟨h, _⟩
    obtain ⟨n, hn, rfl⟩ := List.mem_map.1 h
    exact (pastS_sound hw l g [] rfl n hn).2
  · intro hp
    obtain ⟨y, hy, hyi, hr⟩ := hp
    have hx := reach_in hw hr hyi
    obtain ⟨n, hn, rfl⟩ := List.mem_map.1 hx
    exact ⟨List.mem_map.2 ⟨n, pastS_full hw l g [] rfl n hn ⟨y, hy, hyi, hr⟩, rfl⟩, hw.right hx⟩
theorem past_eq {g : G} (hw : Wf g) {l out : List BS} (h : IsPast g l out) : out = pastL g l := isPast_ext h (isPast_pastL hw l)
theorem aheadB_iff {g : G} (hw : Wf g) (a b : BS) : aheadB g a b = true ↔ Ahead g a b := by
  unfold aheadB
  rw [decide_eq_true_eq, ahead_iff (isPast_pastL hw [b])]
theorem says_ahead {g : G} (hw : Wf g) {a b : BS} {e : Ending} (h : Says (Ahead g a b) e) : e = .returned (.bool (aheadB g a b)) := by
  obtain ⟨r, rfl, hr⟩ := h
  have : r = aheadB g a b := by rw [Bool.eq_iff_iff, hr, aheadB_iff hw]
  rw [this]
end Go.Proofs.YtppgjglfoibfcaaGreat

set_option linter.unusedSimpArgs false
set_option linter.unusedVariables false
/-
  The contracts once more, in the words of functions that can be run.
-/
namespace Go.Proofs.YtppgjglfoibfcaaGreat
open Go.RowKit

theorem textsT (v u : Value) (xs ys : List BS) (w : World) (hx : Strs w v xs) (hy : Strs w u ys) (h : xs = ys) :
    Calls Tryz.prog 26 #[v, u] w fun e w' => e = .returned (.bool true) ∧ Fr [] w w' := by
  have := texts15 v u xs ys w hx hy
  rwa [decide_eq_true h] at this
theorem pastD (v lv : Value) (l : List BS) (g : G) (w : World) (hd : DagR w v g) (hw : Wf g) (hlv : Strs w lv l) (hl : g.length ≤ 10000) :
    Calls Tryz.prog 144 #[v, lv] w fun e w' => ∃ u, e = .returned u ∧ Strs w' u (pastL g l) ∧ Fr [] w w' :=
  (past16d v lv l g w hd hw hlv (by omega)).mono fun e w' ⟨u, out, h1, h2, h3, h4⟩ => ⟨u, h1, past_eq hw h3 ▸ h2, h4⟩
theorem orderD (v : Value) (g : G) (w : World) (hd : DagR w v g) (hw : Wf g) (hl : g.length ≤ 10000) :
    Calls Tryz.prog 146 #[v] w fun e w' => ∃ u, e = .returned u ∧ Strs w' u (ordL g g.length) ∧ Fr [] w w' :=
  (order28 v g w hd hw (by omega)).mono fun e w' ⟨u, out, h1, h2, h3, h4⟩ => ⟨u, h1, isOrder_ext h3 (isOrder_ordL hw) ▸ h2, h4⟩
theorem orderO (v : Value) (g : G) (w : World) (hd : DagR w v g) (hw : Wf g) (hl : g.length ≤ 10000) :
    Calls Tryz.prog 146 #[v] w fun e w' => ∃ u, e = .returned u ∧ w'.ownsRow w.heap.size 9 1 u (ordL g g.length).length ((ordL g g.length).map .string) ∧ Fr [] w w' :=
  (order28O v g w hd hw (by omega)).mono fun e w' ⟨u, out, h1, h2, h3, h4⟩ => ⟨u, h1, isOrder_ext h3 (isOrder_ordL hw) ▸ h2, h4⟩
theorem aheadD (v : Value) (a b : BS) (g : G) (w : World) (hd : DagR w v g) (hw : Wf g) (hl : g.length ≤ 10000) :
    Calls Tryz.prog 72 #[v, .string a, .string b] w fun e w' => e = .returned (.bool (aheadB g a b)) ∧ Fr [] w w' :=
  (ahead26 v a b g w hd hw hl).mono fun e w' ⟨h1, h2⟩ => ⟨says_ahead hw h1, h2⟩
theorem pastN (v lv : Value) (g : G) (l : List BS) (w : World) (hs : Nodes w v g) (hlv : Strs w lv l) (hl : g.length ≤ 10000) (hwf : Wf g) :
    Calls Tryz.prog 54 #[.agg #[v], lv] w fun e w' => ∃ u, e = .returned u ∧ Strs w' u (pastL g l) ∧ Fr [] w w' :=
  (past16 v lv g l w hs hlv (by omega) hwf).mono fun e w' ⟨u, out, h1, h2, h3, h4⟩ => ⟨u, h1, past_eq hwf h3 ▸ h2, h4⟩
theorem aheadN (v : Value) (g : G) (a b : BS) (w : World) (hs : Nodes w v g) (hl : g.length ≤ 10000) (hwf : Wf g) :
    Calls Tryz.prog 31 #[.agg #[v], .string a, .string b] w fun e w' => e = .returned (.bool (aheadB g a b)) ∧ Fr [] w w' :=
  (ahead16 v g a b w hs (by omega) hwf).mono fun e w' ⟨h1, h2⟩ => ⟨says_ahead hwf h1, h2⟩
theorem len_preds {g : G} (hw : Wf g) (x : BS) : (preds g x).length ≤ g.length := by
  by_cases hx : x ∈ ids g
  · obtain ⟨n, hn, rfl⟩ := List.mem_map.1 hx
    obtain ⟨i, hi⟩ := List.mem_iff_getElem?.1 hn
    rw [preds_at hw hi, ← length_ids]
    exact nodup_len _ _ (sorted_nodup (hw i n hi).2.1.2) fun y hy => by
      have := (hw i n hi).2.2.2 y hy
      rw [ids_take] at this; exact List.mem_of_mem_take this
  · rw [preds_none hx]; simp
theorem depthD (v : Value) (x : BS) (g : G) (w : World) (hd : DagR w v g) :
    Calls Tryz.prog 158 #[v, .string x] w fun e w' => e = .returned (.int .i64 (depth g x : Nat)) ∧ Fr [] w w' :=
  (depth20 v x g w hd).mono fun e w' ⟨h1, h2⟩ => ⟨h1, h2.fr⟩
theorem addAt {mN mH : Nat} {v pv : Value} {id : BS} {ps : List BS} {g g' : G} {w : World} {z : Int} (h : addE g id ps = z) (h2 : addG g id ps = g') (hd : DagAt w v mN mH g) (hw : Wf g) (hp : Strs w pv ps) (hl : g.length ≤ 4096) :
    Calls Tryz.prog 65 #[v, .string id, pv] w fun e w' => e = .returned (.int .i64 z) ∧ DagAt w' v mN mH g' ∧ Fr [mN, mH] w w' := by
  have := add12 mN mH v pv id ps g w hd hw hp hl
  rwa [h, h2] at this
theorem Strs.formN {w : World} {v : Value} {xs : List BS} (h : Strs w v xs) (n : Nat) (hn : xs.length = n) : ∃ a c, v = .slice a n c := by
  obtain ⟨a, c, rfl, _⟩ := h.form; exact ⟨a, c, by rw [hn]⟩
theorem DagAt.ptr {w : World} {v : Value} {mN mH : Nat} {g : G} (h : DagAt w v mN mH g) : ∃ b, v = .pointer (some ⟨b, 0, none⟩) := by
  obtain ⟨bD, lN, lH, rfl, _⟩ := h; exact ⟨_, rfl⟩
theorem strs_new2 (w : World) (x y : BS) : Strs (w.alloc (.cells #[.string x, .string y] 9)) (.slice (some ⟨w.heap.size, 0, none⟩) 2 2) [x, y] := Sl.new w #[.string x, .string y] 9 1 2 rfl (by omega)
theorem strs_new3 (w : World) (x y z : BS) : Strs (w.alloc (.cells #[.string x, .string y, .string z] 9)) (.slice (some ⟨w.heap.size, 0, none⟩) 3 3) [x, y, z] := Sl.new w #[.string x, .string y, .string z] 9 1 3 rfl (by omega)
end Go.Proofs.YtppgjglfoibfcaaGreat
