import Derived.Test.YtppgjglfoibfcaaGreatCtr
import Derived.Lib.SliceRun
import Derived.Shelf.Abstract
import Derived.Laws.IdiomCopy
set_option linter.unusedSimpArgs false
set_option linter.unusedVariables false
/-
  slices.IndexFunc, ContainsFunc, DeleteFunc on texts, at whatever predicate.
-/
namespace Go.Proofs.YtppgjglfoibfcaaGreat
open Go.RowKit

def IdxP (p : BS → Bool) (xs : List BS) (r : Int) : Prop := (r = -1 ∧ ∀ x ∈ xs, p x = false) ∨ ∃ (i : Nat) (x : BS), r = i ∧ xs[i]? = some x ∧ p x = true ∧ ∀ y ∈ xs.take i, p y = false

set_option maxRecDepth 100000 in
set_option maxHeartbeats 1000000 in
theorem indexF (k : FuncId) (bd caps : Array Value) (eg : ∀ args w, (callFunc k args).run Tryz.prog w = .ok (.enter k args) w) (p : BS → Bool) (pv : Value) (xs : List BS) (w : World) (hs : Strs w pv xs)
    (hp : ∀ x w1, x ∈ xs → Fr [] w w1 → Calls Tryz.prog k (bd.push (.string x) ++ caps) w1 fun e w' => e = .returned (.bool (p x)) ∧ Fr [] w1 w') :
    Calls Tryz.prog 206 #[pv, .func (.func k) bd caps] w fun e w' => ∃ r : Int, e = .returned (.int .i64 r) ∧ IdxP p xs r ∧ Fr [] w w' := by
  obtain ⟨a, c, rfl, hc', hm, hn⟩ := hs.form
  obtain ⟨n, hnx⟩ : ∃ n, n = xs.length := ⟨_, rfl⟩
  rw [← hnx] at hs hc' hn ⊢
  have Hn := Lib.hid hnx; clear hnx
  have Hp := Lib.hid hp; clear hp
  go_enter Tryz.func206, Tryz.ntmps206
  go_wp2
  go_loopw [8] (fun i wr => ∃ k : Nat, k ≤ n ∧ i = .int .i64 k ∧ (∀ x ∈ xs.take k, p x = false) ∧ Fr [] w wr) (fun i _ => n - (intOf i).toNat)
  case atStart => exact ⟨0, Nat.zero_le _, rfl, by simp, .refl w⟩
  case round =>
    obtain ⟨q, hk, rfl, hno, hf⟩ := hrel
    have hs := hs.fr hf
    have Hno := Lib.hid hno; clear hno
    by_cases hlt : q < n
    · obtain ⟨s, hx⟩ : ∃ s, xs[q]? = some s := ⟨_, List.getElem?_eq_getElem (Hn.out ▸ hlt)⟩
      obtain ⟨b', o, hidx, hcell⟩ := hs.at_ Hn.out 51 9 Tryz.underlying51 Tryz.sizeOf9 q s hx
      have Hx := Lib.hid hx; clear hx
      have R := Hp.out s wr (List.mem_of_getElem? Hx.out) hf
      cases hps : p s with
      | false =>
        rw [hps] at R
        have Hps := Lib.hid hps; clear hps
        have R := Lib.hid R
        go_wp2_with (go_at_fn k; refine R.out.mono ?_; rintro e w' ⟨rfl, hf2⟩)
        go_roundw
        case rel =>
          refine ⟨q + 1, by omega, by go_num, fun y hy => ?_, hf.then hf2⟩
          rw [take_snoc Hx.out, List.mem_append, List.mem_singleton] at hy
          rcases hy with hy | rfl
          · exact Hno.out y hy
          · exact Hps.out
        case measure => simp [intOf]; omega
      | true =>
        rw [hps] at R
        have Hps := Lib.hid hps; clear hps
        have R := Lib.hid R
        go_wp2_with (go_at_fn k; refine R.out.mono ?_; rintro e w' ⟨rfl, hf2⟩)
        go_ret
        exact ⟨q, rfl, .inr ⟨q, s, rfl, Hx.out, Hps.out, Hno.out⟩, hf.then hf2⟩
    · go_wp2
      go_ret
      refine ⟨-1, rfl, .inl ⟨rfl, ?_⟩, hf⟩
      have h1 := Hno.out
      rwa [List.take_of_length_le (by have := Hn.out; omega)] at h1
theorem idxP_any {p : BS → Bool} {xs : List BS} {r : Int} (h : IdxP p xs r) : decide (0 ≤ r) = xs.any p := by
  rcases h with ⟨rfl, h⟩ | ⟨i, x, rfl, hx, hp, _⟩
  · have : xs.any p = false := by rw [List.any_eq_false]; intro x hx; simp [h x hx]
    rw [this]; rfl
  · have : xs.any p = true := List.any_eq_true.2 ⟨x, List.mem_of_getElem? hx, hp⟩
    rw [this]; simp
set_option maxRecDepth 100000 in
theorem containsF (k : FuncId) (bd caps : Array Value) (eg : ∀ args w, (callFunc k args).run Tryz.prog w = .ok (.enter k args) w) (p : BS → Bool) (pv : Value) (xs : List BS) (w : World) (hs : Strs w pv xs)
    (hp : ∀ x w1, x ∈ xs → Fr [] w w1 → Calls Tryz.prog k (bd.push (.string x) ++ caps) w1 fun e w' => e = .returned (.bool (p x)) ∧ Fr [] w1 w') :
    Calls Tryz.prog 132 #[pv, .func (.func k) bd caps] w fun e w' => e = .returned (.bool (xs.any p)) ∧ Fr [] w w' := by
  have Hp := Lib.hid hp; clear hp
  have Hg := Lib.hid eg; clear eg
  go_enter Tryz.func132, Tryz.ntmps132
  go_wp2_with (go_at_call 206; refine (indexF k bd caps Hg.out p _ _ _ hs Hp.out).mono ?_; rintro e w1 ⟨r, rfl, hr, h1⟩)
  go_ret
  exact ⟨ret_bool (idxP_any hr), h1⟩
theorem Kp.row {T : List Nat} {w w' : World} (h : Kp T w w') {k : Nat} {o : Obj} (hb : w.heap[k]? = some o) (hk : k ∉ T) : w'.heap[k]? = some o :=
  (h.block k (row_lt hb) hk).trans hb
theorem Kp.setCells {T : List Nat} {b : Nat} (hb : b ∈ T) {w0 : World} : ∀ (vs : List Value) (o : Nat) (w : World), Kp T w0 w → Kp T w0 (w.setCells b o vs)
  | [], _, _, h => h
  | v :: vs, o, w, h => Kp.setCells hb vs (o + 1) _ (h.setCell (a := ⟨b, o, none⟩) hb v)
theorem row_setCells {b : Nat} {e : TypeId} : ∀ (vs : List Value) (o : Nat) (w : World) (cur : Array Value), w.heap[b]? = some (.cells cur e (0, 0)) →
    ∃ cur', (w.setCells b o vs).heap[b]? = some (.cells cur' e (0, 0)) ∧ cur'.size = cur.size ∧ ∀ q, q < o → cur'[q]? = cur[q]?
  | [], o, w, cur, h => ⟨cur, h, rfl, fun _ _ => rfl⟩
  | v :: vs, o, w, cur, h => by
    have h1 : (w.setCell ⟨b, o, none⟩ v).heap[b]? = some (.cells (cur.setIfInBounds o v) e (0, 0)) := by simp [World.setCell, Array.getElem?_modify, h]
    obtain ⟨cur', h2, h3, h4⟩ := row_setCells vs (o + 1) _ _ h1
    refine ⟨cur', h2, by simpa using h3, fun q hq => ?_⟩
    rw [h4 q (by omega), Array.getElem?_setIfInBounds_ne (by omega)]

/-- What the row holds while it is gone through: what is kept of the first j, at its head; from j on what there was. -/
structure DelAt (p : BS → Bool) (xs : List BS) (i j cap : Nat) (cur : Array Value) : Prop where
  len : i = ((xs.take j).filter fun x => !p x).length
  lt : i < j
  size : cur.size = cap
  low : ∀ (q : Nat) (x : BS), ((xs.take j).filter fun x => !p x)[q]? = some x → cur[q]? = some (Value.string x)
  high : ∀ (q : Nat) (x : BS), j ≤ q → xs[q]? = some x → cur[q]? = some (Value.string x)
theorem DelAt.skip {p : BS → Bool} {xs : List BS} {i j cap : Nat} {cur : Array Value} {x : BS} (h : DelAt p xs i j cap cur) (hx : xs[j]? = some x) (hp : p x = true) : DelAt p xs i (j + 1) cap cur := by
  have e : (xs.take (j + 1)).filter (fun x => !p x) = (xs.take j).filter fun x => !p x := by rw [take_snoc hx, List.filter_append]; simp [hp]
  exact ⟨by rw [e]; exact h.len, by have := h.lt; omega, h.size, by rw [e]; exact h.low, fun q x hq => h.high q x (by omega)⟩
theorem DelAt.keep {p : BS → Bool} {xs : List BS} {i j cap : Nat} {cur : Array Value} {x : BS} (h : DelAt p xs i j cap cur) (hx : xs[j]? = some x) (hp : p x = false) (hj : j < cap) : DelAt p xs (i + 1) (j + 1) cap (cur.setIfInBounds i (.string x)) := by
  have e : (xs.take (j + 1)).filter (fun x => !p x) = ((xs.take j).filter fun x => !p x) ++ [x] := by rw [take_snoc hx, List.filter_append]; simp [hp]
  have hlt := h.lt
  have hs := h.size
  refine ⟨by rw [e, List.length_append, ← h.len]; rfl, by omega, by simpa using h.size, ?_, ?_⟩
  · rw [e]
    intro q y hy
    rcases Nat.lt_trichotomy q i with hq | hq | hq
    · rw [List.getElem?_append_left (by rw [← h.len]; exact hq)] at hy
      rw [Array.getElem?_setIfInBounds_ne (by omega)]
      exact h.low q y hy
    · subst hq
      rw [List.getElem?_append_right (by rw [← h.len]; exact Nat.le_refl _), ← h.len] at hy
      simp at hy; subst hy
      rw [Array.getElem?_setIfInBounds_self_of_lt (by omega)]
    · have := lt_of_getElem? hy
      rw [List.length_append, ← h.len] at this
      simp at this; omega
  · intro q y hq hy
    rw [Array.getElem?_setIfInBounds_ne (by omega)]
    exact h.high q y (by omega) hy

set_option maxRecDepth 100000 in
set_option maxHeartbeats 2000000 in
/-- What is left lies in the same row. T: blocks that may be written; the predicate is right whatever they hold. -/
theorem deleteF (k : FuncId) (bd caps : Array Value) (eg : ∀ args w, (callFunc k args).run Tryz.prog w = .ok (.enter k args) w) (p : BS → Bool) (v : Value) (xs : List BS) (base : Nat) (T : List Nat) (w : World)
    (hs : w.ownsRow base 9 1 v xs.length (xs.map .string)) (hl : xs.length ≤ 1000000) (hT : ∀ g, v.ownBlock = some g → g ∈ T)
    (hp : ∀ x w1, x ∈ xs → Kp T w w1 → Calls Tryz.prog k (bd.push (.string x) ++ caps) w1 fun e w' => e = .returned (.bool (p x)) ∧ Fr [] w1 w') :
    Calls Tryz.prog 145 #[v, .func (.func k) bd caps] w fun e w' => ∃ u, e = .returned u ∧ w'.ownsRow base 9 1 u (xs.filter fun x => !p x).length ((xs.filter fun x => !p x).map .string) ∧ (∀ g, u.ownBlock = some g → g ∈ T) ∧ Kp T w w' := by
  have hS := Strs.of_own hs (by omega)
  obtain ⟨a, c, rfl, hc', hm, hn⟩ := hS.form
  obtain ⟨n, hnx⟩ : ∃ n, n = xs.length := ⟨_, rfl⟩
  rw [← hnx] at hs hS hc' hn hl hT ⊢
  have Hn := Lib.hid hnx; clear hnx
  have Hp := Lib.hid hp; clear hp
  have Hg := Lib.hid eg; clear eg
  have HI := Lib.hid (indexF k bd caps Hg.out p _ xs w hS (fun x w1 hx hf => Hp.out x w1 hx (Kp.of_fr hf)))
  have own := Lib.hid hs
  clear hs
  go_enter Tryz.func145, Tryz.ntmps145
  go_upto_region 2 with (go_at_call 206; refine HI.out.mono ?_; rintro e w1 ⟨r, rfl, hr, h1⟩)
  rcases hr with ⟨rfl, hno⟩ | ⟨i0, x0, rfl, hx0, hp0, hbef⟩
  · have e1 : xs.filter (fun x => !p x) = xs := List.filter_eq_self.2 fun x hx => by simp [hno x hx]
    have E1 := Lib.hid e1
    have E2 := Lib.hid hno
    clear e1 hno
    go_wp2
    go_ret
    refine ⟨_, rfl, ?_, hT, Kp.of_fr h1⟩
    rw [E1.out, ← Hn.out]
    exact own_fr own.out h1
  · have hi0 : i0 < n := by have := lt_of_getElem? hx0; rw [Hn.out]; exact this
    rcases (own_fr own.out h1).2 with ⟨_, h0⟩ | ⟨g, cap, cur, hv, hb, hg, r1, r2, r3, r4⟩
    · omega
    · injection hv with hv1 hv2 hv3
      subst hv1 hv3
      have hgT : g ∈ T := hT g rfl
      have hst : DelAt p xs i0 (i0 + 1) c cur := by
        have e1 : (xs.take (i0 + 1)).filter (fun x => !p x) = xs.take i0 := by
          rw [take_snoc hx0, List.filter_append, List.filter_eq_self.2 (fun x hx => by simp [hbef x hx])]; simp [hp0]
        have hcell : ∀ (q : Nat) (x : BS), xs[q]? = some x → cur[q]? = some (Value.string x) := by
          intro q x hx
          have h2 : (cur.toList.take (n * 1))[q]? = (xs.map Value.string)[q]? := by rw [r4]
          rw [List.getElem?_map, hx, List.getElem?_take_of_lt (by have := lt_of_getElem? hx; have := Hn.out; omega), Array.getElem?_toList] at h2
          simpa using h2
        exact ⟨by rw [e1, List.length_take]; have := Hn.out; omega, by omega, by omega, by rw [e1]; intro q x hq; exact hcell q x (by rw [← hq, List.getElem?_take_of_lt (by have := lt_of_getElem? hq; simp at this; omega)]), fun q x _ hx => hcell q x hx⟩
      have K1 := Kp.of_fr (T := T) h1
      have hne : ((i0 : Int) == -1) = false := beq_eq_false_iff_ne.2 (by omega)
      have Hst := Lib.hid hst
      have hE : ∀ W, (sizeOf 9).run Tryz.prog W = .ok 1 W := Tryz.sizeOf9
      have he : Tryz.prog.elem 51 = 9 := by unfold Program.elem; rw [Tryz.underlying51]
      clear hst hx0 hp0 hbef r4 hS HI
      go_wp2
      go_loopw [5, 6] (fun ii jj wr => ∃ (i j : Nat) (cu : Array Value), ii = .int .i64 i ∧ jj = .int .i64 j ∧ j ≤ n ∧ wr.heap[g]? = some (.cells cu 9 (0, 0)) ∧ Hid (DelAt p xs i j c cu) ∧ Kp T w wr) (fun _ jj _ => n - (intOf jj).toNat)
      case atStart => exact ⟨i0, i0 + 1, cur, rfl, by go_num, by omega, hg, Hst, K1⟩
      case round =>
        obtain ⟨i, j, cu, rfl, rfl, hj, hg, Hd, hK⟩ := hrel
        have hij := Hd.out.lt
        have hcs := Hd.out.size
        by_cases hlt : j < n
        · obtain ⟨x, hx⟩ : ∃ s, xs[j]? = some s := ⟨_, List.getElem?_eq_getElem (Hn.out ▸ hlt)⟩
          have hcellj : wr.cell? ⟨g, j, none⟩ = some (.string x) := by simp only [World.cell?, hg, Option.isSome_none, Bool.false_eq_true, if_false]; exact Hd.out.high j x (Nat.le_refl _) hx
          have hidxj : ∀ W, (Instr.indexAt 51 (.slice (some ⟨g, 0, none⟩) n c) (.int .i64 (j : Int))).run Tryz.prog W = .ok (.pointer (some ⟨g, j, none⟩)) W := fun W => by
            rw [run_indexAt_slice (P := Tryz.prog) (h := by rw [Tryz.underlying51, he]), if_pos ⟨by omega, by omega⟩]
            simp [he, hE, Result.andThen, Addr.add_lit]
          have hidxi : ∀ W, (Instr.indexAt 51 (.slice (some ⟨g, 0, none⟩) n c) (.int .i64 (i : Int))).run Tryz.prog W = .ok (.pointer (some ⟨g, i, none⟩)) W := fun W => by
            rw [run_indexAt_slice (P := Tryz.prog) (h := by rw [Tryz.underlying51, he]), if_pos ⟨by omega, by omega⟩]
            simp [he, hE, Result.andThen, Addr.add_lit]
          have R := Hp.out x wr (List.mem_of_getElem? hx) hK
          have eg := Hg.out
          have Hx := Lib.hid hx; clear hx
          cases hps : p x with
          | true =>
            rw [hps] at R
            have Hps := Lib.hid hps
            have R := Lib.hid R
            clear hps
            go_wp2_with (go_at_fn k; refine R.out.mono ?_; rintro e w' ⟨rfl, hf2⟩)
            go_roundw
            case rel => exact ⟨i, j + 1, cu, rfl, by go_num, by omega, hf2.row hg, Lib.hid (Hd.out.skip Hx.out Hps.out), hK.trans (Kp.of_fr hf2)⟩
            case measure => simp [intOf]; omega
          | false =>
            rw [hps] at R
            have Hps := Lib.hid hps
            have R := Lib.hid R
            clear hps
            go_upto_region 9 with (go_at_fn k; refine R.out.mono ?_; rintro e w' ⟨rfl, hf2⟩)
            have hg2 := hf2.row hg
            obtain ⟨z, hz⟩ : ∃ z, cu[i]? = some z := ⟨_, Array.getElem?_eq_getElem (by omega)⟩
            have hci : w'.cell? ⟨g, i, none⟩ = some z := by simp only [World.cell?, hg2, Option.isSome_none, Bool.false_eq_true, if_false]; exact hz
            have hzi : w'.frozen? ⟨g, i, none⟩ = false := by simp [World.frozen?, hg2]
            have hK2 := (hK.trans (Kp.of_fr hf2)).setCell (a := ⟨g, i, none⟩) hgT (.string x)
            have hg3 : (w'.setCell ⟨g, i, none⟩ (.string x)).heap[g]? = some (.cells (cu.setIfInBounds i (.string x)) 9 (0, 0)) := by simp [World.setCell, Array.getElem?_modify, hg2]
            clear hz
            go_wp2
            go_roundw
            case rel => exact ⟨i + 1, j + 1, _, by go_num, by go_num, by omega, hg3, Lib.hid (Hd.out.keep Hx.out Hps.out (by omega)), hK2⟩
            case measure => simp [intOf]; omega
        · have hjn : j = n := by omega
          have hsl : ∀ W, (Instr.slice 51 (.slice (some ⟨g, 0, none⟩) n c) (some (.int .i64 (i : Int))) none none).run Tryz.prog W = .ok (.slice (some ⟨g, i, none⟩) (n - i) (c - i)) W := fun W => by
            have := run_slice_l (P := Tryz.prog) W 51 (some ⟨g, 0, none⟩) n c (by rw [Tryz.underlying51, he]) .i64 i (by omega) (by omega)
            rw [this]
            simp [he, hE, Result.andThen, sliced, show ¬ c = i by omega, Addr.add_lit]
          have hsl2 : ∀ W, (Instr.slice 51 (.slice (some ⟨g, 0, none⟩) n c) none (some (.int .i64 (i : Int))) none).run Tryz.prog W = .ok (.slice (some ⟨g, 0, none⟩) i c) W := fun W => by
            have := run_slice_h (P := Tryz.prog) W 51 (some ⟨g, 0, none⟩) n c (by rw [Tryz.underlying51, he]) .i64 i (by omega) (by omega)
            rw [this]
            simp [he, hE, Result.andThen, sliced, Addr.add]
          have hcl : ∀ ty, (Builtin.clear_ #[51] ty #[.slice (some ⟨g, i, none⟩) (n - i) (c - i)]).run Tryz.prog wr = .ok (.tuple #[]) (wr.setCells g i (List.replicate (n - i) (.string ⟨#[]⟩))) := fun ty =>
            Lib.run_clear_slice wr _ _ ty _ Tryz.underlying51 Tryz.zeroValue9 rfl rfl g i (n - i) (c - i) (by omega) (fun q hq => by simp only [World.cell?, hg, Option.isSome_none, Bool.false_eq_true, if_false]; rw [Array.getElem?_eq_getElem (by omega)]; rfl) (fun q hq => by simp [World.frozen?, hg])
          obtain ⟨cu', h2, h3, h4⟩ := row_setCells (List.replicate (n - i) (Value.string ⟨#[]⟩)) i wr cu hg
          have hK2 := hK.setCells hgT (List.replicate (n - i) (Value.string ⟨#[]⟩)) i
          go_wp2
          go_ret
          have e1 : xs.take j = xs := List.take_of_length_le (by have := Hn.out; omega)
          have e2 := Hd.out.len
          have e3 := Hd.out.low
          rw [e1] at e2 e3
          refine ⟨_, rfl, ⟨by simp, .inr ⟨g, c, cu', by rw [← e2]; rfl, hb, h2, by omega, hm, by omega, ?_⟩⟩, fun q hq => by simp [Value.ownBlock] at hq; subst hq; exact hgT, hK2⟩
          apply List.ext_getElem?
          intro q
          rw [Nat.mul_one, ← e2]
          by_cases hq : q < i
          · rw [List.getElem?_take_of_lt hq, Array.getElem?_toList, h4 q hq, List.getElem?_map]
            obtain ⟨y, hy⟩ : ∃ y, (xs.filter fun x => !p x)[q]? = some y := ⟨_, List.getElem?_eq_getElem (by omega)⟩
            rw [hy, e3 q y hy]; rfl
          · rw [List.getElem?_eq_none (by simp; omega), List.getElem?_eq_none (by simp; omega)]
end Go.Proofs.YtppgjglfoibfcaaGreat
