import Derived.Test.YtppgjglfoibfcaaGreatFuncKWt
import Derived.Test.YtppgjglfoibfcaaGreatDelK
import Derived.Test.YtppgjglfoibfcaaGreatDelC
import Derived.Test.YtppgjglfoibfcaaGreatFunc
set_option linter.unusedSimpArgs false
set_option linter.unusedVariables false
/-
  slices.DeleteFunc on []values.write.
-/
namespace Go.Proofs.YtppgjglfoibfcaaGreat
open Go.RowKit
set_option maxRecDepth 100000 in
set_option maxHeartbeats 2000000 in
/-- What is left lies in the same row. T: blocks that may be written; the predicate is right whatever they hold. -/
theorem deleteWt (k : FuncId) (bd caps : Array Value) (eg : ∀ args w, (callFunc k args).run Tryz.prog w = .ok (.enter k args) w) (p : Wr → Bool) (v : Value) (xs : List Wr) (base : Nat) (T : List Nat) (w : World)
    (hs : w.ownsRow base 132 2 v xs.length (xs.flatMap encWt)) (hl : xs.length ≤ 1000000) (hT : ∀ g, v.ownBlock = some g → g ∈ T)
    (hp : ∀ x w1, x ∈ xs → Kp T w w1 → Calls Tryz.prog k (bd.push (agWt x) ++ caps) w1 fun e w' => e = .returned (.bool (p x)) ∧ Fr [] w1 w') :
    Calls Tryz.prog 73 #[v, .func (.func k) bd caps] w fun e w' => ∃ u, e = .returned u ∧ w'.ownsRow base 132 2 u (xs.filter fun x => !p x).length ((xs.filter fun x => !p x).flatMap encWt) ∧ (∀ g, u.ownBlock = some g → g ∈ T) ∧ Kp T w w' := by
  have hS : Recs 2 encWt w v xs := Recs.of_own hs rfl (by omega)
  obtain ⟨a, c, rfl, hc', hm, hn⟩ := hS.form
  obtain ⟨n, hnx⟩ : ∃ n, n = xs.length := ⟨_, rfl⟩
  rw [← hnx] at hs hS hc' hn hl hT ⊢
  have Hn := Lib.hid hnx; clear hnx
  have Hp := Lib.hid hp; clear hp
  have Hg := Lib.hid eg; clear eg
  have HI := Lib.hid (indexWt k bd caps Hg.out p _ xs w hS (fun x w1 hx hf => Hp.out x w1 hx (Kp.of_fr hf)))
  have own := Lib.hid hs
  clear hs
  go_enter Tryz.func73, Tryz.ntmps73
  go_upto_region 2 with (go_at_call 157; refine HI.out.mono ?_; rintro e w1 ⟨r, rfl, hr, h1⟩)
  rcases hr with ⟨rfl, hno⟩ | ⟨i0, x0, rfl, hx0, hp0, hbef⟩
  · have e1 : xs.filter (fun x => !p x) = xs := List.filter_eq_self.2 fun x hx => by simp [hno x hx]
    have E1 := Lib.hid e1
    have E2 := Lib.hid hno
    clear e1 hno
    go_wp2
    go_ret
    refine ⟨_, rfl, ?_, hT, Kp.of_fr h1⟩
    rw [E1.out, ← Hn.out]
    exact own_fr own.out h1
  · have hi0 : i0 < n := by have := lt_of_getElem? hx0; rw [Hn.out]; exact this
    rcases (own_fr own.out h1).2 with ⟨_, h0⟩ | ⟨g, cap, cur, hv, hb, hg, r1, r2, r3, r4⟩
    · omega
    · injection hv with hv1 hv2 hv3
      subst hv1 hv3
      have hgT : g ∈ T := hT g rfl
      have hst : DelAtK 2 encWt p xs i0 (i0 + 1) c cur := DelAtK.start lenWt Hn.out hx0 hp0 hbef r3 r4
      have K1 := Kp.of_fr (T := T) h1
      have hne : ((i0 : Int) == -1) = false := beq_eq_false_iff_ne.2 (by omega)
      have Hst := Lib.hid hst
      have hE : ∀ W, (sizeOf 132).run Tryz.prog W = .ok 2 W := Tryz.sizeOf132
      have he : Tryz.prog.elem 134 = 132 := by unfold Program.elem; rw [Tryz.underlying134]
      clear hst hx0 hp0 hbef r4 hS HI
      go_wp2
      go_loopw [5, 6] (fun ii jj wr => ∃ (i j : Nat) (cu : Array Value), ii = .int .i64 i ∧ jj = .int .i64 j ∧ j ≤ n ∧ wr.heap[g]? = some (.cells cu 132 (0, 0)) ∧ Hid (DelAtK 2 encWt p xs i j c cu) ∧ Kp T w wr) (fun _ jj _ => n - (intOf jj).toNat)
      case atStart => exact ⟨i0, i0 + 1, cur, rfl, by go_num, by omega, hg, Hst, K1⟩
      case round =>
        obtain ⟨i, j, cu, rfl, rfl, hj, hg, Hd, hK⟩ := hrel
        have hij := Hd.out.lt
        have hcs := Hd.out.size
        by_cases hlt : j < n
        · obtain ⟨x, hx⟩ : ∃ s, xs[j]? = some s := ⟨_, List.getElem?_eq_getElem (Hn.out ▸ hlt)⟩
          have hcell : ∀ t y, (encWt x)[t]? = some y → wr.cell? ⟨g, j * 2 + t, none⟩ = some y := fun t y hy => rowAt hg (Hd.out.high j x (Nat.le_refl _) hx t y hy)
          obtain ⟨c1, c2⟩ := cellsWt hcell
          have hidxj : ∀ W, (Instr.indexAt 134 (.slice (some ⟨g, 0, none⟩) n c) (.int .i64 (j : Int))).run Tryz.prog W = .ok (.pointer (some ⟨g, j * 2, none⟩)) W := fun W => by
            rw [run_indexAt_slice (P := Tryz.prog) (h := by rw [Tryz.underlying134, he]), if_pos ⟨by omega, by omega⟩]
            simp [he, hE, Result.andThen, Addr.add_lit]
          have hidxi : ∀ W, (Instr.indexAt 134 (.slice (some ⟨g, 0, none⟩) n c) (.int .i64 (i : Int))).run Tryz.prog W = .ok (.pointer (some ⟨g, i * 2, none⟩)) W := fun W => by
            rw [run_indexAt_slice (P := Tryz.prog) (h := by rw [Tryz.underlying134, he]), if_pos ⟨by omega, by omega⟩]
            simp [he, hE, Result.andThen, Addr.add_lit]
          have fa := (Fr.refl wr).alloc (.cells #[.string x.text, .string x.id] 132)
          have R := Hp.out x _ (List.mem_of_getElem? hx) (hK.trans (Kp.of_fr fa))
          have eg := Hg.out
          have Hx := Lib.hid hx; clear hx hcell
          cases hps : p x with
          | true =>
            rw [hps] at R
            have Hps := Lib.hid hps
            have R := Lib.hid R
            clear hps
            go_wp2_with (go_at_fn k; refine R.out.mono ?_; rintro e w' ⟨rfl, hf2⟩)
            go_roundw
            case rel => exact ⟨i, j + 1, cu, rfl, by go_num, by omega, (fa.then hf2).row hg, Lib.hid (Hd.out.skip Hx.out Hps.out), hK.trans (Kp.of_fr (fa.then hf2))⟩
            case measure => simp [intOf]; omega
          | false =>
            rw [hps] at R
            have Hps := Lib.hid hps
            have R := Lib.hid R
            clear hps
            have hnew := rowNew wr (.cells #[.string x.text, .string x.id] 132)
            obtain ⟨N0, hN0⟩ : ∃ N, N = wr.heap.size := ⟨_, rfl⟩
            have HN0 := Lib.hid hN0
            go_upto_region 9 with (go_at_fn k; refine R.out.mono ?_; rintro e w' ⟨rfl, hf2⟩)
            have hg2 := (fa.then hf2).row hg
            have hnew2 := hf2.row hnew
            rw [← hN0] at hnew2 ⊢
            clear hN0
            have b1_ := rowAt hnew2 (j := 0) rfl
            have b2_ := rowAt hnew2 (j := 1) rfl
            have hzi := rowFz hg2 (i * 2)
            have hzi1 := rowFz hg2 (i * 2 + 1)
            obtain ⟨z0, hz0⟩ : ∃ z, cu[i * 2]? = some z := ⟨_, Array.getElem?_eq_getElem (by omega)⟩
            obtain ⟨z1, hz1⟩ : ∃ z, cu[i * 2 + 1]? = some z := ⟨_, Array.getElem?_eq_getElem (by omega)⟩
            have hci := rowAt hg2 hz0
            have hci1 := rowAt hg2 hz1
            clear hz0 hz1
            have hK2 := (((hK.trans (Kp.of_fr (fa.then hf2))).setCell (a := ⟨g, i * 2, none⟩) hgT (.string x.text)).setCell (a := ⟨g, i * 2 + 1, none⟩) hgT (.string x.id))
            have hg3 := rowSet (rowSet hg2 (i * 2) (.string x.text)) (i * 2 + 1) (.string x.id)
            have hq1 : ((cu.setIfInBounds (i * 2) (.string x.text)).setIfInBounds (i * 2 + 1) (.string x.id)).size = cu.size := by simp
            have hq2 : ∀ t y, (encWt x)[t]? = some y → ((cu.setIfInBounds (i * 2) (.string x.text)).setIfInBounds (i * 2 + 1) (.string x.id))[i * 2 + t]? = some y := fun t y hy => by
              match t, hy, lt_of_getElem? hy with
              | 0, hy, _ => simp [encWt] at hy; subst hy; show ((cu.setIfInBounds (i * 2) (Value.string x.text)).setIfInBounds (i * 2 + 1) (.string x.id))[i * 2]? = _; rw [Array.getElem?_setIfInBounds_ne (by omega), Array.getElem?_setIfInBounds_self_of_lt (by omega)]
              | 1, hy, _ => simp [encWt] at hy; subst hy; rw [Array.getElem?_setIfInBounds_self_of_lt (by simp; omega)]
              | t + 2, _, h => simp [encWt] at h; omega
            have hq3 : ∀ r, (r < i * 2 ∨ i * 2 + 2 ≤ r) → ((cu.setIfInBounds (i * 2) (.string x.text)).setIfInBounds (i * 2 + 1) (.string x.id))[r]? = cu[r]? := fun r hr => by
              rw [Array.getElem?_setIfInBounds_ne (by omega), Array.getElem?_setIfInBounds_ne (by omega)]
            have hq1 := Lib.hid hq1
            have hq2 := Lib.hid hq2
            have hq3 := Lib.hid hq3
            go_wp2
            go_roundw
            case rel => exact ⟨i + 1, j + 1, _, by go_num, by go_num, by omega, hg3, Lib.hid (Hd.out.keep lenWt Hx.out Hps.out (by omega) hq1.out hq2.out hq3.out), hK2⟩
            case measure => simp [intOf]; omega
        · have hjn : j = n := by omega
          have hsl : ∀ W, (Instr.slice 134 (.slice (some ⟨g, 0, none⟩) n c) (some (.int .i64 (i : Int))) none none).run Tryz.prog W = .ok (.slice (some ⟨g, i * 2, none⟩) (n - i) (c - i)) W := fun W => by
            have := run_slice_l (P := Tryz.prog) W 134 (some ⟨g, 0, none⟩) n c (by rw [Tryz.underlying134, he]) .i64 i (by omega) (by omega)
            rw [this]
            simp [he, hE, Result.andThen, sliced, show ¬ c = i by omega, Addr.add_lit]
          have hsl2 : ∀ W, (Instr.slice 134 (.slice (some ⟨g, 0, none⟩) n c) none (some (.int .i64 (i : Int))) none).run Tryz.prog W = .ok (.slice (some ⟨g, 0, none⟩) i c) W := fun W => by
            have := run_slice_h (P := Tryz.prog) W 134 (some ⟨g, 0, none⟩) n c (by rw [Tryz.underlying134, he]) .i64 i (by omega) (by omega)
            rw [this]
            simp [he, hE, Result.andThen, sliced, Addr.add]
          have hmul : n * 2 ≤ c * 2 := Nat.mul_le_mul_right _ (by omega)
          obtain ⟨ZS, hZS, hZl⟩ : ∃ ZS : List Value, ZS = (Builtin.zeroCells (Value.agg [.string ⟨#[]⟩, .string ⟨#[]⟩].toArray).cells (n - i)).toList ∧ ZS.length = (n - i) * 2 := ⟨_, rfl, by simp [Builtin.zeroCells, Value.cells]⟩
          have hcl : ∀ ty, (Builtin.clear_ #[134] ty #[.slice (some ⟨g, i * 2, none⟩) (n - i) (c - i)]).run Tryz.prog wr = .ok (.tuple #[]) (wr.setCells g (i * 2) ZS) := fun ty => by
            rw [hZS]
            refine run_clear_sliceK wr _ _ ty (.agg [.string ⟨#[]⟩, .string ⟨#[]⟩].toArray) Tryz.underlying134 Tryz.zeroValue132 (by simp [Value.cells, Value.oneCell']) g (i * 2) (n - i) (c - i) (by omega) (fun q hq => ?_) (fun q hq => by simp [World.frozen?, hg])
            rw [← hZS, hZl] at hq
            rw [rowAt hg (Array.getElem?_eq_getElem (by omega))]; rfl
          obtain ⟨cu', h2, h3, h4⟩ := row_setCells ZS (i * 2) wr cu hg
          have hK2 := hK.setCells hgT ZS (i * 2)
          clear hZS
          go_wp2
          go_ret
          have e2 := Hd.out.len
          rw [List.take_of_length_le (by have := Hn.out; omega)] at e2
          refine ⟨_, rfl, ⟨flat_len lenWt _, .inr ⟨g, c, cu', by rw [← e2]; rfl, hb, h2, by omega, hm, by omega, ?_⟩⟩, fun q hq => by simp [Value.ownBlock] at hq; subst hq; exact hgT, hK2⟩
          rw [← e2]
          exact Hd.out.fin lenWt (by have := Hn.out; omega) h3 (fun q hq => h4 q hq)
end Go.Proofs.YtppgjglfoibfcaaGreat
