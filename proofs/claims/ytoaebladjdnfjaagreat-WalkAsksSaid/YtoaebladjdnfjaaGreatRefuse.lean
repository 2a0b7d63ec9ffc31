import Derived.Test.YtoaebladjdnfjaaGreatDag
import Derived.Test.YtoaebladjdnfjaaGreatIds
set_option linter.unusedSimpArgs false
set_option linter.unusedVariables false
/-
  What Add refuses.
-/
namespace Go.Proofs.YtoaebladjdnfjaaGreat
open Go.RowKit

set_option maxRecDepth 100000 in
theorem refuse61 (v : Value) (x : BS) (g : G) (b : Nat) (w : World) (hd : DagR w v g) (hc : w.cell? ⟨b, 0, none⟩ = some v) :
    Calls Tryz.prog 88 #[.string x, .pointer (some ⟨b, 0, none⟩)] w fun e w' => e = .returned (.bool (!decide (x ∈ ids g))) ∧ Fr [] w w' := by
  go_enter Tryz.func88, Tryz.ntmps88
  go_wp2_with (go_at_call 41; refine (has18 _ _ _ _ hd).mono ?_; rintro e w1 ⟨rfl, h1⟩)
  go_ret
  exact ⟨rfl, h1⟩

set_option maxRecDepth 100000 in
set_option maxHeartbeats 1000000 in
theorem index75 (v pv : Value) (ps : List BS) (g : G) (b : Nat) (w : World) (hd : DagR w v g) (hc : w.cell? ⟨b, 0, none⟩ = some v) (hp : Strs w pv ps) :
    Calls Tryz.prog 74 #[pv, .func (.func 88) #[] #[.pointer (some ⟨b, 0, none⟩)]] w fun e w' => ∃ r : Int, e = .returned (.int .i64 r) ∧ (decide (0 ≤ r) = decide (∃ p ∈ ps, p ∉ ids g)) ∧ Fr [] w w' := by
  obtain ⟨a, c, rfl, hc', hm, hn⟩ := hp.form
  obtain ⟨n, hnx⟩ : ∃ n, n = ps.length := ⟨_, rfl⟩
  rw [← hnx] at hp hc' hn ⊢
  have Hn := Lib.hid hnx; clear hnx
  go_enter Tryz.func74, Tryz.ntmps74
  go_wp2
  go_loopw [8] (fun i wr => ∃ k : Nat, k ≤ n ∧ i = .int .i64 k ∧ (∀ p ∈ ps.take k, p ∈ ids g) ∧ Fr [] w wr) (fun i _ => n - (intOf i).toNat)
  case atStart => exact ⟨0, Nat.zero_le _, rfl, by simp, .refl w⟩
  case round =>
    obtain ⟨k, hk, rfl, hno, hf⟩ := hrel
    have hp := hp.fr hf
    have hd := hd.fr hf
    have hc := hf.cell hc
    have Hno := Lib.hid hno; clear hno
    by_cases hlt : k < n
    · obtain ⟨s, hx⟩ : ∃ s, ps[k]? = some s := ⟨_, List.getElem?_eq_getElem (Hn.out ▸ hlt)⟩
      obtain ⟨b', o, hidx, hcell⟩ := hp.at_ Hn.out 23 9 Tryz.underlying23 Tryz.sizeOf9 k s hx
      have Hx := Lib.hid hx; clear hx
      have R := refuse61 v s g b wr hd hc
      by_cases hm : s ∈ ids g
      · rw [decide_eq_true hm] at R
        have Hm := Lib.hid hm; clear hm
        simp only [Bool.not_true] at R
        go_wp2_with (go_at_call 88; refine R.mono ?_; rintro e w' ⟨rfl, hf2⟩)
        go_roundw
        case rel =>
          refine ⟨k + 1, by omega, by go_num, fun p hp => ?_, hf.then hf2⟩
          rw [take_snoc Hx.out, List.mem_append] at hp
          rcases hp with hp | hp
          · exact Hno.out p hp
          · rw [List.mem_singleton.1 hp]; exact Hm.out
        case measure => simp [intOf]; omega
      · rw [decide_eq_false hm] at R
        have Hm := Lib.hid hm; clear hm
        simp only [Bool.not_false] at R
        go_wp2_with (go_at_call 88; refine R.mono ?_; rintro e w' ⟨rfl, hf2⟩)
        go_ret
        refine ⟨k, rfl, ?_, hf.then hf2⟩
        rw [decide_eq_true (show (0 : Int) ≤ (k : Int) by omega), decide_eq_true ⟨s, List.mem_of_getElem? Hx.out, Hm.out⟩]
    · go_wp2
      go_ret
      refine ⟨-1, rfl, ?_, hf⟩
      have h1 := Hno.out
      rw [List.take_of_length_le (by have := Hn.out; omega)] at h1
      rw [decide_eq_false (show ¬ (0 : Int) ≤ -1 by omega), decide_eq_false (fun ⟨p, hp, hq⟩ => hq (h1 p hp))]

set_option maxRecDepth 100000 in
theorem contains60 (v pv : Value) (ps : List BS) (g : G) (b : Nat) (w : World) (hd : DagR w v g) (hc : w.cell? ⟨b, 0, none⟩ = some v) (hp : Strs w pv ps) :
    Calls Tryz.prog 48 #[pv, .func (.func 88) #[] #[.pointer (some ⟨b, 0, none⟩)]] w fun e w' => e = .returned (.bool (decide (∃ p ∈ ps, p ∉ ids g))) ∧ Fr [] w w' := by
  go_enter Tryz.func48, Tryz.ntmps48
  go_wp2_with (go_at_call 74; refine (index75 _ _ _ _ _ _ hd hc hp).mono ?_; rintro e w1 ⟨r, rfl, hr, h1⟩)
  go_ret
  exact ⟨rfl, h1⟩

set_option maxRecDepth 100000 in
set_option maxHeartbeats 2000000 in
theorem refuse37 (mN mH : Nat) (v pv : Value) (id : BS) (ps : List BS) (g : G) (w : World) (hd : DagAt w v mN mH g) (hp : Strs w pv ps) (hl : g.length ≤ 1000000) :
    Calls Tryz.prog 66 #[v, .string id, pv] w fun e w' => e = .returned (.int .i64 (addE g id ps)) ∧ Fr [] w w' := by
  obtain ⟨bD, lN, lH, rfl, hi⟩ := hd
  have hd0 : DagR w (.pointer (some ⟨bD, 0, none⟩)) g := .inr ⟨mN, mH, bD, lN, lH, rfl, hi⟩
  clear hi
  have f0 := (Fr.refl w).alloc (.cells #[.pointer (some ⟨bD, 0, none⟩)] 26)
  have hd1 := hd0.fr f0
  have hp1 := hp.fr f0
  have hc1 : (w.alloc (.cells #[.pointer (some ⟨bD, 0, none⟩)] 26)).cell? ⟨w.heap.size, 0, none⟩ = some (.pointer (some ⟨bD, 0, none⟩)) := by simp
  obtain ⟨n, hn⟩ : ∃ n, n = g.length := ⟨_, rfl⟩
  rw [← hn] at hl
  have Hn := Lib.hid hn; clear hn
  go_enter Tryz.func66, Tryz.ntmps66
  go_upto_region 1 with fail
  generalize w.alloc (.cells #[.pointer (some ⟨bD, 0, none⟩)] 26) = w0 at f0 hd1 hp1 hc1 ⊢
  have R1 := right58 id w0
  have R2 := rising59 _ ps w0 hp1
  by_cases h1 : id.size = 32
  · rw [decide_eq_true h1] at R1
    have H1 := Lib.hid h1; clear h1
    by_cases h2 : Rising ps
    · rw [decide_eq_true h2] at R2
      have H2 := Lib.hid h2; clear h2
      go_upto_region 5 with (first
        | (go_at_call 76; refine R1.mono ?_; rintro e w' ⟨rfl, rfl⟩)
        | (go_at_call 50; refine R2.mono ?_; rintro e w1 ⟨rfl, hq⟩; have f1 := f0.then hq.fr; have hd2 := hd1.fr hq.fr; have hp2 := hp1.fr hq.fr; have hc2 := hq.fr.cell hc1; clear hd1 hp1 hc1; have R3 := has18 _ id g w1 hd2))
      by_cases h3 : id ∈ ids g
      · rw [decide_eq_true h3] at R3
        have H3 := Lib.hid h3; clear h3
        go_wp2_with (go_at_call 41; refine R3.mono ?_; rintro e w2 ⟨rfl, hf2⟩)
        go_ret
        exact ⟨by rw [addE_twice ⟨H1.out, H2.out⟩ H3.out]; rfl, f1.then hf2⟩
      · rw [decide_eq_false h3] at R3
        have H3 := Lib.hid h3; clear h3
        go_upto_region 7 with (go_at_call 41; refine R3.mono ?_; rintro e w2 ⟨rfl, hf2⟩; have hd3 := hd2.fr hf2; have hp3 := hp2.fr hf2; have hc3 := hf2.cell hc2; have R4 := contains60 _ _ ps g _ w2 hd3 hc3 hp3)
        by_cases h4 : ∃ p ∈ ps, p ∉ ids g
        · rw [decide_eq_true h4] at R4
          have H4 := Lib.hid h4; clear h4
          go_wp2_with (go_at_call 48; refine R4.mono ?_; rintro e w3 ⟨rfl, hf3⟩)
          go_ret
          exact ⟨by rw [addE_pred ⟨H1.out, H2.out⟩ H3.out H4.out]; rfl, (f1.then hf2).then hf3⟩
        · rw [decide_eq_false h4] at R4
          have H4 := Lib.hid h4; clear h4
          go_upto_region 9 with (go_at_call 48; refine R4.mono ?_; rintro e w3 ⟨rfl, hf3⟩; have hd4 := hd3.fr hf3; have hc4 := hf3.cell hc3; have R5 := len30 _ g w3 hd4; rw [← Hn.out] at R5)
          by_cases h5 : 4096 ≤ n
          · go_wp2_with (go_at_call 89; refine R5.mono ?_; rintro e w4 ⟨rfl, rfl⟩)
            go_ret
            exact ⟨by rw [addE_full ⟨H1.out, H2.out⟩ H3.out H4.out (by rw [← Hn.out]; exact h5)]; rfl, (f1.then hf2).then hf3⟩
          · go_wp2_with (go_at_call 89; refine R5.mono ?_; rintro e w4 ⟨rfl, rfl⟩)
            go_ret
            exact ⟨by rw [addE_ok ⟨H1.out, H2.out⟩ H3.out H4.out (by rw [← Hn.out]; exact h5)]; rfl, (f1.then hf2).then hf3⟩
    · rw [decide_eq_false h2] at R2
      have H2 := Lib.hid h2; clear h2
      go_wp2_with (first
        | (go_at_call 76; refine R1.mono ?_; rintro e w' ⟨rfl, rfl⟩)
        | (go_at_call 50; refine R2.mono ?_; rintro e w1 ⟨rfl, hq⟩))
      go_ret
      exact ⟨by rw [addE_arg (fun h => H2.out h.2)]; rfl, f0.then hq.fr⟩
  · rw [decide_eq_false h1] at R1
    have H1 := Lib.hid h1; clear h1
    go_wp2_with (go_at_call 76; refine R1.mono ?_; rintro e w' ⟨rfl, rfl⟩)
    go_ret
    exact ⟨by rw [addE_arg (fun h => H1.out h.1)]; rfl, f0⟩
end Go.Proofs.YtoaebladjdnfjaaGreat
