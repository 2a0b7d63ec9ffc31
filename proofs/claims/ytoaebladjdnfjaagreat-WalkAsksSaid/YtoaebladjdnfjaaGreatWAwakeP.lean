import Derived.Test.YtoaebladjdnfjaaGreatSpread
import Derived.Test.YtoaebladjdnfjaaGreatAwakePure
import Derived.Test.YtoaebladjdnfjaaGreatLAsks
set_option linter.unusedSimpArgs false
set_option linter.unusedVariables false
/-
  Chapter 18's example, plain; the law's few.
-/
namespace Go.Proofs.YtoaebladjdnfjaaGreat
open Go.RowKit

def kJ : BS := idOf 9
def v2 : G := [⟨kA, []⟩, ⟨kB, [kA]⟩]
def v3 : G := [⟨kA, []⟩, ⟨kB, [kA]⟩, ⟨kC, [kA]⟩]
theorem p2 : addE g1 kB [kA] = 0 := by decide +kernel
theorem q2 : addG g1 kB [kA] = v2 := addG_ok p2
theorem p3 : addE v2 kC [kA] = 0 := by decide +kernel
theorem q3 : addG v2 kC [kA] = v3 := addG_ok p3
theorem w2v : Wf v2 := q2 ▸ wf_addG w1g
theorem w3v : Wf v3 := q3 ▸ wf_addG w2v
theorem e1 : commL v3 kB kC = [kA] := by decide +kernel
theorem e2 : betwL v3 [kB] [kC] = [kC] := by decide +kernel
theorem e3 : lackL v3 [kA, kX, kJ] = [kJ] := by decide +kernel
theorem e4 : topsL v3 [kC, kA] = [kC] := by decide +kernel
theorem e5 : closedB v3 [kA, kB] = true := by decide +kernel
theorem e6 : closedB v3 [kB] = false := by decide +kernel
theorem e7 : spreadL v3 [kA] = [kA, kB, kC] := by decide +kernel
theorem e8 : spreadL [] [kA] = [] := by decide +kernel
theorem e9 : betwL [] [] [kA] = [] := by decide +kernel
theorem e10 : lackL [] [kA] = [kA] := by decide +kernel
theorem e11 : topsL [] [kA] = [] := by decide +kernel
theorem e12 : commL [] kA kA = [] := by decide +kernel
theorem e13 : closedB [] [] = true := by decide +kernel
theorem nilW (w : World) : DagR w (.pointer none) [] := .inl ⟨rfl, rfl⟩
theorem strs_at (w : World) (o : Obj) (x : BS) : Strs ((w.alloc o).alloc (.cells #[.string x] 9)) (.slice (some ⟨w.heap.size + 1, 0, none⟩) 1 1) [x] := by
  have := strs_new (w.alloc o) x
  rwa [World.size_alloc] at this
theorem idJ (w : World) : Calls Tryz.prog 31 #[.int .u8 9] w fun e w' => e = .returned (.string kJ) ∧ Fr [] w w' := id33 9 w

section
variable {w : World} {v x y : Value}
theorem commK (hd : DagR w v v3) : Calls Tryz.prog 11 #[v, .string kB, .string kC] w fun e w' => ∃ u, e = .returned u ∧ Strs w' u [kA] ∧ Fr [] w w' := e1 ▸ commonD v v3 kB kC w hd w3v (by decide)
theorem betwK (hd : DagR w v v3) (hx : Strs w x [kB]) (hy : Strs w y [kC]) : Calls Tryz.prog 13 #[v, x, y] w fun e w' => ∃ u, e = .returned u ∧ Strs w' u [kC] ∧ Fr [] w w' := e2 ▸ betweenD v x y v3 _ _ w hd hx hy w3v (by decide)
theorem lackK (hd : DagR w v v3) (hx : Strs w x [kA, kX, kJ]) : Calls Tryz.prog 15 #[v, x] w fun e w' => ∃ u, e = .returned u ∧ Strs w' u [kJ] ∧ Fr [] w w' := e3 ▸ lackingD v x v3 _ w hd hx (by decide)
theorem topsK (hd : DagR w v v3) (hx : Strs w x [kC, kA]) : Calls Tryz.prog 17 #[v, x] w fun e w' => ∃ u, e = .returned u ∧ Strs w' u [kC] ∧ Fr [] w w' := e4 ▸ topsD v x v3 _ w hd hx (by decide) w3v (by decide)
theorem closedK (hd : DagR w v v3) (hx : Strs w x [kA, kB]) : Calls Tryz.prog 19 #[v, x] w fun e w' => e = .returned (.bool true) ∧ Fr [] w w' := e5 ▸ closedD v x v3 _ w hd hx (by decide) w3v (by decide)
theorem closedK2 (hd : DagR w v v3) (hx : Strs w x [kB]) : Calls Tryz.prog 19 #[v, x] w fun e w' => e = .returned (.bool false) ∧ Fr [] w w' := e6 ▸ closedD v x v3 _ w hd hx (by decide) w3v (by decide)
theorem spreadK (hd : DagR w v v3) (hx : Strs w x [kA]) : Calls Tryz.prog 21 #[v, x] w fun e w' => ∃ u, e = .returned u ∧ Strs w' u [kA, kB, kC] ∧ Fr [] w w' := e7 ▸ spreadD v x v3 _ w hd hx (by decide) w3v (by decide)
theorem spreadN (hx : Strs w x [kA]) : Calls Tryz.prog 21 #[.pointer none, x] w fun e w' => ∃ u, e = .returned u ∧ Strs w' u [] ∧ Fr [] w w' := e8 ▸ spreadD _ x [] _ w (nilW w) hx (by decide) w0 (by decide)
theorem betwN (hx : Strs w x [kA]) : Calls Tryz.prog 13 #[.pointer none, .slice none 0 0, x] w fun e w' => ∃ u, e = .returned u ∧ Strs w' u [] ∧ Fr [] w w' := e9 ▸ betweenD _ _ x [] _ _ w (nilW w) (Strs.nil w) hx w0 (by decide)
theorem lackN (hx : Strs w x [kA]) : Calls Tryz.prog 15 #[.pointer none, x] w fun e w' => ∃ u, e = .returned u ∧ Strs w' u [kA] ∧ Fr [] w w' := e10 ▸ lackingD _ x [] _ w (nilW w) hx (by decide)
theorem topsN (hx : Strs w x [kA]) : Calls Tryz.prog 17 #[.pointer none, x] w fun e w' => ∃ u, e = .returned u ∧ Strs w' u [] ∧ Fr [] w w' := e11 ▸ topsD _ x [] _ w (nilW w) hx (by decide) w0 (by decide)
theorem commN : Calls Tryz.prog 11 #[.pointer none, .string kA, .string kA] w fun e w' => ∃ u, e = .returned u ∧ Strs w' u [] ∧ Fr [] w w' := e12 ▸ commonD _ [] kA kA w (nilW w) w0 (by decide)
theorem closedN : Calls Tryz.prog 19 #[.pointer none, .slice none 0 0] w fun e w' => e = .returned (.bool true) ∧ Fr [] w w' := e13 ▸ closedD _ _ [] _ w (nilW w) (Strs.nil w) (by decide) w0 (by decide)
end

theorem nodes_new2 (w : World) (pv qv : Value) (ps qs : List BS) (hp : Strs w pv ps) (hq : Strs w qv qs) : Nodes (w.alloc (.cells #[.string ⟨#[]⟩, pv, .string ⟨#[]⟩, qv] 50)) (.slice (some ⟨w.heap.size, 0, none⟩) 2 2) [⟨⟨#[]⟩, ps⟩, ⟨⟨#[]⟩, qs⟩] :=
  ⟨_, Sl.new w #[.string ⟨#[]⟩, pv, .string ⟨#[]⟩, qv] 50 2 2 rfl (by omega), fun i n h => by
    match i, h with
    | 0, h => simp at h; subst h; exact ⟨pv, rfl, rfl, hp.fr ((Fr.refl w).alloc _)⟩
    | 1, h => simp at h; subst h; exact ⟨qv, rfl, rfl, hq.fr ((Fr.refl w).alloc _)⟩
    | i + 2, h => simp at h⟩
def fewB (L : List Nd) (la lb : List BS) : Bool := decide (Few L) && (decide (la.length ≤ 20) && (decide (lb.length ≤ 20) && decide (Few [⟨⟨#[]⟩, la⟩, ⟨⟨#[]⟩, lb⟩])))
theorem fewB_parts {L : List Nd} {la lb : List BS} (h : fewB L la lb = true) : Few L ∧ la.length ≤ 20 ∧ lb.length ≤ 20 := by
  unfold fewB at h
  simp only [Bool.and_eq_true, decide_eq_true_eq] at h
  exact ⟨h.1, h.2.1, h.2.2.1⟩
set_option maxRecDepth 100000 in
set_option maxHeartbeats 1000000 in
theorem fewW (v av bv : Value) (L : List Nd) (la lb : List BS) (w : World) (hs : Nodes w v L) (ha : Strs w av la) (hb : Strs w bv lb) :
    Calls Tryz.prog 7 #[v, av, bv] w fun e w' => e = .returned (.bool (fewB L la lb)) ∧ Fr [] w w' := by
  obtain ⟨aa, ac, rfl, _⟩ := ha.form
  obtain ⟨ba, bc, rfl, _⟩ := hb.form
  obtain ⟨va, vc, rfl, _⟩ := hs.form
  have hnw := nodes_new2 w _ _ la lb ha hb
  have f0 := (Fr.refl w).alloc (.cells #[.string ⟨#[]⟩, .slice aa la.length ac, .string ⟨#[]⟩, .slice ba lb.length bc] 50)
  obtain ⟨n, hn⟩ : ∃ n, n = la.length := ⟨_, rfl⟩
  obtain ⟨m, hm⟩ : ∃ m, m = lb.length := ⟨_, rfl⟩
  have C9 := Lib.hid (few9 _ _ _ hnw)
  rw [← hn, ← hm] at C9 f0 ⊢
  by_cases hF : Few L
  · have HF := Lib.hid hF; clear hF
    by_cases h1 : n ≤ 20
    · have d1 : decide ((n : Int) ≤ 20) = true := decide_eq_true (by omega)
      have d2 : decide (n ≤ 20) = true := decide_eq_true (by omega)
      have H1 := Lib.hid h1; clear h1
      by_cases h2 : m ≤ 20
      · have d3 : decide ((m : Int) ≤ 20) = true := decide_eq_true (by omega)
        have d4 : decide (m ≤ 20) = true := decide_eq_true (by omega)
        have H2 := Lib.hid h2; clear h2
        have Hn := Lib.hid hn; have Hm := Lib.hid hm
        clear hn hm
        go_enter Tryz.func7, Tryz.ntmps7
        go_wp2_with (first
          | (go_at_call 29; (with_reducible refine (fewT hs HF.out).mono ?_); rintro e wx ⟨rfl, rfl⟩)
          | (go_at_call 29; (with_reducible refine C9.out.mono ?_); rintro e wx ⟨rfl, rfl⟩))
        go_ret
        have e1 := H1.out; have e2 := H2.out
        rw [Hn.out] at e1; rw [Hm.out] at e2
        exact ⟨by simp [fewB, HF.out, e1, e2], f0⟩
      · have d3 : decide ((m : Int) ≤ 20) = false := decide_eq_false (by omega)
        have d4 : decide (m ≤ 20) = false := decide_eq_false (by omega)
        have H2 := Lib.hid h2; clear h2
        have Hn := Lib.hid hn; have Hm := Lib.hid hm
        clear hn hm
        go_enter Tryz.func7, Tryz.ntmps7
        go_wp2_with (go_at_call 29; (with_reducible refine (fewT hs HF.out).mono ?_); rintro e wx ⟨rfl, rfl⟩)
        go_ret
        have e2 := H2.out; rw [Hm.out] at e2
        exact ⟨by simp [fewB, e2], .refl _⟩
    · have d1 : decide ((n : Int) ≤ 20) = false := decide_eq_false (by omega)
      have d2 : decide (n ≤ 20) = false := decide_eq_false (by omega)
      have H1 := Lib.hid h1; clear h1
      have Hn := Lib.hid hn; have Hm := Lib.hid hm
      clear hn hm
      go_enter Tryz.func7, Tryz.ntmps7
      go_wp2_with (go_at_call 29; (with_reducible refine (fewT hs HF.out).mono ?_); rintro e wx ⟨rfl, rfl⟩)
      go_ret
      have e1 := H1.out; rw [Hn.out] at e1
      exact ⟨by simp [fewB, e1], .refl _⟩
  · have HF := Lib.hid hF; clear hF
    clear hn hm
    go_enter Tryz.func7, Tryz.ntmps7
    go_wp2_with (go_at_call 29; (with_reducible refine (fewF hs HF.out).mono ?_); rintro e wx ⟨rfl, rfl⟩)
    go_ret
    exact ⟨by simp [fewB, HF.out], .refl _⟩
end Go.Proofs.YtoaebladjdnfjaaGreat
