import Derived.Test.YtnebdfpjjpbolaaAwakePure
import Derived.Test.YtnebdfpjjpbolaaCtr
set_option linter.unusedSimpArgs false
set_option linter.unusedVariables false
/-
  The law's awake.
-/
namespace Go.Proofs.Ytnebdfpjjpbolaa
open Go.RowKit

theorem idA (w : World) : Calls Try.prog 33 #[.int .u8 1] w fun e w' => e = .returned (.string kA) ∧ Fr [] w w' := id33 1 w
theorem idB (w : World) : Calls Try.prog 33 #[.int .u8 2] w fun e w' => e = .returned (.string kB) ∧ Fr [] w w' := id33 2 w
theorem idC (w : World) : Calls Try.prog 33 #[.int .u8 3] w fun e w' => e = .returned (.string kC) ∧ Fr [] w w' := id33 3 w
theorem idD (w : World) : Calls Try.prog 33 #[.int .u8 4] w fun e w' => e = .returned (.string kD) ∧ Fr [] w w' := id33 4 w
theorem idE (w : World) : Calls Try.prog 33 #[.int .u8 5] w fun e w' => e = .returned (.string kE) ∧ Fr [] w w' := id33 5 w

section
variable {w : World} {v : Value} {mN mH : Nat}
theorem headsK (hd : DagAt w v mN mH g3) : Calls Try.prog 34 #[v] w fun e w' => ∃ u, e = .returned u ∧ Strs w' u [kB, kC] ∧ Fr [] w w' := c1 ▸ heads34 v g3 w hd.r w3g (by decide)
theorem pastK {u : Value} (hd : DagAt w v mN mH g3) (hu : Strs w u [kB]) : Calls Try.prog 16 #[v, u] w fun e w' => ∃ u, e = .returned u ∧ Strs w' u [kA, kB] ∧ Fr [] w w' := c2 ▸ pastD v u [kB] g3 w hd.r w3g hu (by decide)
theorem orderK (hd : DagAt w v mN mH g3) : Calls Try.prog 28 #[v] w fun e w' => ∃ u, e = .returned u ∧ Strs w' u [kA, kB, kC] ∧ Fr [] w w' := c3 ▸ orderD v g3 w hd.r w3g (by decide)
theorem depthK (hd : DagAt w v mN mH g3) : Calls Try.prog 20 #[v, .string kC] w fun e w' => e = .returned (.int .i64 2) ∧ Fr [] w w' := by
  have := depthD v kC g3 w hd.r
  rwa [c4] at this
theorem aheadAB (hd : DagAt w v mN mH g3) : Calls Try.prog 26 #[v, .string kA, .string kB] w fun e w' => e = .returned (.bool true) ∧ Fr [] w w' := c5 ▸ aheadD v kA kB g3 w hd.r w3g (by decide)
theorem aheadBC (hd : DagAt w v mN mH g3) : Calls Try.prog 26 #[v, .string kB, .string kC] w fun e w' => e = .returned (.bool false) ∧ Fr [] w w' := c6 ▸ aheadD v kB kC g3 w hd.r w3g (by decide)
theorem aheadAA (hd : DagAt w v mN mH g3) : Calls Try.prog 26 #[v, .string kA, .string kA] w fun e w' => e = .returned (.bool false) ∧ Fr [] w w' := c7 ▸ aheadD v kA kA g3 w hd.r w3g (by decide)
theorem lenK3 (hd : DagAt w v mN mH g3) : Calls Try.prog 30 #[v] w fun e w' => e = .returned (.int .i64 3) ∧ w = w' := len30 v g3 w hd.r
theorem lenK4 (hd : DagAt w v mN mH g4) : Calls Try.prog 30 #[v] w fun e w' => e = .returned (.int .i64 4) ∧ w = w' := len30 v g4 w hd.r
theorem predsK (hd : DagAt w v mN mH g4) : Calls Try.prog 22 #[v, .string kD] w fun e w' => ∃ u, e = .returned u ∧ Strs w' u [kB, kC] ∧ Fr [] w w' := c8 ▸ predsD v kD g4 w hd.r w4g (by decide)
theorem kidsK (hd : DagAt w v mN mH g3) : Calls Try.prog 24 #[v, .string kA] w fun e w' => ∃ u, e = .returned u ∧ Strs w' u [kB, kC] ∧ Fr [] w w' := c9 ▸ kidsD v kA g3 w hd.r w3g (by decide)
theorem hasK (hd : DagAt w v mN mH g3) : Calls Try.prog 18 #[v, .string kA] w fun e w' => e = .returned (.bool true) ∧ Fr [] w w' := by
  have := has18 v kA g3 w hd.r
  rwa [c10] at this
end

set_option maxRecDepth 100000 in
set_option maxHeartbeats 4000000 in
theorem awake10 (w : World) :
    Calls Try.prog 10 #[] w fun e w' => e = .returned (.bool true) ∧ Fr [] w w' := by
  go_enter Try.func10, Try.ntmps10
  go_upto_region 2 with (go_at_call 8; refine (empty8 _).mono ?_; rintro e w1 ⟨dv, rfl, hd, f1⟩)
  obtain ⟨mN, hmN⟩ : ∃ m, m = w.heap.size := ⟨_, rfl⟩
  rw [← hmN] at hd
  have HmN : Hid (∀ k, k ∈ [mN, mN + 1] → w.heap.size ≤ k) := Lib.hid (fun k hk => by simp at hk; omega)
  clear hmN
  obtain ⟨db, rfl⟩ := hd.ptr
  have F := f1
  clear f1
  have ln : ∀ {m : Nat}, m ∉ ([] : List Nat) := List.not_mem_nil
  go_upto_region 5 with (first
    | (go_at_call 33; (with_reducible refine (idA _).mono ?_); rintro e wa ⟨rfl, f⟩; have hd := hd.fr f ln ln; have F := F.then f; clear f)
    | (go_at_call 33; (with_reducible refine (idB _).mono ?_); rintro e wb ⟨rfl, f⟩; have hd := hd.fr f ln ln; have F := F.then f; clear f)
    | (go_at_call 33; (with_reducible refine (idC _).mono ?_); rintro e wc ⟨rfl, f⟩; have hd := hd.fr f ln ln; have F := F.then f; clear f))
  have l0 : ([] : G).length ≤ 4096 := by decide
  have l1 : g1.length ≤ 4096 := by decide
  have l2 : g2.length ≤ 4096 := by decide
  have l3 : g3.length ≤ 4096 := by decide
  go_upto_region 6 with (first
    | (go_at_call 12; (with_reducible refine (addAt a1 b1 hd w0 (Strs.nil _) l0).mono ?_); rintro e wd ⟨rfl, hd, f⟩; have F := F.drop f HmN.out; clear f)
    | (go_at_call 12; (with_reducible refine (addAt a2 b2 (hd.fr ((Fr.refl _).alloc (.cells #[.string kA] 9)) ln ln) w1g (strs_new _ kA) l1).mono ?_); rintro e we ⟨rfl, hd, f⟩; have F := (F.alloc (.cells #[.string kA] 9)).drop f HmN.out; clear f)
    | (go_at_call 12; (with_reducible refine (addAt a3 b3 (hd.fr ((Fr.refl _).alloc (.cells #[.string kA] 9)) ln ln) w2g (strs_new _ kA) l2).mono ?_); rintro e wf ⟨rfl, hd, f⟩; have F := (F.alloc (.cells #[.string kA] 9)).drop f HmN.out; clear f))
  go_upto_region 7 with (first
    | (go_at_call 33; (with_reducible refine (idD _).mono ?_); rintro e wa ⟨rfl, f⟩; have hd := hd.fr f ln ln; have F := F.then f; clear f)
    | (go_at_call 33; (with_reducible refine (idE _).mono ?_); rintro e wb ⟨rfl, f⟩; have hd := hd.fr f ln ln; have F := F.then f; clear f)
    | (go_at_call 12; (with_reducible refine (addAt a4 b4 hd w3g (Strs.nil _) l3).mono ?_); rintro e wd ⟨rfl, hd, f⟩; have F := F.drop f HmN.out; clear f)
    | (go_at_call 12; (with_reducible refine (addAt a5 b5 (hd.fr ((Fr.refl _).alloc (.cells #[.string kE] 9)) ln ln) w3g (strs_new _ kE) l3).mono ?_); rintro e we ⟨rfl, hd, f⟩; have F := (F.alloc (.cells #[.string kE] 9)).drop f HmN.out; clear f)
    | (go_at_call 12; (with_reducible refine (addAt a6 b6 hd w3g (Strs.nil _) l3).mono ?_); rintro e wf ⟨rfl, hd, f⟩; have F := F.drop f HmN.out; clear f))
  go_upto_region 10 with (go_at_call 32; refine (clone32 _ _ _ _ _ hd).mono ?_; rintro e wh ⟨kv, m1, m2, rfl, hk, hm1, hm2, f⟩; obtain ⟨kb, rfl⟩ := hk.ptr; obtain ⟨hlN, hlH⟩ : mN < m1 ∧ mN + 1 < m1 ∧ mN < m2 ∧ mN + 1 < m2 := by { have h1 := (hd.maps mN (by simp)).lt; have h2 := (hd.maps (mN + 1) (by simp)).lt; omega }; have Hm : Hid (∀ k, k ∈ [m1, m2] → w.heap.size ≤ k) := Lib.hid (fun k hk => by have := F.size; simp at hk; omega); have hd := hd.fr f ln ln; have F := F.then f; clear f)
  have hn1 : mN ∉ [m1, m2] := by simp; omega
  have hn2 : mN + 1 ∉ [m1, m2] := by simp; omega
  clear hlN hlH hm1 hm2
  go_upto_region 11 with (first
    | (go_at_call 33; (with_reducible refine (idD _).mono ?_); rintro e wa ⟨rfl, f⟩; have hd := hd.fr f ln ln; have hk := hk.fr f ln ln; have F := F.then f; clear f)
    | (go_at_call 12; (with_reducible refine (addAt a7 b7 (hk.fr ((Fr.refl _).alloc (.cells #[.string kB, .string kC] 9)) ln ln) w3g (strs_new2 _ kB kC) l3).mono ?_); rintro e we ⟨rfl, hk, f⟩; have hd := (hd.fr ((Fr.refl _).alloc (.cells #[.string kB, .string kC] 9)) ln ln).fr f hn1 hn2; have F := (F.alloc (.cells #[.string kB, .string kC] 9)).drop f Hm.out; clear f))
  clear hn1 hn2
  go_wp2_with (first
    | (go_at_call 34; (with_reducible refine (headsK hd).mono ?_); rintro e wx ⟨u, rfl, hu, f⟩; obtain ⟨ua, uc, rfl⟩ := hu.formN 2 rfl; have hd := hd.fr f ln ln; have hk := hk.fr f ln ln; have F := F.then f; clear f)
    | (go_at_call 15; (with_reducible refine (textsT _ _ _ _ _ (hu.fr ((Fr.refl _).alloc (.cells #[.string kB, .string kC] 9))) (strs_new2 _ kB kC) rfl).mono ?_); rintro e wx ⟨rfl, f⟩; have hd := (hd.fr ((Fr.refl _).alloc (.cells #[.string kB, .string kC] 9)) ln ln).fr f ln ln; have hk := (hk.fr ((Fr.refl _).alloc (.cells #[.string kB, .string kC] 9)) ln ln).fr f ln ln; have F := (F.alloc (.cells #[.string kB, .string kC] 9)).then f; clear f)
    | (go_at_call 16; (with_reducible refine (pastK (hd.fr ((Fr.refl _).alloc (.cells #[.string kB] 9)) ln ln) (strs_new _ kB)).mono ?_); rintro e wx ⟨u, rfl, hu, f⟩; obtain ⟨ua, uc, rfl⟩ := hu.formN 2 rfl; have hd := (hd.fr ((Fr.refl _).alloc (.cells #[.string kB] 9)) ln ln).fr f ln ln; have hk := (hk.fr ((Fr.refl _).alloc (.cells #[.string kB] 9)) ln ln).fr f ln ln; have F := (F.alloc (.cells #[.string kB] 9)).then f; clear f)
    | (go_at_call 15; (with_reducible refine (textsT _ _ _ _ _ (hu.fr ((Fr.refl _).alloc (.cells #[.string kA, .string kB] 9))) (strs_new2 _ kA kB) rfl).mono ?_); rintro e wx ⟨rfl, f⟩; have hd := (hd.fr ((Fr.refl _).alloc (.cells #[.string kA, .string kB] 9)) ln ln).fr f ln ln; have hk := (hk.fr ((Fr.refl _).alloc (.cells #[.string kA, .string kB] 9)) ln ln).fr f ln ln; have F := (F.alloc (.cells #[.string kA, .string kB] 9)).then f; clear f)
    | (go_at_call 28; (with_reducible refine (orderK hd).mono ?_); rintro e wx ⟨u, rfl, hu, f⟩; obtain ⟨ua, uc, rfl⟩ := hu.formN 3 rfl; have hd := hd.fr f ln ln; have hk := hk.fr f ln ln; have F := F.then f; clear f)
    | (go_at_call 15; (with_reducible refine (textsT _ _ _ _ _ (hu.fr ((Fr.refl _).alloc (.cells #[.string kA, .string kB, .string kC] 9))) (strs_new3 _ kA kB kC) rfl).mono ?_); rintro e wx ⟨rfl, f⟩; have hd := (hd.fr ((Fr.refl _).alloc (.cells #[.string kA, .string kB, .string kC] 9)) ln ln).fr f ln ln; have hk := (hk.fr ((Fr.refl _).alloc (.cells #[.string kA, .string kB, .string kC] 9)) ln ln).fr f ln ln; have F := (F.alloc (.cells #[.string kA, .string kB, .string kC] 9)).then f; clear f)
    | (go_at_call 20; (with_reducible refine (depthK hd).mono ?_); rintro e wx ⟨rfl, f⟩; have hd := hd.fr f ln ln; have hk := hk.fr f ln ln; have F := F.then f; clear f)
    | (go_at_call 26; (with_reducible refine (aheadAB hd).mono ?_); rintro e wx ⟨rfl, f⟩; have hd := hd.fr f ln ln; have hk := hk.fr f ln ln; have F := F.then f; clear f)
    | (go_at_call 26; (with_reducible refine (aheadBC hd).mono ?_); rintro e wx ⟨rfl, f⟩; have hd := hd.fr f ln ln; have hk := hk.fr f ln ln; have F := F.then f; clear f)
    | (go_at_call 26; (with_reducible refine (aheadAA hd).mono ?_); rintro e wx ⟨rfl, f⟩; have hd := hd.fr f ln ln; have hk := hk.fr f ln ln; have F := F.then f; clear f)
    | (go_at_call 30; (with_reducible refine (lenK3 hd).mono ?_); rintro e wx ⟨rfl, rfl⟩)
    | (go_at_call 30; (with_reducible refine (lenK4 hk).mono ?_); rintro e wx ⟨rfl, rfl⟩)
    | (go_at_call 33; (with_reducible refine (idD _).mono ?_); rintro e wx ⟨rfl, f⟩; have hd := hd.fr f ln ln; have hk := hk.fr f ln ln; have F := F.then f; clear f)
    | (go_at_call 22; (with_reducible refine (predsK hk).mono ?_); rintro e wx ⟨u, rfl, hu, f⟩; obtain ⟨ua, uc, rfl⟩ := hu.formN 2 rfl; have hd := hd.fr f ln ln; have hk := hk.fr f ln ln; have F := F.then f; clear f)
    | (go_at_call 24; (with_reducible refine (kidsK hd).mono ?_); rintro e wx ⟨u, rfl, hu, f⟩; obtain ⟨ua, uc, rfl⟩ := hu.formN 2 rfl; have hd := hd.fr f ln ln; have hk := hk.fr f ln ln; have F := F.then f; clear f)
    | (go_at_call 18; (with_reducible refine (hasK hd).mono ?_); rintro e wx ⟨rfl, f⟩; have hd := hd.fr f ln ln; have hk := hk.fr f ln ln; have F := F.then f; clear f))
  go_ret
  exact ⟨rfl, F⟩
end Go.Proofs.Ytnebdfpjjpbolaa
