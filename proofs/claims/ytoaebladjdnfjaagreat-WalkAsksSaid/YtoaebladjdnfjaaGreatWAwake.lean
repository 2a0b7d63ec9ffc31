import Derived.Test.YtoaebladjdnfjaaGreatWAwakeP
set_option linter.unusedSimpArgs false
set_option linter.unusedVariables false
/-
  Chapter 18's law: its awake.
-/
namespace Go.Proofs.YtoaebladjdnfjaaGreat
open Go.RowKit

set_option maxRecDepth 100000 in
set_option maxHeartbeats 4000000 in
theorem awakeW (w : World) :
    Calls Tryz.prog 8 #[] w fun e w' => e = .returned (.bool true) ∧ Fr [] w w' := by
  go_enter Tryz.func8, Tryz.ntmps8
  go_upto_region 2 with (go_at_call 30; refine (empty8 _).mono ?_; rintro e w1 ⟨dv, rfl, hd, f1⟩)
  obtain ⟨mN, hmN⟩ : ∃ m, m = w.heap.size := ⟨_, rfl⟩
  rw [← hmN] at hd
  have HmN : Hid (∀ k, k ∈ [mN, mN + 1] → w.heap.size ≤ k) := Lib.hid (fun k hk => by simp at hk; omega)
  clear hmN
  obtain ⟨db, rfl⟩ := hd.ptr
  have F := f1
  clear f1
  have ln : ∀ {m : Nat}, m ∉ ([] : List Nat) := List.not_mem_nil
  go_upto_region 5 with (first
    | (go_at_call 31; (with_reducible refine (idA _).mono ?_); rintro e wa ⟨rfl, f⟩; have hd := hd.fr f ln ln; have F := F.then f; clear f)
    | (go_at_call 31; (with_reducible refine (idB _).mono ?_); rintro e wb ⟨rfl, f⟩; have hd := hd.fr f ln ln; have F := F.then f; clear f)
    | (go_at_call 31; (with_reducible refine (idC _).mono ?_); rintro e wc ⟨rfl, f⟩; have hd := hd.fr f ln ln; have F := F.then f; clear f))
  have l0 : ([] : G).length ≤ 4096 := by decide
  have l1 : g1.length ≤ 4096 := by decide
  have l2 : v2.length ≤ 4096 := by decide
  go_upto_region 8 with (first
    | (go_at_call 32; (with_reducible refine (addAt a1 b1 hd w0 (Strs.nil _) l0).mono ?_); rintro e wd ⟨rfl, hd, f⟩; have F := F.drop f HmN.out; clear f)
    | (go_at_call 32; (with_reducible refine (addAt p2 q2 (hd.fr ((Fr.refl _).alloc (.cells #[.string kA] 9)) ln ln) w1g (strs_new _ kA) l1).mono ?_); rintro e we ⟨rfl, hd, f⟩; have F := (F.alloc (.cells #[.string kA] 9)).drop f HmN.out; clear f)
    | (go_at_call 32; (with_reducible refine (addAt p3 q3 (hd.fr ((Fr.refl _).alloc (.cells #[.string kA] 9)) ln ln) w2v (strs_new _ kA) l2).mono ?_); rintro e wf ⟨rfl, hd, f⟩; have F := (F.alloc (.cells #[.string kA] 9)).drop f HmN.out; clear f))
  have hr := hd.r
  clear hd l0 l1 l2
  go_wp2_with (first
    | (go_at_call 11; (with_reducible refine (commK hr).mono ?_); rintro e wx ⟨u, rfl, hu, f⟩; obtain ⟨ua, uc, rfl⟩ := hu.formN 1 rfl; have hr := hr.fr f; have F := F.then f; clear f)
    | (go_at_call 10; (with_reducible refine (textsT _ _ _ _ _ (hu.fr ((Fr.refl _).alloc (.cells #[.string kA] 9))) (strs_new _ kA) rfl).mono ?_); rintro e wx ⟨rfl, f⟩; have hr := (hr.fr ((Fr.refl _).alloc (.cells #[.string kA] 9))).fr f; have F := (F.alloc (.cells #[.string kA] 9)).then f; clear f hu)
    | (go_at_call 13; (with_reducible refine (betwK ((hr.fr ((Fr.refl _).alloc (.cells #[.string kB] 9))).fr ((Fr.refl _).alloc (.cells #[.string kC] 9))) ((strs_new _ kB).fr ((Fr.refl _).alloc (.cells #[.string kC] 9))) (strs_at _ _ kC)).mono ?_); rintro e wx ⟨u, rfl, hu, f⟩; obtain ⟨ua, uc, rfl⟩ := hu.formN 1 rfl; have hr := ((hr.fr ((Fr.refl _).alloc (.cells #[.string kB] 9))).fr ((Fr.refl _).alloc (.cells #[.string kC] 9))).fr f; have F := ((F.alloc (.cells #[.string kB] 9)).alloc (.cells #[.string kC] 9)).then f; clear f)
    | (go_at_call 10; (with_reducible refine (textsT _ _ _ _ _ (hu.fr ((Fr.refl _).alloc (.cells #[.string kC] 9))) (strs_new _ kC) rfl).mono ?_); rintro e wx ⟨rfl, f⟩; have hr := (hr.fr ((Fr.refl _).alloc (.cells #[.string kC] 9))).fr f; have F := (F.alloc (.cells #[.string kC] 9)).then f; clear f hu)
    | (go_at_call 31; (with_reducible refine (idJ _).mono ?_); rintro e wx ⟨rfl, f⟩; have hr := hr.fr f; have F := F.then f; (try have hu := hu.fr f); clear f)
    | (go_at_call 15; (with_reducible refine (lackK (hr.fr ((Fr.refl _).alloc (.cells #[.string kA, .string kX, .string kJ] 9))) (strs_new3 _ kA kX kJ)).mono ?_); rintro e wx ⟨u, rfl, hu, f⟩; obtain ⟨ua, uc, rfl⟩ := hu.formN 1 rfl; have hr := (hr.fr ((Fr.refl _).alloc (.cells #[.string kA, .string kX, .string kJ] 9))).fr f; have F := (F.alloc (.cells #[.string kA, .string kX, .string kJ] 9)).then f; clear f)
    | (go_at_call 10; (with_reducible refine (textsT _ _ _ _ _ (hu.fr ((Fr.refl _).alloc (.cells #[.string kJ] 9))) (strs_new _ kJ) rfl).mono ?_); rintro e wx ⟨rfl, f⟩; have hr := (hr.fr ((Fr.refl _).alloc (.cells #[.string kJ] 9))).fr f; have F := (F.alloc (.cells #[.string kJ] 9)).then f; clear f hu)
    | (go_at_call 17; (with_reducible refine (topsK (hr.fr ((Fr.refl _).alloc (.cells #[.string kC, .string kA] 9))) (strs_new2 _ kC kA)).mono ?_); rintro e wx ⟨u, rfl, hu, f⟩; obtain ⟨ua, uc, rfl⟩ := hu.formN 1 rfl; have hr := (hr.fr ((Fr.refl _).alloc (.cells #[.string kC, .string kA] 9))).fr f; have F := (F.alloc (.cells #[.string kC, .string kA] 9)).then f; clear f)
    | (go_at_call 19; (with_reducible refine (closedK (hr.fr ((Fr.refl _).alloc (.cells #[.string kA, .string kB] 9))) (strs_new2 _ kA kB)).mono ?_); rintro e wx ⟨rfl, f⟩; have hr := (hr.fr ((Fr.refl _).alloc (.cells #[.string kA, .string kB] 9))).fr f; have F := (F.alloc (.cells #[.string kA, .string kB] 9)).then f; clear f)
    | (go_at_call 19; (with_reducible refine (closedK2 (hr.fr ((Fr.refl _).alloc (.cells #[.string kB] 9))) (strs_new _ kB)).mono ?_); rintro e wx ⟨rfl, f⟩; have hr := (hr.fr ((Fr.refl _).alloc (.cells #[.string kB] 9))).fr f; have F := (F.alloc (.cells #[.string kB] 9)).then f; clear f)
    | (go_at_call 21; (with_reducible refine (spreadK (hr.fr ((Fr.refl _).alloc (.cells #[.string kA] 9))) (strs_new _ kA)).mono ?_); rintro e wx ⟨u, rfl, hu, f⟩; obtain ⟨ua, uc, rfl⟩ := hu.formN 3 rfl; have hr := (hr.fr ((Fr.refl _).alloc (.cells #[.string kA] 9))).fr f; have F := (F.alloc (.cells #[.string kA] 9)).then f; clear f)
    | (go_at_call 10; (with_reducible refine (textsT _ _ _ _ _ (hu.fr ((Fr.refl _).alloc (.cells #[.string kA, .string kB, .string kC] 9))) (strs_new3 _ kA kB kC) rfl).mono ?_); rintro e wx ⟨rfl, f⟩; have hr := (hr.fr ((Fr.refl _).alloc (.cells #[.string kA, .string kB, .string kC] 9))).fr f; have F := (F.alloc (.cells #[.string kA, .string kB, .string kC] 9)).then f; clear f hu)
    | (go_at_call 21; (with_reducible refine (spreadN (strs_new _ kA)).mono ?_); rintro e wx ⟨u, rfl, hu, f⟩; obtain ⟨ua, uc, rfl⟩ := hu.formN 0 rfl; have F := (F.alloc (.cells #[.string kA] 9)).then f; clear f)
    | (go_at_call 13; (with_reducible refine (betwN (strs_new _ kA)).mono ?_); rintro e wx ⟨u, rfl, hu, f⟩; obtain ⟨ua, uc, rfl⟩ := hu.formN 0 rfl; have F := (F.alloc (.cells #[.string kA] 9)).then f; clear f)
    | (go_at_call 15; (with_reducible refine (lackN (strs_new _ kA)).mono ?_); rintro e wx ⟨u, rfl, hu, f⟩; obtain ⟨ua, uc, rfl⟩ := hu.formN 1 rfl; have F := (F.alloc (.cells #[.string kA] 9)).then f; clear f)
    | (go_at_call 17; (with_reducible refine (topsN (strs_new _ kA)).mono ?_); rintro e wx ⟨u, rfl, hu, f⟩; obtain ⟨ua, uc, rfl⟩ := hu.formN 0 rfl; have F := (F.alloc (.cells #[.string kA] 9)).then f; clear f)
    | (go_at_call 11; (with_reducible refine (commN).mono ?_); rintro e wx ⟨u, rfl, hu, f⟩; obtain ⟨ua, uc, rfl⟩ := hu.formN 0 rfl; have F := F.then f; clear f)
    | (go_at_call 19; (with_reducible refine (closedN).mono ?_); rintro e wx ⟨rfl, f⟩; have F := F.then f; clear f))
  go_ret
  exact ⟨rfl, F⟩
end Go.Proofs.YtoaebladjdnfjaaGreat
