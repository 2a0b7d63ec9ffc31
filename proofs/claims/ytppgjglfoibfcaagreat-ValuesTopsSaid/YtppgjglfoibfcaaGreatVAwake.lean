import Derived.Test.YtppgjglfoibfcaaGreatVals4
import Derived.Test.YtppgjglfoibfcaaGreatAwake
import Derived.Test.YtppgjglfoibfcaaGreatVals5
set_option linter.unusedSimpArgs false
set_option linter.unusedVariables false
/-
  Chapter 21's example, plain.
-/
namespace Go.Proofs.YtppgjglfoibfcaaGreat
open Go.RowKit

def vg2 : G := [⟨kA, []⟩, ⟨kB, [kA]⟩]
def vg3 : G := [⟨kA, []⟩, ⟨kB, [kA]⟩, ⟨kC, [kA]⟩]
theorem vp2 : addE g1 kB [kA] = 0 := by decide +kernel
theorem vq2 : addG g1 kB [kA] = vg2 := addG_ok vp2
theorem vp3 : addE vg2 kC [kA] = 0 := by decide +kernel
theorem vq3 : addG vg2 kC [kA] = vg3 := addG_ok vp3
theorem vw2 : Wf vg2 := vq2 ▸ wf_addG w1g
theorem vw3 : Wf vg3 := vq3 ▸ wf_addG vw2
abbrev sN : BS := ⟨#[110]⟩
abbrev sM : BS := ⟨#[109]⟩
abbrev sX : BS := ⟨#[120]⟩
abbrev sY : BS := ⟨#[121]⟩
abbrev sZ : BS := ⟨#[122]⟩
abbrev sQ : BS := ⟨#[113]⟩
abbrev sNN : BS := ⟨#[78]⟩
abbrev s0 : BS := ⟨#[]⟩
def vr1 : Wr := ⟨sN, sX, kA⟩
def vr2 : Wr := ⟨sN, sY, kB⟩
def vr3 : Wr := ⟨sN, sX, kC⟩
def vr4 : Wr := ⟨sN, sZ, kC⟩
def vr5 : Wr := ⟨sN, sQ, kA⟩
def vr6 : Wr := ⟨sNN, s0, kA⟩
theorem ve1 : writeE [] vr1 = 0 := by decide +kernel
theorem vl1 : writeL vg3 [] vr1 = [vr1] := by decide +kernel
theorem ve2 : writeE [vr1] vr2 = 0 := by decide +kernel
theorem vl2 : writeL vg3 [vr1] vr2 = [vr2] := by decide +kernel
theorem vo2 : ofW [vr2] sN = [sY] := by decide +kernel
theorem ve3 : writeE [vr2] vr3 = 0 := by decide +kernel
theorem vl3 : writeL vg3 [vr2] vr3 = [vr2, vr3] := by decide +kernel
theorem ve4 : writeE [vr2, vr3] vr4 = 7 := by decide +kernel
theorem vl4 : writeL vg3 [vr2, vr3] vr4 = [vr2, vr3] := by decide +kernel
theorem ve5 : writeE [vr2, vr3] vr5 = 0 := by decide +kernel
theorem vl5 : writeL vg3 [vr2, vr3] vr5 = [vr2, vr3] := by decide +kernel
theorem vo5 : ofW [vr2, vr3] sN = [sX, sY] := by decide +kernel
theorem vt5 : tellW [vr2, vr3] = [(sN, sX), (sN, sY)] := by decide +kernel
theorem ve6 : writeE [vr2, vr3] vr6 = 1 := by decide +kernel
theorem vl6 : writeL vg3 [vr2, vr3] vr6 = [vr2, vr3] := by decide +kernel
theorem vo6 : ofW [vr2, vr3] sM = [] := by decide +kernel
theorem vok : LoadOk ([vr2, vr3].map Wr.rw) := by decide +kernel
theorem vno : ¬ LoadOk [⟨1, s0, s0, 0, s0, s0, false⟩] := by decide +kernel
end Go.Proofs.YtppgjglfoibfcaaGreat

set_option linter.unusedSimpArgs false
set_option linter.unusedVariables false
/-
  Chapter 21's example, walked.
-/
namespace Go.Proofs.YtppgjglfoibfcaaGreat
open Go.RowKit

section
variable {vb bm : Nat} {p : Option Addr} {w : World}
theorem vk1 (hv : ValsAt w vb bm (.pointer p) [] 0) (hd : DagN [bm] w (.pointer p) vg3) : Calls Tryz.prog 20 #[.pointer (some ⟨vb, 0, none⟩), .string sN, .string sX, .string kA] w fun e w' => e = .returned (.int .i64 0) ∧ ValsAt w' vb bm (.pointer p) [vr1] 1 ∧ Fr [bm] w w' := by
  have := writeV vb bm p (.pointer p) vg3 [] 0 vr1 w rfl hv hd.r vw3 (by decide) (by decide) (by decide)
  rw [ve1, vl1] at this; exact this
theorem vk2 (hv : ValsAt w vb bm (.pointer p) [vr1] 1) (hd : DagN [bm] w (.pointer p) vg3) : Calls Tryz.prog 20 #[.pointer (some ⟨vb, 0, none⟩), .string sN, .string sY, .string kB] w fun e w' => e = .returned (.int .i64 0) ∧ ValsAt w' vb bm (.pointer p) [vr2] 2 ∧ Fr [bm] w w' := by
  have := writeV vb bm p (.pointer p) vg3 [vr1] 1 vr2 w rfl hv hd.r vw3 (by decide) (by decide) (by decide)
  rw [ve2, vl2] at this; exact this
theorem vk3 (hv : ValsAt w vb bm (.pointer p) [vr2] 2) (hd : DagN [bm] w (.pointer p) vg3) : Calls Tryz.prog 20 #[.pointer (some ⟨vb, 0, none⟩), .string sN, .string sX, .string kC] w fun e w' => e = .returned (.int .i64 0) ∧ ValsAt w' vb bm (.pointer p) [vr2, vr3] 3 ∧ Fr [bm] w w' := by
  have := writeV vb bm p (.pointer p) vg3 [vr2] 2 vr3 w rfl hv hd.r vw3 (by decide) (by decide) (by decide)
  rw [ve3, vl3] at this; exact this
theorem vk4 (hv : ValsAt w vb bm (.pointer p) [vr2, vr3] 3) (hd : DagN [bm] w (.pointer p) vg3) : Calls Tryz.prog 20 #[.pointer (some ⟨vb, 0, none⟩), .string sN, .string sZ, .string kC] w fun e w' => e = .returned (.int .i64 7) ∧ ValsAt w' vb bm (.pointer p) [vr2, vr3] 4 ∧ Fr [bm] w w' := by
  have := writeV vb bm p (.pointer p) vg3 [vr2, vr3] 3 vr4 w rfl hv hd.r vw3 (by decide) (by decide) (by decide)
  rw [ve4, vl4] at this; exact this
theorem vk5 (hv : ValsAt w vb bm (.pointer p) [vr2, vr3] 4) (hd : DagN [bm] w (.pointer p) vg3) : Calls Tryz.prog 20 #[.pointer (some ⟨vb, 0, none⟩), .string sN, .string sQ, .string kA] w fun e w' => e = .returned (.int .i64 0) ∧ ValsAt w' vb bm (.pointer p) [vr2, vr3] 5 ∧ Fr [bm] w w' := by
  have := writeV vb bm p (.pointer p) vg3 [vr2, vr3] 4 vr5 w rfl hv hd.r vw3 (by decide) (by decide) (by decide)
  rw [ve5, vl5] at this; exact this
theorem vk6 (hv : ValsAt w vb bm (.pointer p) [vr2, vr3] 5) (hd : DagN [bm] w (.pointer p) vg3) : Calls Tryz.prog 20 #[.pointer (some ⟨vb, 0, none⟩), .string sNN, .string s0, .string kA] w fun e w' => e = .returned (.int .i64 1) ∧ ValsAt w' vb bm (.pointer p) [vr2, vr3] 6 ∧ Fr [bm] w w' := by
  have := writeV vb bm p (.pointer p) vg3 [vr2, vr3] 5 vr6 w rfl hv hd.r vw3 (by decide) (by decide) (by decide)
  rw [ve6, vl6] at this; exact this
theorem vof2 (hv : ValsAt w vb bm (.pointer p) [vr2] 2) : Calls Tryz.prog 27 #[.pointer (some ⟨vb, 0, none⟩), .string sN] w fun e w' => ∃ u, e = .returned u ∧ Strs w' u [sY] ∧ Fr [] w w' := by
  have := ofV vb bm (.pointer p) [vr2] 2 sN w hv (by decide)
  rw [vo2] at this
  exact this.mono fun _ _ ⟨u, h1, h2, h3⟩ => ⟨u, h1, Strs.of_own h2 (by decide), h3⟩
theorem vof5 (hv : ValsAt w vb bm (.pointer p) [vr2, vr3] 5) : Calls Tryz.prog 27 #[.pointer (some ⟨vb, 0, none⟩), .string sN] w fun e w' => ∃ u, e = .returned u ∧ Strs w' u [sX, sY] ∧ Fr [] w w' := by
  have := ofV vb bm (.pointer p) [vr2, vr3] 5 sN w hv (by decide)
  rw [vo5] at this
  exact this.mono fun _ _ ⟨u, h1, h2, h3⟩ => ⟨u, h1, Strs.of_own h2 (by decide), h3⟩
theorem vof6 (hv : ValsAt w vb bm (.pointer p) [vr2, vr3] 6) : Calls Tryz.prog 27 #[.pointer (some ⟨vb, 0, none⟩), .string sM] w fun e w' => ∃ u, e = .returned u ∧ Strs w' u [] ∧ Fr [] w w' := by
  have := ofV vb bm (.pointer p) [vr2, vr3] 6 sM w hv (by decide)
  rw [vo6] at this
  exact this.mono fun _ _ ⟨u, h1, h2, h3⟩ => ⟨u, h1, Strs.of_own h2 (by decide), h3⟩
theorem vtell5 (hv : ValsAt w vb bm (.pointer p) [vr2, vr3] 5) : Calls Tryz.prog 22 #[.pointer (some ⟨vb, 0, none⟩)] w fun e w' => ∃ u, e = .returned u ∧ Words w' u [(sN, sX), (sN, sY)] ∧ Fr [] w w' := by
  have := tellV vb bm (.pointer p) [vr2, vr3] 5 w hv (by decide) (by decide)
  rw [vt5] at this; exact this
theorem vrows (K : Nat) (hK : K ≤ 1000000) (hv : ValsAt w vb bm (.pointer p) [vr2, vr3] K) : Calls Tryz.prog 25 #[.pointer (some ⟨vb, 0, none⟩)] w fun e w' => ∃ a c, e = .returned (.slice a 2 c) ∧ RowsR w' (.slice a 2 c) ([vr2, vr3].map Wr.rw) ∧ Fr [] w w' := by
  have := rowsV vb bm (.pointer p) [vr2, vr3] K w hv (by decide) hK
  refine this.mono fun _ _ ⟨u, h1, h2, h3⟩ => ?_
  obtain ⟨a, c, rfl⟩ := own_form h2
  exact ⟨a, c, h1, Recs.of_own h2 rfl (by decide), h3⟩
theorem vload5 {rv : Value} (hr : RowsR w rv ([vr2, vr3].map Wr.rw)) : Calls Tryz.prog 29 #[.pointer p, rv] w fun e w' => ∃ v2 b2, e = .returned (.tuple #[.pointer (some ⟨v2, 0, none⟩), .int .i64 0]) ∧ w.heap.size ≤ b2 ∧ ValsAt w' v2 b2 (.pointer p) [vr2, vr3] 2 ∧ Fr [] w w' := by
  refine (loadV p (.pointer p) rv _ w rfl hr (by decide)).mono fun _ _ ⟨h, f⟩ => ?_
  rcases h with ⟨_, v2, b2, h1, h2, h3, h4⟩ | ⟨h, _⟩
  · exact ⟨v2, b2, h1, h3, h4, f⟩
  · exact absurd vok h
theorem vload1 {rv : Value} (hr : RowsR w rv [⟨1, s0, s0, 0, s0, s0, false⟩]) : Calls Tryz.prog 29 #[.pointer p, rv] w fun e w' => e = .returned (.tuple #[.pointer none, .int .i64 5]) ∧ Fr [] w w' := by
  refine (loadV p (.pointer p) rv _ w rfl hr (by decide)).mono fun _ _ ⟨h, f⟩ => ?_
  rcases h with ⟨h, _⟩ | ⟨_, h⟩
  · exact absurd h vno
  · exact ⟨h, f⟩
theorem words_new2 (w : World) (a b : BS × BS) : Words (w.alloc (.cells #[.string a.1, .string a.2, .string b.1, .string b.2] 125)) (.slice (some ⟨w.heap.size, 0, none⟩) 2 2) [a, b] := by
  have := Recs.new lenWd w [a, b] 125 (by simp)
  simpa [encWd] using this
end
theorem isMp_lt {w : World} {k : Nat} (h : IsMp w k) : k < w.heap.size := by
  obtain ⟨es, i, h⟩ := h; exact rowLt h
set_option maxRecDepth 100000 in
set_option maxHeartbeats 4000000 in
theorem awakeV (w : World) :
    Calls Tryz.prog 16 #[] w fun e w' => e = .returned (.bool true) ∧ Fr [] w w' := by
  go_enter Tryz.func16, Tryz.ntmps16
  go_upto_region 2 with (go_at_call 63; refine (empty8 _).mono ?_; rintro e w1 ⟨dv, rfl, hd, f1⟩)
  obtain ⟨mN, hmN⟩ : ∃ m, m = w.heap.size := ⟨_, rfl⟩
  rw [← hmN] at hd
  have HmN : Hid (∀ k, k ∈ [mN, mN + 1] → w.heap.size ≤ k) := Lib.hid (fun k hk => by simp at hk; omega)
  clear hmN
  obtain ⟨db, rfl⟩ := hd.ptr
  have F := f1
  clear f1
  have ln : ∀ {m : Nat}, m ∉ ([] : List Nat) := List.not_mem_nil
  go_upto_region 3 with (first
    | (go_at_call 64; (with_reducible refine (idA _).mono ?_); rintro e wa ⟨rfl, f⟩; have hd := hd.fr f ln ln; have F := F.then f; clear f)
    | (go_at_call 64; (with_reducible refine (idB _).mono ?_); rintro e wb ⟨rfl, f⟩; have hd := hd.fr f ln ln; have F := F.then f; clear f)
    | (go_at_call 64; (with_reducible refine (idC _).mono ?_); rintro e wc ⟨rfl, f⟩; have hd := hd.fr f ln ln; have F := F.then f; clear f))
  have l0 : ([] : G).length ≤ 4096 := by decide
  have l1 : g1.length ≤ 4096 := by decide
  have l2 : vg2.length ≤ 4096 := by decide
  go_upto_region 6 with (first
    | (go_at_call 65; (with_reducible refine (addAt a1 b1 hd w0 (Strs.nil _) l0).mono ?_); rintro e wd ⟨rfl, hd, f⟩; have F := F.drop f HmN.out; clear f)
    | (go_at_call 65; (with_reducible refine (addAt vp2 vq2 (hd.fr ((Fr.refl _).alloc (.cells #[.string kA] 9)) ln ln) w1g (strs_new _ kA) l1).mono ?_); rintro e we ⟨rfl, hd, f⟩; have F := (F.alloc (.cells #[.string kA] 9)).drop f HmN.out; clear f)
    | (go_at_call 65; (with_reducible refine (addAt vp3 vq3 (hd.fr ((Fr.refl _).alloc (.cells #[.string kA] 9)) ln ln) vw2 (strs_new _ kA) l2).mono ?_); rintro e wf ⟨rfl, hd, f⟩; have F := (F.alloc (.cells #[.string kA] 9)).drop f HmN.out; clear f))
  go_upto_region 7 with (go_at_call 18; refine (emptyV _ _ rfl _).mono ?_; rintro e wh ⟨vb, rfl, hv, hvb, f⟩)
  obtain ⟨bm, hbm⟩ : ∃ m, m = wf.heap.size := ⟨_, rfl⟩
  rw [← hbm] at hv hvb
  have hdn : DagN [bm] wh (.pointer (some ⟨db, 0, none⟩)) vg3 := by
    have hdf := hd.fr f ln ln
    have x := isMp_lt (hd.maps mN (by simp))
    have y := isMp_lt (hd.maps (mN + 1) (by simp))
    exact .inr ⟨mN, mN + 1, hdf, by simp; omega, by simp; omega⟩
  have Hb : Hid (∀ x, x ∈ [bm] → w.heap.size ≤ x) := Lib.hid (fun x hx => by simp at hx; subst hx; rw [hbm]; exact F.size)
  have F : Fr [] w wh := F.then f
  have lb : ∀ x ∈ ([] : List Nat), x ∈ [bm] := fun _ h => absurd h List.not_mem_nil
  have ls : ∀ x ∈ [bm], x ∈ [bm] := fun _ h => h
  clear hd l0 l1 l2 HmN f hvb hbm
  go_wp2_with (first
    | (go_at_call 20; (with_reducible refine (vk1 hv hdn).mono ?_); rintro e wx ⟨rfl, hv, f⟩; have hdn := hdn.fr f ls; have F := F.drop f Hb.out; (try have hu1 := hu1.fr f); clear f)
    | (go_at_call 20; (with_reducible refine (vk2 hv hdn).mono ?_); rintro e wx ⟨rfl, hv, f⟩; have hdn := hdn.fr f ls; have F := F.drop f Hb.out; (try have hu1 := hu1.fr f); clear f)
    | (go_at_call 20; (with_reducible refine (vk3 hv hdn).mono ?_); rintro e wx ⟨rfl, hv, f⟩; have hdn := hdn.fr f ls; have F := F.drop f Hb.out; (try have hu1 := hu1.fr f); clear f)
    | (go_at_call 20; (with_reducible refine (vk4 hv hdn).mono ?_); rintro e wx ⟨rfl, hv, f⟩; have hdn := hdn.fr f ls; have F := F.drop f Hb.out; (try have hu1 := hu1.fr f); clear f)
    | (go_at_call 20; (with_reducible refine (vk5 hv hdn).mono ?_); rintro e wx ⟨rfl, hv, f⟩; have hdn := hdn.fr f ls; have F := F.drop f Hb.out; (try have hu1 := hu1.fr f); clear f)
    | (go_at_call 27; (with_reducible refine (vof2 hv).mono ?_); rintro e wx ⟨u, rfl, hu1, f⟩; obtain ⟨ua, uc, rfl⟩ := hu1.formN 1 rfl; have hv := hv.fr f ln; have hdn := hdn.fr f lb; have F := F.then f; clear f)
    | (go_at_call 25; (with_reducible refine (vrows 5 (by decide) hv).mono ?_); rintro e wx ⟨ua, uc, rfl, hr, f⟩; have hv := hv.fr f ln; have hdn := hdn.fr f lb; have F := F.then f; have hu1 := hu1.fr f; clear f)
    | (go_at_call 29; (with_reducible refine (vload5 hr).mono ?_); rintro e wx ⟨v2, b2, rfl, hb2, hv2, f⟩; have hv := hv.fr f ln; have hdn := hdn.fr f lb; have F := F.then f; have hu1 := hu1.fr f; clear f hr)
    | (go_at_call 29; (with_reducible refine (vload1 (row_new _ ⟨1, s0, s0, 0, s0, s0, false⟩)).mono ?_); rintro e wx ⟨rfl, f⟩; have f := ((Fr.refl _).alloc (.cells #[.int .i64 1, .string s0, .string s0, .int .i64 0, .string s0, .string s0, .bool false] 56)).then f; have hv := hv.fr f ln; have hv2 := hv2.fr f ln; have hdn := hdn.fr f lb; have F := F.then f; have hu1 := hu1.fr f; clear f)
    | (go_at_call 26; (with_reducible refine (textsT _ _ _ _ _ (hu1.fr ((Fr.refl _).alloc (.cells #[.string sY] 9))) (strs_new _ sY) rfl).mono ?_); rintro e wx ⟨rfl, f⟩; have f := ((Fr.refl _).alloc (.cells #[.string sY] 9)).then f; have hv := hv.fr f ln; have hv2 := hv2.fr f ln; have hdn := hdn.fr f lb; have F := F.then f; clear f hu1)
    | (go_at_call 27; (with_reducible refine (vof5 hv).mono ?_); rintro e wx ⟨u, rfl, hu1, f⟩; obtain ⟨ua, uc, rfl⟩ := hu1.formN 2 rfl; have hv := hv.fr f ln; have hv2 := hv2.fr f ln; have hdn := hdn.fr f lb; have F := F.then f; clear f)
    | (go_at_call 26; (with_reducible refine (textsT _ _ _ _ _ (hu1.fr ((Fr.refl _).alloc (.cells #[.string sX, .string sY] 9))) (strs_new2 _ sX sY) rfl).mono ?_); rintro e wx ⟨rfl, f⟩; have f := ((Fr.refl _).alloc (.cells #[.string sX, .string sY] 9)).then f; have hv := hv.fr f ln; have hv2 := hv2.fr f ln; have hdn := hdn.fr f lb; have F := F.then f; clear f hu1)
    | (go_at_call 22; (with_reducible refine (vtell5 hv).mono ?_); rintro e wx ⟨u, rfl, hu1, f⟩; obtain ⟨ua, uc, rfl⟩ := hu1.formN 2 rfl; have hv := hv.fr f ln; have hv2 := hv2.fr f ln; have hdn := hdn.fr f lb; have F := F.then f; clear f)
    | (go_at_call 21; (with_reducible refine (sameWords _ _ _ _ _ (hu1.fr ((Fr.refl _).alloc (.cells #[.string sN, .string sX, .string sN, .string sY] 125))) (words_new2 _ (sN, sX) (sN, sY)) rfl).mono ?_); rintro e wx ⟨rfl, f⟩; have f := ((Fr.refl _).alloc (.cells #[.string sN, .string sX, .string sN, .string sY] 125)).then f; have hv := hv.fr f ln; have hv2 := hv2.fr f ln; have hdn := hdn.fr f lb; have F := F.then f; clear f hu1)
    | (go_at_call 25; (with_reducible refine (vrows 2 (by decide) hv2).mono ?_); rintro e wx ⟨ua, uc, rfl, hr, f⟩; have hv := hv.fr f ln; have hdn := hdn.fr f lb; have F := F.then f; clear f hv2 hr)
    | (go_at_call 20; (with_reducible refine (vk6 hv hdn).mono ?_); rintro e wx ⟨rfl, hv, f⟩; have F := F.drop f Hb.out; clear f hdn)
    | (go_at_call 27; (with_reducible refine (vof6 hv).mono ?_); rintro e wx ⟨u, rfl, hu1, f⟩; obtain ⟨ua, uc, rfl⟩ := hu1.formN 0 rfl; have F := F.then f; clear f hv hu1))
  go_ret
  exact ⟨rfl, F⟩
end Go.Proofs.YtppgjglfoibfcaaGreat
