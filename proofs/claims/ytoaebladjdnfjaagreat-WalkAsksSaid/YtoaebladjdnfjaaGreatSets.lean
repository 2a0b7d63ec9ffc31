import Derived.Test.YtoaebladjdnfjaaGreatIdsOf
import Derived.Test.YtoaebladjdnfjaaGreatDagPast
set_option linter.unusedSimpArgs false
set_option linter.unusedVariables false
/-
  A map that counts texts, as a set.
-/
namespace Go.Proofs.YtoaebladjdnfjaaGreat
open Go.RowKit

/-- The map has just the texts of S, each with a number from 1 to K. -/
structure Cnt (K : Nat) (l : Ents) (S : BS → Prop) : Prop where
  yes : ∀ x, S x → ∃ n : Nat, 1 ≤ n ∧ n ≤ K ∧ lk l x = some (.int .i64 n)
  no : ∀ x, ¬ S x → lk l x = none
theorem Cnt.val {K : Nat} {l : Ents} {S : BS → Prop} (h : Cnt K l S) (x : BS) : ∃ n : Nat, n ≤ K ∧ (lk l x).getD (.int .i64 0) = .int .i64 n ∧ (0 < n ↔ S x) := by
  by_cases hs : S x
  · obtain ⟨n, h1, h2, h3⟩ := h.yes x hs
    exact ⟨n, h2, by rw [h3]; rfl, ⟨fun _ => hs, fun _ => h1⟩⟩
  · exact ⟨0, Nat.zero_le _, by rw [h.no x hs]; rfl, ⟨fun h => absurd h (by omega), fun h => absurd h hs⟩⟩
theorem Cnt.nil (K : Nat) : Cnt K [] (fun _ => False) := ⟨fun _ h => h.elim, fun _ _ => rfl⟩
theorem Cnt.congr {K : Nat} {l : Ents} {S T : BS → Prop} (h : Cnt K l S) (e : ∀ x, S x ↔ T x) : Cnt K l T := ⟨fun x hx => h.yes x ((e x).2 hx), fun x hx => h.no x (fun k => hx ((e x).1 k))⟩
theorem Cnt.up {K : Nat} {l : Ents} {S : BS → Prop} (h : Cnt K l S) {x : BS} {n : Nat} (hn : (lk l x).getD (.int .i64 0) = .int .i64 n) : Cnt (K + 1) (up l x (.int .i64 ((n : Int) + 1))) (fun y => S y ∨ y = x) where
  yes y hy := by
    rw [lk_up]
    by_cases hyx : y = x
    · subst hyx
      rw [if_pos rfl]
      obtain ⟨m, h1, h2, _⟩ := h.val y
      have hmn : m = n := by rw [h2] at hn; injection hn with _ hn; omega
      exact ⟨n + 1, by omega, by omega, by push_cast; rfl⟩
    · rw [if_neg hyx]
      obtain ⟨m, h1, h2, h3⟩ := h.yes y (hy.resolve_right hyx)
      exact ⟨m, h1, by omega, h3⟩
  no y hy := by
    rw [lk_up, if_neg (fun e => hy (.inr e))]
    exact h.no y (fun k => hy (.inl k))

theorem i64_succ (n : Nat) (h : n ≤ 100000000) : IntKind.i64.wrap ((n : Int) + 1) = (n : Int) + 1 := IntWalk.i64_in _ (by omega)

set_option maxRecDepth 100000 in
set_option maxHeartbeats 2000000 in
theorem setD (v : Value) (xs : List BS) (w : World) (hs : Strs w v xs) (hl : xs.length ≤ 1000000) :
    Calls Tryz.prog 36 #[v] w fun e w' => ∃ b l, e = .returned (.map (some b)) ∧ w.heap.size ≤ b ∧ Mp w' b l ∧ Cnt 1000000 l (· ∈ xs) ∧ Fr [] w w' := by
  obtain ⟨a, c, rfl, hc, hm, hn⟩ := hs.form
  obtain ⟨n, hnx⟩ : ∃ n, n = xs.length := ⟨_, rfl⟩
  rw [← hnx] at hs hc hn hl ⊢
  have Hn := Lib.hid hnx; clear hnx
  have hmm := @run_makeMap Tryz.prog
  go_enter Tryz.func36, Tryz.ntmps36
  go_upto_region 2 with fail
  have f0 := (Fr.refl w).alloc (.map #[] 0)
  have hM := Mp.made w
  have hbw : w.heap.size ≤ w.heap.size := Nat.le_refl _
  generalize w.alloc (.map #[] 0) = wA at f0 hM ⊢
  obtain ⟨B, hB⟩ : ∃ B, B = w.heap.size := ⟨_, rfl⟩
  rw [← hB] at hM ⊢
  have hBw : w.heap.size ≤ B := by rw [hB]; exact Nat.le_refl _
  clear hB hmm hbw
  go_wp2
  go_loopw [9] (fun i wr => ∃ (k : Nat) (l : Ents), k ≤ n ∧ i = .int .i64 k ∧ Mp wr B l ∧ Hid (Cnt k l (· ∈ xs.take k)) ∧ Fr [] w wr) (fun i _ => n - (intOf i).toNat)
  case atStart => exact ⟨0, [], Nat.zero_le _, rfl, hM, Lib.hid ((Cnt.nil 0).congr (by simp)), f0⟩
  case round =>
    obtain ⟨k, l, hk, rfl, hM, Hc, hf⟩ := hrel
    have hs := hs.fr hf
    by_cases hlt : k < n
    · obtain ⟨x, hx⟩ : ∃ s, xs[k]? = some s := ⟨_, List.getElem?_eq_getElem (Hn.out ▸ hlt)⟩
      obtain ⟨b, o, hidx, hcell⟩ := hs.at_ Hn.out 23 9 Tryz.underlying23 Tryz.sizeOf9 k x hx
      have Hx := Lib.hid hx; clear hx
      obtain ⟨m, hmk, hmv, hms⟩ := Hc.out.val x
      have hlk := hM.lookI x
      rw [hmv] at hlk
      obtain ⟨w2, hput, hM2, f2⟩ := hM.put Tryz.underlying57 Tryz.underlying9 x (.int .i64 ((m : Int) + 1))
      have hm1 := i64_succ m (by omega)
      have Hmv := Lib.hid hmv
      clear hmv
      go_wp2
      go_roundw
      case rel =>
        refine ⟨k + 1, _, by omega, by go_num, hM2, Lib.hid ((Hc.out.up Hmv.out).congr fun y => ?_), hf.drop f2 (fun z hz => by simp at hz; subst hz; exact hBw)⟩
        rw [mem_take_succ Hx.out]
      case measure => simp [intOf]; omega
    · go_wp2
      go_ret
      refine ⟨B, l, rfl, hBw, hM, ?_, hf⟩
      have h1 := Hc.out
      rw [List.take_of_length_le (by have := Hn.out; omega)] at h1
      exact ⟨fun x hx => by obtain ⟨n, a, b, c⟩ := h1.yes x hx; exact ⟨n, a, by omega, c⟩, h1.no⟩
end Go.Proofs.YtoaebladjdnfjaaGreat
