import Derived.Test.YtppgjglfoibfcaaGreatFunc
import Derived.Test.YtppgjglfoibfcaaGreatKeys
import Derived.Test.YtppgjglfoibfcaaGreatLay2
import Derived.Test.YtppgjglfoibfcaaGreatIds
import Derived.Sort.OwnSorted
import Derived.Lib.OwnBridge
import Derived.Lib.RowBridge
set_option linter.unusedSimpArgs false
set_option linter.unusedVariables false
/-
  slices.Sort and Compact on texts that the call owns; ids.Of.
-/
namespace Go.Proofs.YtppgjglfoibfcaaGreat
open Go.RowKit Go.Sort

def sortB (xs : List BS) : List BS := ((xs.map fun x => x.data.toList).mergeSort fun x y => decide (x ≤ y)).map bsOf
def compB (xs : List BS) : List BS := (Lib.compact (xs.map fun x => x.data.toList)).map bsOf
theorem bsOf_to (x : BS) : bsOf x.data.toList = x := bs_ext (by simp [bsOf])
theorem map_bsOf (xs : List BS) : (xs.map fun x => x.data.toList).map bsOf = xs := by
  rw [List.map_map]
  conv => rhs; rw [← List.map_id xs]
  exact List.map_congr_left fun x _ => bsOf_to x
theorem enc_map (xs : List BS) : (xs.map fun x => x.data.toList).map encStr = xs.map Value.string := by
  rw [List.map_map]
  refine List.map_congr_left fun x _ => ?_
  show Value.string (bsOf x.data.toList) = _
  rw [bsOf_to]
theorem length_sortB (xs : List BS) : (sortB xs).length = xs.length := by simp [sortB, List.length_mergeSort]
theorem mem_sortB (xs : List BS) (x : BS) : x ∈ sortB xs ↔ x ∈ xs := by
  unfold sortB
  rw [List.mem_map]
  constructor
  · rintro ⟨a, ha, rfl⟩
    rw [List.mem_mergeSort] at ha
    obtain ⟨y, hy, rfl⟩ := List.mem_map.1 ha
    rwa [bsOf_to]
  · intro h
    exact ⟨x.data.toList, by rw [List.mem_mergeSort]; exact List.mem_map.2 ⟨x, h, rfl⟩, bsOf_to x⟩

theorem compact_spec (d : Array (List UInt8)) (hs : d.toList.Pairwise (· ≤ ·)) : ∀ m, m ≤ d.size → (Lib.compactUpTo d m).Pairwise (· < ·) ∧ ∀ x, x ∈ Lib.compactUpTo d m ↔ ∃ i, i < m ∧ d[i]! = x
  | 0, _ => ⟨by simp [Lib.compactUpTo], by simp [Lib.compactUpTo]⟩
  | m + 1, hm => by
    obtain ⟨h1, h2⟩ := compact_spec d hs m (by omega)
    have hle : ∀ i, i < m → d[i]! ≤ d[m - 1]! := by
      intro i hi
      rcases Nat.lt_or_ge i (m - 1) with h | h
      · rw [List.pairwise_iff_getElem] at hs
        have := hs i (m - 1) (by simp; omega) (by simp; omega) h
        rwa [Array.getElem_toList, Array.getElem_toList, ← getElem!_pos d i (by omega), ← getElem!_pos d (m - 1) (by omega)] at this
      · have : i = m - 1 := by omega
        subst this; exact List.le_refl _
    have hlm : 0 < m → d[m - 1]! ≤ d[m]! := by
      intro h0
      rw [List.pairwise_iff_getElem] at hs
      have := hs (m - 1) m (by simp; omega) (by simp; omega) (by omega)
      rwa [Array.getElem_toList, Array.getElem_toList, ← getElem!_pos d (m - 1) (by omega), ← getElem!_pos d m (by omega)] at this
    rw [Lib.compactUpTo_succ]
    by_cases hk : Lib.keeps d m = true
    · rw [if_pos hk]
      constructor
      · rw [List.pairwise_append]
        refine ⟨h1, by simp, fun a ha b hb => ?_⟩
        obtain ⟨i, hi, rfl⟩ := (h2 a).1 ha
        have hb' : b = d[m]! := by simpa using hb
        subst hb'
        have hne : d[m]! ≠ d[m - 1]! := by
          unfold Lib.keeps at hk
          rcases (of_decide_eq_true hk) with h | h
          · omega
          · exact h
        refine Decidable.byContradiction fun h => hne ?_
        exact List.le_antisymm (List.le_trans (List.not_lt.1 h) (hle i hi)) (hlm (by omega))
      · intro x
        rw [List.mem_append, h2]
        constructor
        · rintro (⟨i, hi, rfl⟩ | h)
          · exact ⟨i, by omega, rfl⟩
          · exact ⟨m, by omega, (List.mem_singleton.1 h).symm⟩
        · rintro ⟨i, hi, rfl⟩
          rcases Nat.lt_or_ge i m with h | h
          · exact .inl ⟨i, h, rfl⟩
          · have : i = m := by omega
            subst this; simp
    · rw [if_neg hk, List.append_nil]
      refine ⟨h1, fun x => ?_⟩
      rw [h2]
      constructor
      · rintro ⟨i, hi, rfl⟩; exact ⟨i, by omega, rfl⟩
      · rintro ⟨i, hi, rfl⟩
        rcases Nat.lt_or_ge i m with h | h
        · exact ⟨i, h, rfl⟩
        · have e : i = m := by omega
          subst e
          have : ¬ (i = 0 ∨ d[i]! ≠ d[i - 1]!) := fun h => hk (by unfold Lib.keeps; exact decide_eq_true h)
          have h3 : ¬ i = 0 := fun h => this (.inl h)
          have h4 : d[i]! = d[i - 1]! := Decidable.byContradiction fun h => this (.inr h)
          exact ⟨i - 1, by omega, h4.symm⟩
theorem comp_sort_bytes (xs : List BS) : (compB (sortB xs)).Pairwise BLt ∧ ∀ x, x ∈ compB (sortB xs) ↔ x ∈ xs := by
  have tr : ∀ a b c : List UInt8, decide (a ≤ b) = true → decide (b ≤ c) = true → decide (a ≤ c) = true := fun a b c h1 h2 => by simp only [decide_eq_true_eq] at *; exact List.le_trans h1 h2
  have to : ∀ a b : List UInt8, (decide (a ≤ b) || decide (b ≤ a)) = true := fun a b => by simp only [Bool.or_eq_true, decide_eq_true_eq]; exact List.le_total a b
  have hs := List.pairwise_mergeSort tr to (xs.map fun x => x.data.toList)
  have e : (sortB xs).map (fun x => x.data.toList) = (xs.map fun x => x.data.toList).mergeSort fun x y => decide (x ≤ y) := by
    unfold sortB
    rw [List.map_map]
    conv => rhs; rw [← List.map_id ((xs.map fun x => x.data.toList).mergeSort fun x y => decide (x ≤ y))]
    exact List.map_congr_left fun x _ => by simp [bsOf]
  unfold compB
  rw [e]
  obtain ⟨h1, h2⟩ := compact_spec ((xs.map fun x => x.data.toList).mergeSort fun x y => decide (x ≤ y)).toArray (by simpa using hs) _ (Nat.le_refl _)
  have hc : Lib.compact ((xs.map fun x => x.data.toList).mergeSort fun x y => decide (x ≤ y)) = Lib.compactUpTo ((xs.map fun x => x.data.toList).mergeSort fun x y => decide (x ≤ y)).toArray ((xs.map fun x => x.data.toList).mergeSort fun x y => decide (x ≤ y)).toArray.size := rfl
  rw [hc]
  refine ⟨?_, fun x => ?_⟩
  · rw [List.pairwise_map]
    refine h1.imp ?_
    intro a b h
    show (bsOf a).data.toList < (bsOf b).data.toList
    simpa [bsOf] using h
  · rw [← mem_sortB xs x, List.mem_map]
    unfold sortB
    rw [List.mem_map]
    constructor
    · rintro ⟨a, ha, rfl⟩
      obtain ⟨i, hi, rfl⟩ := (h2 a).1 ha
      refine ⟨_, ?_, rfl⟩
      rw [getElem!_pos _ i hi]
      simp
    · rintro ⟨a, ha, rfl⟩
      obtain ⟨i, hi⟩ := List.mem_iff_getElem?.1 ha
      obtain ⟨hlt, hia⟩ := List.getElem?_eq_some_iff.1 hi
      exact ⟨a, (h2 a).2 ⟨i, by simpa using hlt, by rw [getElem!_pos _ i (by simpa using hlt)]; simpa using hia⟩, rfl⟩
theorem comp_sort_of (xs : List BS) : compB (sortB (xs.filter fun x => decide (x.size = 32))) = ofL xs := by
  obtain ⟨h1, h2⟩ := comp_sort_bytes (xs.filter fun x => decide (x.size = 32))
  refine sorted_ext h1 (sorted_ofL xs) fun x => ?_
  rw [h2, mem_ofL, List.mem_filter, decide_eq_true_eq]

theorem Kp.of_grown {T : List Nat} {w w' : World} {g : Nat} (hg : w.grownBy w' (some g)) (hT : g ∈ T) : Kp T w w' :=
  ⟨hg.os, hg.tape, hg.output, hg.size, fun k hk hn => hg.block k hk (fun e => hn (by injection e with e; rw [e]; exact hT))⟩

theorem own_T {w : World} {base e size n : Nat} {v : Value} {xs : List Value} (h : w.ownsRow base e size v n xs) : ∃ T : List Nat, (∀ g, v.ownBlock = some g → g ∈ T) ∧ ∀ x ∈ T, base ≤ x := by
  cases hu : v.ownBlock with
  | none => exact ⟨[], by simp, by simp⟩
  | some g => exact ⟨[g], by simp, fun x hx => by rw [List.mem_singleton.1 hx]; exact own_base0 h g hu⟩
/-- slices.Sort, of what the call owns. -/
theorem sortOwn (v : Value) (xs : List BS) (base : Nat) (T : List Nat) (w : World) (hs : w.ownsRow base 9 1 v xs.length (xs.map .string)) (hl : xs.length ≤ 1000000) (hT : ∀ g, v.ownBlock = some g → g ∈ T) :
    Calls Tryz.prog 80 #[v] w fun e w' => e = .returned (.tuple #[]) ∧ w'.ownsRow base 9 1 v xs.length ((sortB xs).map .string) ∧ Kp T w w' := by
  have hs0 := hs
  rcases hs.2 with ⟨rfl, h0⟩ | ⟨g, cap, cur, rfl, hb, hg, h1, h2, h3, h4⟩
  · obtain rfl : xs = [] := List.eq_nil_of_length_eq_zero h0
    refine (AnyM.slices_Sort_string_none Tryz.laySort none 0 w).mono ?_
    rintro e w' ⟨rfl, rfl⟩
    exact ⟨rfl, by simpa [sortB] using hs0, .refl _ _⟩
  · have hH := holds_of_block (ss := xs.map fun x => x.data.toList) hg (by rw [enc_map]; simpa using h4)
    have c := AnyM.slices_Sort_string Tryz.laySort g 0 cap (xs.map fun x => x.data.toList) w hH (row_lt hg) (by simp; omega)
    simp only [List.length_map] at c
    refine c.mono ?_
    rintro e w' ⟨rfl, n, os, rfl⟩
    refine ⟨rfl, ?_, Kp.of_grown (grownBy_sorted _) (hT g rfl)⟩
    have := ownsRow_sorted (n := n) (os := os) (ss := xs.map fun x => x.data.toList) (ts := (xs.map fun x => x.data.toList).mergeSort fun x y => decide (x ≤ y)) (by simp) hb hg (by simpa using h1) h2 h3
    simp only [List.length_map] at this
    have e1 : ((xs.map fun x => x.data.toList).mergeSort fun x y => decide (x ≤ y)).map encStr = (sortB xs).map Value.string := by unfold sortB; rw [List.map_map]; rfl
    rw [e1] at this
    exact this
/-- slices.Compact, of what the call owns. -/
theorem compOwn (v : Value) (xs : List BS) (base : Nat) (T : List Nat) (w : World) (hs : w.ownsRow base 9 1 v xs.length (xs.map .string)) (hl : xs.length ≤ 1000000) (hT : ∀ g, v.ownBlock = some g → g ∈ T) :
    Calls Tryz.prog 81 #[v] w fun e w' => ∃ u, e = .returned u ∧ w'.ownsRow base 9 1 u (compB xs).length ((compB xs).map .string) ∧ (∀ g, u.ownBlock = some g → g ∈ T) ∧ Kp T w w' := by
  have hs0 := hs
  rcases hs.2 with ⟨rfl, h0⟩ | ⟨g, cap, cur, rfl, hb, hg, h1, h2, h3, h4⟩
  · obtain rfl : xs = [] := List.eq_nil_of_length_eq_zero h0
    refine (Any.slices_Compact_string_empty Tryz.layCompact none 0 w).mono ?_
    rintro e w' ⟨rfl, rfl⟩
    exact ⟨_, rfl, hs0, hT, .refl _ _⟩
  · have hH := holds_of_block (ss := xs.map fun x => x.data.toList) hg (by rw [enc_map]; simpa using h4)
    have c := Any.slices_Compact_string Tryz.layCompact g 0 cap (xs.map fun x => x.data.toList) w hH (by simp; omega) (by simpa using h1)
    simp only [List.length_map] at c
    have hle := Lib.compact_length_le (xs.map fun x => x.data.toList)
    simp only [List.length_map] at hle
    refine c.mono ?_
    rintro e w' ⟨rfl, q, rfl⟩
    have hcl : (compB xs).length = (Lib.compact (xs.map fun x => x.data.toList)).length := by simp [compB]
    refine ⟨_, rfl, ?_, fun g' h => hT g' h, ?_⟩
    · have := Lib.ownsRow_putRow (enc := encStr) (q := q) (k := (Lib.compact (xs.map fun x => x.data.toList)).length) (zs := xs.map fun x => x.data.toList) (ys := Lib.compact (xs.map fun x => x.data.toList) ++ List.replicate (xs.length - (Lib.compact (xs.map fun x => x.data.toList)).length) []) (by rw [enc_map]; exact hs0) (by simp; omega) hle
      rw [List.take_left] at this
      have e1 : (Lib.compact (xs.map fun x => x.data.toList)).map encStr = (compB xs).map Value.string := by unfold compB; rw [List.map_map]; rfl
      rw [e1] at this
      rw [hcl]
      exact this
    · exact ⟨rfl, rfl, rfl, by simp [putRow, mapBlock, Sort.ahead], fun k hk hn => by
        have : g ≠ k := fun e => hn (e ▸ hT g rfl)
        simp [putRow, mapBlock, Sort.ahead, Array.getElem?_modify, this]⟩
end Go.Proofs.YtppgjglfoibfcaaGreat
