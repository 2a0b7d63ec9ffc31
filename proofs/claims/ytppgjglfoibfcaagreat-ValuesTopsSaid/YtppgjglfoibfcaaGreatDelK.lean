import Derived.Test.YtppgjglfoibfcaaGreatRec
import Derived.Test.YtppgjglfoibfcaaGreatOrd
set_option linter.unusedSimpArgs false
set_option linter.unusedVariables false
/-
  What a row of structs holds while slices.DeleteFunc goes through it.
-/
namespace Go.Proofs.YtppgjglfoibfcaaGreat
open Go.RowKit
structure DelAtK {α : Type} (k : Nat) (enc : α → List Value) (p : α → Bool) (xs : List α) (i j cap : Nat) (cur : Array Value) : Prop where
  len : i = ((xs.take j).filter fun x => !p x).length
  lt : i < j
  size : cur.size = cap * k
  low : ∀ (q : Nat) (x : α), ((xs.take j).filter fun x => !p x)[q]? = some x → ∀ t y, (enc x)[t]? = some y → cur[q * k + t]? = some y
  high : ∀ (q : Nat) (x : α), j ≤ q → xs[q]? = some x → ∀ t y, (enc x)[t]? = some y → cur[q * k + t]? = some y
section
variable {α : Type} {k : Nat} {enc : α → List Value} {p : α → Bool} {xs : List α}
theorem DelAtK.skip {i j cap : Nat} {cur : Array Value} {x : α} (h : DelAtK k enc p xs i j cap cur) (hx : xs[j]? = some x) (hp : p x = true) : DelAtK k enc p xs i (j + 1) cap cur := by
  have e : (xs.take (j + 1)).filter (fun x => !p x) = (xs.take j).filter fun x => !p x := by rw [take_snoc hx, List.filter_append]; simp [hp]
  exact ⟨by rw [e]; exact h.len, by have := h.lt; omega, h.size, by rw [e]; exact h.low, fun q x hq => h.high q x (by omega)⟩
theorem DelAtK.keep (he : ∀ x, (enc x).length = k) {i j cap : Nat} {cur cur' : Array Value} {x : α} (h : DelAtK k enc p xs i j cap cur) (hx : xs[j]? = some x) (hp : p x = false) (hj : j < cap) (hs : cur'.size = cur.size)
    (h1 : ∀ t y, (enc x)[t]? = some y → cur'[i * k + t]? = some y) (h2 : ∀ r, (r < i * k ∨ i * k + k ≤ r) → cur'[r]? = cur[r]?) : DelAtK k enc p xs (i + 1) (j + 1) cap cur' := by
  have e : (xs.take (j + 1)).filter (fun x => !p x) = ((xs.take j).filter fun x => !p x) ++ [x] := by rw [take_snoc hx, List.filter_append]; simp [hp]
  have hlt := h.lt
  refine ⟨by rw [e, List.length_append, ← h.len]; rfl, by omega, by rw [hs]; exact h.size, ?_, ?_⟩
  · rw [e]
    intro q y hy t v hv
    have ht : t < k := by have := lt_of_getElem? hv; rwa [he] at this
    rcases Nat.lt_trichotomy q i with hq | hq | hq
    · rw [List.getElem?_append_left (by rw [← h.len]; exact hq)] at hy
      have hm : (q + 1) * k ≤ i * k := Nat.mul_le_mul_right _ hq
      rw [Nat.succ_mul] at hm
      rw [h2 _ (.inl (by omega))]
      exact h.low q y hy t v hv
    · subst hq
      rw [List.getElem?_append_right (by rw [← h.len]; exact Nat.le_refl _), ← h.len] at hy
      simp at hy; subst hy
      exact h1 t v hv
    · have := lt_of_getElem? hy
      rw [List.length_append, ← h.len] at this
      simp at this; omega
  · intro q y hq hy t v hv
    have hm : (i + 1) * k ≤ q * k := Nat.mul_le_mul_right _ (by omega)
    rw [Nat.succ_mul] at hm
    rw [h2 _ (.inr (by omega))]
    exact h.high q y (by omega) hy t v hv
/-- At the start: nothing was taken out yet ahead of i0, and x at i0 goes. -/
theorem DelAtK.start (he : ∀ x, (enc x).length = k) {n i0 cap : Nat} {cur : Array Value} {x0 : α} (hn : n = xs.length) (hx : xs[i0]? = some x0) (hp0 : p x0 = true) (hbef : ∀ y ∈ xs.take i0, p y = false)
    (hs : cur.size = cap * k) (hc : cur.toList.take (n * k) = xs.flatMap enc) : DelAtK k enc p xs i0 (i0 + 1) cap cur := by
  have e1 : (xs.take (i0 + 1)).filter (fun x => !p x) = xs.take i0 := by
    rw [take_snoc hx, List.filter_append, List.filter_eq_self.2 (fun x hx => by simp [hbef x hx])]; simp [hp0]
  have hcell : ∀ (q : Nat) (x : α), xs[q]? = some x → ∀ t y, (enc x)[t]? = some y → cur[q * k + t]? = some y := by
    intro q x hx t y hy
    have ht : t < k := by have := lt_of_getElem? hy; rwa [he] at this
    have hq : q < n := by rw [hn]; exact lt_of_getElem? hx
    have hm : (q + 1) * k ≤ n * k := Nat.mul_le_mul_right _ hq
    rw [Nat.succ_mul] at hm
    have h2 : (cur.toList.take (n * k))[q * k + t]? = (xs.flatMap enc)[q * k + t]? := by rw [hc]
    rw [flat_get he hx ht, hy, List.getElem?_take_of_lt (by omega), Array.getElem?_toList] at h2
    exact h2
  have hlt := lt_of_getElem? hx
  exact ⟨by rw [e1, List.length_take]; omega, by omega, hs, by rw [e1]; intro q x hq; exact hcell q x (by rw [← hq, List.getElem?_take_of_lt (by have := lt_of_getElem? hq; simp at this; omega)]), fun q x _ hx => hcell q x hx⟩
/-- At the end: what is left, at the head of the row. -/
theorem DelAtK.fin (he : ∀ x, (enc x).length = k) {i j cap : Nat} {cur cur' : Array Value} (h : DelAtK k enc p xs i j cap cur) (hj : xs.length ≤ j) (hs : cur'.size = cur.size) (hc : ∀ q, q < i * k → cur'[q]? = cur[q]?) :
    cur'.toList.take (i * k) = (xs.filter fun x => !p x).flatMap enc := by
  have e1 : xs.take j = xs := List.take_of_length_le hj
  have e2 := h.len
  have e3 := h.low
  rw [e1] at e2 e3
  apply List.ext_getElem?
  intro q
  by_cases hq : q < i * k
  · have hk : 0 < k := by rcases Nat.eq_zero_or_pos k with h | h; (subst h; simp at hq); exact h
    have hd : q / k < i := Nat.div_lt_of_lt_mul (by rw [Nat.mul_comm]; exact hq)
    have hm : q % k < k := Nat.mod_lt _ hk
    have hqe : q = q / k * k + q % k := by rw [Nat.mul_comm]; exact (Nat.div_add_mod q k).symm
    obtain ⟨y, hy⟩ : ∃ y, (xs.filter fun x => !p x)[q / k]? = some y := ⟨_, List.getElem?_eq_getElem (by omega)⟩
    obtain ⟨v, hv⟩ : ∃ v, (enc y)[q % k]? = some v := ⟨_, List.getElem?_eq_getElem (by rw [he]; exact hm)⟩
    rw [List.getElem?_take_of_lt hq, Array.getElem?_toList, hc q hq]
    have h1 := e3 _ y hy _ v hv
    have h2 := flat_get he hy hm
    rw [← hqe] at h1 h2
    rw [h1, h2, hv]
  · rw [List.getElem?_eq_none (by simp; omega), List.getElem?_eq_none (by rw [flat_len he]; rw [← e2]; omega)]
end
end Go.Proofs.YtppgjglfoibfcaaGreat
