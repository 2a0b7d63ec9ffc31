import Derived.Test.YtppgjglfoibfcaaGreatRef04b
import Derived.Test.YtppgjglfoibfcaaGreatLay
set_option linter.unusedSimpArgs false
set_option linter.unusedVariables false
/-
  The library's functions on slices of texts: Clone, BinarySearch, Insert.
-/
namespace Go.Proofs.YtppgjglfoibfcaaGreat
open Go.RowKit

set_option maxRecDepth 100000 in
theorem clone38 (v : Value) (xs : List BS) (w : World) (hs : Strs w v xs) (hl : xs.length ≤ 1000000) :
    Calls Tryz.prog 151 #[v] w fun e w' => ∃ u, e = .returned u ∧ w'.ownsRow w.heap.size 9 1 u xs.length (xs.map .string) ∧ Fr [] w w' := by
  obtain ⟨a, c, rfl, hc, hm, hn⟩ := hs.form
  obtain ⟨n, hnx⟩ : ∃ n, n = xs.length := ⟨_, rfl⟩
  rw [← hnx] at hs hc hn hl ⊢
  have hq : ∀ (w : World) (a : Option Addr) (n c n' c' : Nat), (binOp .eql 51 (.slice a n c) (.slice none n' c')).run Tryz.prog w = .ok (.bool a.isNone) w := fun w a n c n' c' => Lib.run_eql_slice_nil w _ _ a n c n' c' Tryz.underlying51
  cases a with
  | none =>
    have h0 : n = 0 := by
      obtain ⟨_, _, a', c', h5, _, _, h8, h9⟩ := hs
      injection h5 with e1
      subst e1
      rcases Nat.eq_zero_or_pos n with h | h
      · exact h
      · obtain ⟨b, o, e, _⟩ := h9 (hnx ▸ h); cases e
    subst h0
    obtain rfl : xs = [] := List.eq_nil_of_length_eq_zero hnx.symm
    clear hnx hs hc hn hl hm
    have hq1 : ∀ w : World, (binOp .eql 51 (.slice none 0 c) (.slice none 0 0)).run Tryz.prog w = .ok (.bool true) w := fun w => hq w none 0 c 0 0
    clear hq
    go_enter Tryz.func151, Tryz.ntmps151
    go_wp2
    go_ret
    exact ⟨_, rfl, World.ownsRow_nil _ _ _ _, .refl _⟩
  | some a =>
    have Hn := Lib.hid hnx; clear hnx
    have f0 := (Fr.refl w).alloc (.cells #[] 9)
    go_enter Tryz.func151, Tryz.ntmps151
    go_wp2_with (at_builtin; refine wpList_appS rfl _ _ rfl _ _ [] rfl (own_empty w) _ _ rfl (hs.fr f0) (by have := Hn.out; simp; omega) (by simp) ?_; intro v1 w1 hown1 hg1 hat1; have f1 := f0.grown hg1 (fun j hj => by cases hj; exact Nat.le_refl _))
    go_ret
    refine ⟨_, rfl, ?_, f1⟩
    rw [Hn.out]
    simpa using hown1

theorem sorted_split {xs : List BS} (h : xs.Pairwise BLt) (x : BS) : ∃ k, k ≤ xs.length ∧ (∀ y ∈ xs.take k, BLt y x) ∧ ∀ y ∈ xs.drop k, ¬ BLt y x := by
  induction xs with
  | nil => exact ⟨0, Nat.le_refl _, by simp, by simp⟩
  | cons a xs ih =>
    obtain ⟨h1, h2⟩ := List.pairwise_cons.1 h
    by_cases ha : BLt a x
    · obtain ⟨k, k1, k2, k3⟩ := ih h2
      exact ⟨k + 1, by simpa using k1, by simp only [List.take_succ_cons, List.mem_cons]; rintro y (rfl | hy); exact ha; exact k2 y hy, by simpa using k3⟩
    · refine ⟨0, Nat.zero_le _, by simp, fun y hy => ?_⟩
      simp at hy
      rcases hy with rfl | hy
      · exact ha
      · exact fun hyx => ha (blt_trans (h1 y hy) hyx)

theorem bin39 (v : Value) (xs : List BS) (x : BS) (w : World) (hs : Strs w v xs) (hl : xs.length ≤ 1000000) (hx : xs.Pairwise BLt) :
    Calls Tryz.prog 152 #[v, .string x] w fun e w' => ∃ (k : Nat) (f : Bool), e = .returned (.tuple #[.int .i64 k, .bool f]) ∧ k ≤ xs.length ∧ (∀ y ∈ xs.take k, BLt y x) ∧ (∀ y ∈ xs.drop k, ¬ BLt y x) ∧ Dr w w' := by
  obtain ⟨k, k1, k2, k3⟩ := sorted_split hx x
  obtain ⟨n, hnx⟩ : ∃ n, n = xs.length := ⟨_, rfl⟩
  obtain ⟨_, hn', a, c, rfl, hc, hm, h8, h9⟩ := hs
  rw [← hnx] at hn' hc h9 k1 hl ⊢
  rcases Nat.eq_zero_or_pos n with h0 | h0
  · subst h0
    refine Calls.mono (Any2.slices_BinarySearch_string_empty Tryz.layBin a c x w) ?_
    rintro e w' ⟨rfl, rfl⟩
    exact ⟨k, false, by have : k = 0 := by omega
                        subst this; rfl, k1, k2, k3, .refl _⟩
  · obtain ⟨b, o, rfl, hcell⟩ := h9 h0
    have hcs : ∀ j, j < n → w.cell? ⟨b, o + j, none⟩ = some (.string (xs.getD j x)) := fun j hj => by
      have : xs[j]? = some xs[j] := List.getElem?_eq_getElem (hnx ▸ hj)
      refine hcell j _ ?_
      simp [List.getElem?_map, this, List.getD_eq_getElem?_getD]
    have hC := Any2.slices_BinarySearch_string Tryz.layBin b o n c (fun j => xs.getD j x) x w (by omega) hcs
    have hk := Lib.bsGo_spec (fun t => Op.bytesLess (xs.getD t x).toList x.toList) k (fun t ht => by
        have h : xs[t]? = some xs[t] := List.getElem?_eq_getElem (by omega)
        rw [less_dec, decide_eq_true_eq, List.getD_eq_getElem?_getD, h]
        exact k2 _ (List.mem_iff_getElem?.2 ⟨t, by rw [List.getElem?_take_of_lt ht]; exact h⟩)) (fun t ht => by
        rw [less_dec, decide_eq_false_iff_not, List.getD_eq_getElem?_getD]
        cases h : xs[t]? with
        | none => exact blt_irrefl _
        | some y => exact k3 y (List.mem_iff_getElem?.2 ⟨t - k, by rw [List.getElem?_drop, show k + (t - k) = t from by omega]; exact h⟩)) n 0 n (by omega) (Nat.zero_le _) k1
    rw [hk] at hC
    refine Calls.mono hC ?_
    rintro e w' ⟨rfl, q, rfl⟩
    exact ⟨k, _, rfl, k1, k2, k3, q, rfl⟩

theorem Fr.setCells {S : List Nat} {w : World} {b : Nat} (hb : w.heap.size ≤ b) : ∀ (vs : List Value) (o : Nat) (w1 : World), Fr S w w1 → Fr S w (w1.setCells b o vs)
  | [], _, _, h => h
  | v :: vs, o, w1, h => Fr.setCells hb vs (o + 1) _ (h.setCell (a := ⟨b, o, none⟩) hb v)

theorem ins_read {w' : World} {b k n : Nat} {cs : List Value} {x : Value} (hk : k ≤ n) (hl : cs.length = n) (h0 : ∀ j, j < k → w'.cell? ⟨b, j, none⟩ = cs[j]?) (h1 : w'.cell? ⟨b, k, none⟩ = some x)
    (h2 : ∀ j, k ≤ j → j < n → w'.cell? ⟨b, j + 1, none⟩ = cs[j]?) : ∀ j v, (cs.take k ++ [x] ++ cs.drop k)[j]? = some v → w'.cell? ⟨b, 0 + j, none⟩ = some v := by
  intro j v hv
  rw [Nat.zero_add]
  rcases Nat.lt_trichotomy j k with h | h | h
  · rw [h0 j h, ← hv, List.append_assoc, List.getElem?_append_left (by simp; omega), List.getElem?_take_of_lt h]
  · subst h
    rw [h1, ← hv, List.append_assoc, List.getElem?_append_right (by simp; omega)]
    simp [hl, Nat.min_eq_left hk]
  · obtain ⟨i, rfl⟩ : ∃ i, j = i + 1 := ⟨j - 1, by omega⟩
    have hlt := lt_of_getElem? hv
    simp [hl] at hlt
    rw [h2 i (by omega) (by omega), ← hv, List.getElem?_append_right (by simp; omega)]
    simp [hl, Nat.min_eq_left hk]
    congr 1; omega

theorem ins_map {xs : List BS} {x : BS} {k : Nat} : (xs.map Value.string).take k ++ [.string x] ++ (xs.map Value.string).drop k = (xs.take k ++ [x] ++ xs.drop k).map Value.string := by
  simp [List.map_take, List.map_drop]

set_option maxHeartbeats 1000000 in
/-- Insert of one text into a row of the caller's own. -/
theorem ins40 (base : Nat) (v : Value) (xs : List BS) (x : BS) (k vb : Nat) (w : World) (hk : k ≤ xs.length) (ho : w.ownsRow base 9 1 v xs.length (xs.map .string)) (hl : xs.length ≤ 1000000) (hbs : base ≤ w.heap.size)
    (hv : w.heap[vb]? = some (.cells #[.string x] 9 (0, 0))) (hne : ∀ b, v.ownBlock = some b → vb ≠ b) :
    Calls Tryz.prog 153 #[v, .int .i64 k, .slice (some ⟨vb, 0, none⟩) 1 1] w fun e w' => ∃ b c, e = .returned (.slice (some ⟨b, 0, none⟩) (xs.length + 1) c) ∧ base ≤ b ∧ Strs w' (.slice (some ⟨b, 0, none⟩) (xs.length + 1) c) (xs.take k ++ [x] ++ xs.drop k) ∧ ∀ B : World, Fr [] B w → B.heap.size ≤ base → Fr [] B w' := by
  obtain ⟨n, hnx⟩ : ∃ n, n = xs.length := ⟨_, rfl⟩
  obtain ⟨cs, hcs⟩ : ∃ cs, cs = xs.map Value.string := ⟨_, rfl⟩
  have hcl : cs.length = n := by rw [hcs, hnx]; simp
  rw [← hnx] at hk ho hl ⊢
  rw [← hcs] at ho
  have hvs : ∀ j v, [Value.string x][j]? = some v → w.cell? ⟨vb, 0 + j, none⟩ = some v := fun j v hj => by
    have := lt_of_getElem? hj
    simp at this; subst this
    simp at hj; subst hj
    simp [World.cell?, hv]
  have h1v : ∀ v ∈ [Value.string x], v.oneCell' = true := by simp [Value.oneCell']
  have h1c : ∀ v ∈ cs, v.oneCell' = true := by rw [hcs]; exact strs_oneCell xs
  have goal : ∀ (b c : Nat) (w' : World), n + 1 ≤ c → c ≤ maxLen → (∀ j v, (cs.take k ++ [Value.string x] ++ cs.drop k)[j]? = some v → w'.cell? ⟨b, 0 + j, none⟩ = some v) →
      Strs w' (.slice (some ⟨b, 0, none⟩) (n + 1) c) (xs.take k ++ [x] ++ xs.drop k) := fun b c w' h1 h2 h3 => by
    have e1 : (xs.take k ++ [x] ++ xs.drop k).length = n + 1 := by simp; omega
    unfold Strs
    rw [e1, ← ins_map, ← hcs]
    refine ⟨by simp [hcl]; omega, by omega, _, c, rfl, h1, h2, fun h => (by cases h), fun _ => ⟨b, 0, rfl, h3⟩⟩
  have grown : ∀ (c b : Nat) , c < n + 1 → k = n → ∀ ad : Option Addr, v = .slice ad n c → n ≤ c → (ad = none → n = 0) → (∀ a, ad = some a → ∀ j v, cs[j]? = some v → w.cell? (a.add j) = some v) →
      Calls Tryz.prog 153 #[v, .int .i64 k, .slice (some ⟨vb, 0, none⟩) 1 1] w fun e w' => ∃ b c, e = .returned (.slice (some ⟨b, 0, none⟩) (n + 1) c) ∧ base ≤ b ∧ Strs w' (.slice (some ⟨b, 0, none⟩) (n + 1) c) (xs.take k ++ [x] ++ xs.drop k) ∧ ∀ B : World, Fr [] B w → B.heap.size ≤ base → Fr [] B w' := by
    intro c b hroom hkn ad hva hnc hnil hcells
    subst hva
    subst hkn
    refine Calls.mono (Any2.slices_Insert_string_end_grow Tryz.layIns ad k c vb 0 1 1 cs [.string x] w (by omega) hnc hroom (by omega) hcl rfl hnil hcells hvs h1v) ?_
    rintro e w' ⟨rfl, rfl⟩
    have hg := grownCap_ge w (k + 1) c 9
    refine ⟨_, _, rfl, hbs, ?_, fun B hB hBb => hB.drew.alloc _⟩
    refine goal _ _ _ hg (grownCap_le_maxLen w _ _ _ (by simp [maxLen]; omega)) (ins_read hk hcl (fun j hj => ?_) ?_ (fun j h1 h2 => by omega))
    · refine (World.cell?_alloc_new (w := w.drew) _ _ _).trans ?_
      simp [Array.getElem?_append, hcl, show j < k from by omega, show j < k + 1 from by omega, List.getElem?_append]
    · refine (World.cell?_alloc_new (w := w.drew) _ _ _).trans ?_
      simp [Array.getElem?_append, hcl, List.getElem?_append]
  rcases ho.2 with ⟨rfl, h0⟩ | ⟨g, cap, cur, rfl, hb, hg, g1, g2, g3, g4⟩
  · exact grown 0 0 (by omega) (by omega) none (by rw [h0]) (by omega) (fun _ => h0) (fun a e => by cases e)
  · have hsz : cur.size = cap := by omega
    have hneb : vb ≠ g := hne g rfl
    have hcur : ∀ j, w.cell? ⟨g, j, none⟩ = cur[j]? := fun j => by simp [World.cell?, hg]
    have hcsj : ∀ j, j < n → cs[j]? = cur[j]? := fun j hj => by
      rw [← g4, List.getElem?_take_of_lt (by omega), Array.getElem?_toList]
    have hcell : ∀ j v, cs[j]? = some v → w.cell? ⟨g, 0 + j, none⟩ = some v := fun j v hj => by
      have := lt_of_getElem? hj
      rw [Nat.zero_add, hcur, ← hcsj j (by omega), hj]
    by_cases hkn : k = n
    · by_cases hroom : n + 1 ≤ cap
      · subst hkn
        refine Calls.mono (Any2.slices_Insert_string_end_room Tryz.layIns g 0 k cap vb 0 1 1 [.string x] w (by omega) hroom (by simp [maxLen] at g2; omega) rfl (fun j hj => by rw [hcur, Array.getElem?_eq_getElem (by omega)]; rfl) (fun j hj => by simp [World.frozen?, hg]) hvs h1v) ?_
        rintro e w' ⟨rfl, rfl⟩
        refine ⟨_, _, rfl, hb, goal _ _ _ hroom g2 (ins_read hk hcl (fun j hj => ?_) ?_ (fun j h1 h2 => by omega)), fun B hB hBb => Fr.setCells (by omega) _ _ _ hB⟩
        · rw [World.cell?_setCells_out _ _ _ _ _ (fun _ _ => .inl (by simp; omega)), hcur, hcsj j hj]
        · have := World.cell?_setCells_in g [Value.string x] (0 + k) w (fun j hj => by simp at hj; subst hj; rw [hcur, Array.getElem?_eq_getElem (by omega)]; rfl) 0 (by simp)
          simpa using this
      · exact grown cap 0 (by omega) hkn (some ⟨g, 0, none⟩) rfl g1 (fun e => by cases e) (fun a e j v hj => by cases e; rw [Addr.add_lit]; exact hcell j v hj)
    · by_cases hroom : n + 1 ≤ cap
      · refine Calls.mono (Any2.slices_Insert_string_shift Tryz.layIns g 0 n cap k vb 0 1 1 cs [.string x] w (by omega) (by omega) hroom (by simp [maxLen] at g2; omega) hneb hcl rfl hcell (fun j hj => by rw [hcur, Array.getElem?_eq_getElem (by omega)]; rfl) (fun j hj => by simp [World.frozen?, hg]) hvs h1c h1v 9 9 1 cap (by simp [World.shape?, hv]) (by simp [World.shape?, hg, hsz]) (by omega) (by simp [World.frozen?, hv]) (by simp [World.frozen?, hv])) ?_
        rintro e w' ⟨rfl, rfl⟩
        have hin : ∀ j, j < cap → (w.drew.cell? ⟨g, j, none⟩).isSome = true := fun j hj => by
          have : w.drew.cell? ⟨g, j, none⟩ = w.cell? ⟨g, j, none⟩ := rfl
          rw [this, hcur, Array.getElem?_eq_getElem (by omega)]; rfl
        have hdl : (cs.drop k).length = n - k := by simp [hcl]
        refine ⟨_, _, rfl, hb, goal _ _ _ hroom g2 (ins_read hk hcl (fun j hj => ?_) ?_ (fun j h1 h2 => ?_)), fun B hB hBb => Fr.setCells (by omega) _ _ _ (Fr.setCells (by omega) _ _ _ hB.drew)⟩
        · rw [World.cell?_setCells_out _ _ _ _ _ (fun _ _ => .inl (by simp; omega)), World.cell?_setCells_out _ _ _ _ _ (fun _ _ => .inl (by simp; omega))]
          show w.cell? _ = _
          rw [hcur, hcsj j (by omega)]
        · have := World.cell?_setCells_in g [Value.string x] (0 + k) (w.drew.setCells g (0 + (k + 1)) (cs.drop k)) (fun j hj => by
            simp at hj; subst hj
            rw [World.cell?_setCells_out _ _ _ _ _ (fun _ _ => .inl (by simp))]
            exact hin _ (by omega)) 0 (by simp)
          simpa using this
        · rw [World.cell?_setCells_out _ _ _ _ _ (fun _ _ => .inr (by simp; omega))]
          have := World.cell?_setCells_in g (cs.drop k) (0 + (k + 1)) w.drew (fun i hi => hin _ (by omega)) (j - k) (by omega)
          rw [show 0 + (k + 1) + (j - k) = j + 1 from by omega] at this
          rw [this, ← List.getElem?_eq_getElem, List.getElem?_drop]
          congr 1; omega
      · refine Calls.mono (Any2.slices_Insert_string_grow Tryz.layIns g 0 n cap k vb 0 1 1 cs [.string x] w (by omega) (by omega) g1 (by omega) (by omega) hcl rfl hcell hvs h1c h1v) ?_
        rintro e w' ⟨rfl, rfl⟩
        have hge := grownCap_ge w (n + 1) cap 9
        have hdl : (cs.drop k).length = n - k := by simp [hcl]
        have hz : ∀ m, (Builtin.zeroCells (Value.string ⟨#[]⟩).cells m).size = m := fun m => by simp [Builtin.zeroCells, Value.cells]
        obtain ⟨A, hA⟩ : ∃ A, A = (cs.take k).toArray ++ Builtin.zeroCells (Value.string ⟨#[]⟩).cells (n + 1 - k) ++ Builtin.zeroCells (Value.string ⟨#[]⟩).cells (grownCap w (n + 1) cap 9 - (n + 1)) := ⟨_, rfl⟩
        have hAs : A.size = grownCap w (n + 1) cap 9 := by rw [hA]; simp only [Array.size_append, hz, List.size_toArray, List.length_take, hcl]; omega
        have hAk : ∀ j, j < k → A[j]? = cs[j]? := fun j hj => by
          rw [hA, Array.append_assoc, Array.getElem?_append_left (by simp [hcl]; omega)]
          simp [List.getElem?_take_of_lt hj]
        show ∃ b c, Ending.returned (.slice (some ⟨w.heap.size, 0, none⟩) (n + 1) (grownCap w (n + 1) cap 9)) = .returned (.slice (some ⟨b, 0, none⟩) (n + 1) c) ∧ base ≤ b ∧ Strs ((((w.alloc (.cells ((cs.take k).toArray ++ Builtin.zeroCells (Value.string ⟨#[]⟩).cells (n + 1 - k) ++ Builtin.zeroCells (Value.string ⟨#[]⟩).cells (grownCap w (n + 1) cap 9 - (n + 1))) 9)).drew.setCells w.heap.size k [.string x]).drew).setCells w.heap.size (k + 1) (cs.drop k)) _ _ ∧ _
        rw [← hA]
        have hin : ∀ j, j < n + 1 → ((w.alloc (.cells A 9)).drew.cell? ⟨w.heap.size, j, none⟩).isSome = true := fun j hj => by
          have : (w.alloc (.cells A 9)).drew.cell? ⟨w.heap.size, j, none⟩ = A[j]? := World.cell?_alloc_new (w := w) _ _ _
          rw [this, Array.getElem?_eq_getElem (by omega)]; rfl
        have hin2 : ∀ j, j < n + 1 → (((w.alloc (.cells A 9)).drew.setCells w.heap.size k [.string x]).drew.cell? ⟨w.heap.size, j, none⟩).isSome = true := fun j hj => Lib.isSome_setCells _ _ _ _ _ (hin j hj)
        refine ⟨_, _, rfl, hbs, goal _ _ _ hge (grownCap_le_maxLen w _ _ _ (by simp [maxLen]; omega)) (ins_read hk hcl (fun j hj => ?_) ?_ (fun j h1 h2 => ?_)), fun B hB hBb => Fr.setCells hB.size _ _ _ (Fr.drew (Fr.setCells hB.size _ _ _ (hB.alloc _).drew))⟩
        · rw [World.cell?_setCells_out _ _ _ _ _ (fun _ _ => .inl (by simp; omega))]
          show (World.setCells _ _ _ _).cell? _ = _
          rw [World.cell?_setCells_out _ _ _ _ _ (fun _ _ => .inl (by simp; omega))]
          exact (World.cell?_alloc_new (w := w) _ _ _).trans (hAk j hj)
        · rw [World.cell?_setCells_out _ _ _ _ _ (fun _ _ => .inl (by simp))]
          show (World.setCells _ _ _ _).cell? _ = _
          have := World.cell?_setCells_in w.heap.size [Value.string x] k (w.alloc (.cells A 9)).drew (fun j hj => by simp at hj; subst hj; exact hin _ (by omega)) 0 (by simp)
          simpa using this
        · have := World.cell?_setCells_in w.heap.size (cs.drop k) (k + 1) ((w.alloc (.cells A 9)).drew.setCells w.heap.size k [.string x]).drew (fun i hi => hin2 _ (by omega)) (j - k) (by omega)
          rw [show k + 1 + (j - k) = j + 1 from by omega] at this
          rw [this, ← List.getElem?_eq_getElem, List.getElem?_drop]
          congr 1; omega
end Go.Proofs.YtppgjglfoibfcaaGreat
