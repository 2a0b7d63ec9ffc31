import Derived.Test.YtppgjglfoibfcaaGreatBase
import Derived.Maps.AppendAt
import Derived.Laws.AppendOwnNone
/-
  My own laws at operations: append, cuts of slices, literals.
-/
set_option linter.unusedSimpArgs false
set_option linter.unusedVariables false
namespace Go.Proofs.YtppgjglfoibfcaaGreat
open Go.RowKit

theorem Fr.of_grown {w w' : World} {row : Option Nat} (hg : w.grownBy w' row) (B : World) (hB : B.heap.size ≤ w.heap.size) (h : Fr [] B w) (hr : ∀ k, row = some k → B.heap.size ≤ k) : Fr [] B w' where
  os := hg.os.trans h.os
  tape := hg.tape.trans h.tape
  output := hg.output.trans h.output
  size := Nat.le_trans h.size hg.size
  block k hk hS := (hg.block k (Nat.lt_of_lt_of_le hk h.size) (fun e => by have := hr k e.symm; omega)).trans (h.block k hk hS)
  maps _ hx := by simp at hx
  maps' _ hx := by simp at hx
/-- An own row is written, or a new one made. -/
theorem Fr.grown {S : List Nat} {w w1 w2 : World} {row : Option Nat} (h : Fr S w w1) (hg : w1.grownBy w2 row) (hr : ∀ k, row = some k → w.heap.size ≤ k) : Fr S w w2 where
  os := hg.os.trans h.os
  tape := hg.tape.trans h.tape
  output := hg.output.trans h.output
  size := Nat.le_trans h.size hg.size
  block k hk hS := (hg.block k (Nat.lt_of_lt_of_le hk h.size) (fun e => by have := hr k e.symm; omega)).trans (h.block k hk hS)
  maps := h.maps
  maps' x hx := by
    obtain ⟨es, c, hb⟩ := h.maps' x hx
    have hlt := (h.maps x hx).lt
    exact ⟨es, c, (hg.block x (Nat.lt_of_lt_of_le hlt h.size) (fun e => by have := hr x e.symm; omega)).trans hb⟩
/-- A cell newer than w is written. -/
theorem Fr.setCell {S : List Nat} {w w1 : World} (h : Fr S w w1) {a : Addr} (ha : w.heap.size ≤ a.block) (v : Value) : Fr S w (w1.setCell a v) :=
  h.grown (row := some a.block) ⟨rfl, rfl, rfl, by simp [World.setCell], fun k _ hk => Below.heap_setCell _ _ _ _ (fun e => hk (by rw [e]))⟩ (fun k hk => by cases hk; exact ha)
theorem Fr.fz {S : List Nat} {w w' : World} (h : Fr S w w') {a : Addr} {v : Value} (hc : w.cell? a = some v) (hf : w.frozen? a = false) : w'.frozen? a = false := by
  have hlt := World.block_lt_of_cell? w a hc
  have hS : a.block ∉ S := by
    intro hm
    obtain ⟨es, c, hb⟩ := h.maps _ hm
    unfold World.cell? at hc
    rw [hb] at hc
    cases hc
  rw [← hf]
  exact World.frozen?_of_block (h.block _ hlt hS)
theorem own_base0 {w : World} {base : Nat} {e : TypeId} {size n : Nat} {v : Value} {xs : List Value} (h : w.ownsRow base e size v n xs) (k : Nat) (hk : v.ownBlock = some k) : base ≤ k := (h.lt k hk).1
theorem own_fr {S : List Nat} {w w' : World} {base e size n : Nat} {v : Value} {xs : List Value} (h : w.ownsRow base e size v n xs) (hf : Fr S w w') : w'.ownsRow base e size v n xs := by
  refine ⟨h.1, ?_⟩
  rcases h.2 with hn | ⟨g, cap, cur, rfl, hb, hgg, rest⟩
  · exact .inl hn
  · refine .inr ⟨g, cap, cur, rfl, hb, ?_, rest⟩
    exact hf.row hgg
theorem own_mono {w : World} {base base' e size n : Nat} {v : Value} {xs : List Value} (h : w.ownsRow base e size v n xs) (hb : base' ≤ base) : w.ownsRow base' e size v n xs := by
  refine ⟨h.1, ?_⟩
  rcases h.2 with hn | ⟨g, cap, cur, rfl, hbb, rest⟩
  · exact .inl hn
  · exact .inr ⟨g, cap, cur, rfl, Nat.le_trans hb hbb, rest⟩
theorem own_form {w : World} {base e size n : Nat} {v : Value} {xs : List Value} (h : w.ownsRow base e size v n xs) : ∃ a c, v = .slice a n c := by
  rcases h.2 with ⟨rfl, rfl⟩ | ⟨g, cap, cur, rfl, _⟩
  · exact ⟨_, _, rfl⟩
  · exact ⟨_, _, rfl⟩

/-- A new row, whole. -/
theorem own_new (w : World) (cs : Array Value) (e size n : Nat) (hn : cs.size = n * size) (hm : n ≤ maxLen) : (w.alloc (.cells cs e)).ownsRow w.heap.size e size (.slice (some ⟨w.heap.size, 0, none⟩) n n) n cs.toList :=
  ⟨by simpa using hn, .inr ⟨w.heap.size, n, cs, rfl, Nat.le_refl _, heap_alloc_new w _, Nat.le_refl _, hm, hn, by rw [List.take_of_length_le]; simp [hn]⟩⟩
theorem Sl.new (w : World) (cs : Array Value) (e size n : Nat) (hn : cs.size = n * size) (hm : n ≤ 140737488355328) : Sl (w.alloc (.cells cs e)) (.slice (some ⟨w.heap.size, 0, none⟩) n n) n size cs.toList :=
  Sl.of_own (own_new w cs e size n hn (by simp only [maxLen]; omega)) hm

theorem wpList_app {P : Program} {w : World} {ops : Array Oper} {rest : List Oper} {o : Oper} {a : Act} {Q : Exit → Act → World → Prop} (hgd : o.guard = none) (s x : Operand) (t : TypeId)
    (ho : o.op = .call { callee := .builtin .append, args := #[s, x], argTypes := #[t, t] })
    (e : TypeId) (z : Value) (size bytes : Nat) (ht : P.underlying t = some (.slice e)) (hinfo : (P.info? e).map (fun i => (i.zero, i.size, i.bytes)) = some (some z, size, bytes))
    (hzs : z.cells.size = size) (hsz : 0 < size) (hby : 0 < bytes)
    (v : Value) (base n : Nat) (xs : List Value) (hs : a.eval s = v) (hown : w.ownsRow base e size v n xs)
    (xv : Value) (m : Nat) (cs : List Value) (hx : a.eval x = xv) (hsl : Sl w xv m size cs) (h1 : ∀ u ∈ cs, u.oneCell' = true)
    (hbytes : (n + m) * bytes ≤ 140737488355328) (hbase : base ≤ w.heap.size)
    (h : ∀ v' w', w'.ownsRow base e size v' (n + m) (xs ++ cs) → w.grownBy w' v.ownBlock → (v'.ownBlock = v.ownBlock ∨ v'.ownBlock = some w.heap.size) → wpList P ops Q rest (a.put o.dst v') w') :
    wpList P ops Q (o :: rest) a w := by
  obtain ⟨i, hi, hz, hsize, hb⟩ := info_parts hinfo
  obtain ⟨hl, hm, ad, c, rfl, hc1, hc2, hc3, hc⟩ := hsl
  have hnm : n + m ≤ 140737488355328 := Nat.le_trans (Nat.le_mul_of_pos_right _ hby) hbytes
  cases ad with
  | none =>
    obtain rfl := hc3 rfl
    obtain rfl : m = 0 := by omega
    obtain rfl : cs = [] := List.eq_nil_of_length_eq_zero (by omega)
    exact wpList_append_own_none hgd s x t ho base e i size ht hi v n xs hs hown hx (h v w (by simpa using hown) (World.grownBy.refl _ _) (.inl rfl))
  | some ad =>
    refine wpList_append_own_at w hgd s x t ho base e i z size bytes ht hi hz hsize hb hzs hsz v n xs hs hown ad m c cs hx hl ?_ h1 (by simp only [maxLen]; omega) hbytes hbase (fun v' w' h1 h2 _ h3 => h v' w' h1 h2 h3)
    intro j u hu
    have h0 : 0 < m := by
      rcases Nat.eq_zero_or_pos m with h0 | h0
      · subst h0; have : cs = [] := List.eq_nil_of_length_eq_zero (by omega); subst this; simp at hu
      · exact h0
    obtain ⟨b, o', e', hcc⟩ := hc h0
    cases e'
    rw [Addr.add_lit]
    exact hcc j u hu

/-- What a cut of a slice comes to. -/
theorem Sl.cut {P : Program} {w : World} {a : Option Addr} {n c size : Nat} {cs : List Value} (h : Sl w (.slice a n c) n size cs) (t e : TypeId)
    (ht : P.underlying t = some (.slice e)) (hs : ∀ W, (sizeOf e).run P W = .ok size W) (lo hi : Nat) (h1 : lo ≤ hi) (h2 : hi ≤ n) :
    ∃ a', Sl w (.slice a' (hi - lo) (c - lo)) (hi - lo) size ((cs.drop (lo * size)).take ((hi - lo) * size)) ∧
      (∀ W, (Instr.slice t (.slice a n c) (some (.int .i64 (lo : Int))) (some (.int .i64 (hi : Int))) none).run P W = .ok (.slice a' (hi - lo) (c - lo)) W) ∧
      (lo = 0 → ∀ W, (Instr.slice t (.slice a n c) none (some (.int .i64 (hi : Int))) none).run P W = .ok (.slice a' (hi - lo) (c - lo)) W) ∧
      (hi = n → ∀ W, (Instr.slice t (.slice a n c) (some (.int .i64 (lo : Int))) none none).run P W = .ok (.slice a' (hi - lo) (c - lo)) W) := by
  obtain ⟨h3, h4, a', c', h5, h6, h7, h8, h9⟩ := h
  injection h5 with h5 _ h5'
  subst h5 h5'
  have he : P.elem t = e := by unfold Program.elem; rw [ht]
  have ht' : P.underlying t = some (.slice (P.elem t)) := by rw [ht, he]
  refine ⟨if c = lo then a else a.map (·.add (lo * size)), ⟨?_, by omega, _, _, rfl, by omega, by omega, ?_, ?_⟩, ?_, ?_, ?_⟩
  · simp only [List.length_take, List.length_drop, h3, ← Nat.sub_mul]
    exact Nat.min_eq_left (Nat.mul_le_mul_right _ (by omega))
  · split
    · intro e; have := h8 e; omega
    · intro e; have := h8 (by simpa using e); omega
  · intro hp
    obtain ⟨b, o, rfl, hc⟩ := h9 (by omega)
    rw [if_neg (by omega)]
    refine ⟨b, o + lo * size, by simp [Addr.add_lit], fun i x hx => ?_⟩
    rw [List.getElem?_take] at hx
    split at hx
    · rw [List.getElem?_drop] at hx
      rw [Nat.add_assoc]
      exact hc _ _ hx
    · cases hx
  · intro W
    rw [run_slice_lh (P := P) W t a n c ht' .i64 .i64 lo hi (by omega) (by omega) (by omega)]
    simp [he, hs, Result.andThen, sliced]
  · rintro rfl W
    rw [run_slice_h (P := P) W t a n c ht' .i64 hi (by omega) (by omega)]
    simp [he, hs, Result.andThen, sliced]
  · rintro rfl W
    rw [run_slice_l (P := P) W t a hi c ht' .i64 lo (by omega) (by omega)]
    simp [he, hs, Result.andThen, sliced]

theorem strs_oneCell (xs : List BS) : ∀ u ∈ xs.map Value.string, u.oneCell' = true := by
  intro u hu
  obtain ⟨_, _, rfl⟩ := List.mem_map.1 hu
  rfl
theorem Strs.nil (w : World) : Strs w (.slice none 0 0) [] := Sl.nil w 1
theorem Strs.of_own {w : World} {base e n : Nat} {v : Value} {xs : List BS} (h : w.ownsRow base e 1 v n (xs.map .string)) (hn : xs.length ≤ 140737488355328) : Strs w v xs := by
  have hl : n = xs.length := by have := h.1; simp at this; omega
  subst hl
  exact Sl.of_own h hn
theorem Strs.cut {P : Program} {w : World} {a : Option Addr} {n c : Nat} {xs : List BS} (h : Strs w (.slice a n c) xs) (hn : n = xs.length) (t e : TypeId)
    (ht : P.underlying t = some (.slice e)) (hs : ∀ W, (sizeOf e).run P W = .ok 1 W) (lo hi : Nat) (h1 : lo ≤ hi) (h2 : hi ≤ n) :
    ∃ a', Strs w (.slice a' (hi - lo) (c - lo)) ((xs.drop lo).take (hi - lo)) ∧
      (∀ W, (Instr.slice t (.slice a n c) (some (.int .i64 (lo : Int))) (some (.int .i64 (hi : Int))) none).run P W = .ok (.slice a' (hi - lo) (c - lo)) W) ∧
      (lo = 0 → ∀ W, (Instr.slice t (.slice a n c) none (some (.int .i64 (hi : Int))) none).run P W = .ok (.slice a' (hi - lo) (c - lo)) W) ∧
      (hi = n → ∀ W, (Instr.slice t (.slice a n c) (some (.int .i64 (lo : Int))) none none).run P W = .ok (.slice a' (hi - lo) (c - lo)) W) := by
  subst hn
  obtain ⟨a', h3, h4⟩ := Sl.cut (P := P) h t e ht hs lo hi h1 h2
  refine ⟨a', ?_, h4⟩
  unfold Strs
  have : ((xs.drop lo).take (hi - lo)).length = hi - lo := by simp; omega
  rw [this]
  simpa [List.map_take, List.map_drop] using h3

end Go.Proofs.YtppgjglfoibfcaaGreat
