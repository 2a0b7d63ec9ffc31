import Derived.Test.YtppgjglfoibfcaaGreatChecked
import Derived.WalkKit
import Derived.Lib.Hide
import Derived.WalkSpells
import Derived.WalkLawsBesides
/-
  My own words: what is read off memory (a slice's cells), and what stays when a call makes memory or writes maps.
-/
set_option linter.unusedSimpArgs false
set_option linter.unusedVariables false
namespace Go.Proofs.YtppgjglfoibfcaaGreat
open Go.RowKit

abbrev BS := ByteArray
instance bsDec : DecidableEq ByteArray := fun a b => decidable_of_iff (a.data.toList = b.data.toList) ⟨fun h => ByteArray.ext (Array.toList_inj.1 h), fun h => by rw [h]⟩
instance bsLaw : LawfulBEq ByteArray where
  eq_of_beq {a b} h := by
    rw [beq_toListBytes, ByteArray.toList_eq, ByteArray.toList_eq, beq_iff_eq] at h
    exact ByteArray.ext (Array.toList_inj.1 h)
  rfl {a} := by rw [beq_toListBytes]; simp
/-- The order of texts, by their bytes. -/
def BLt (a b : BS) : Prop := a.data.toList < b.data.toList
instance bltDec (a b : BS) : Decidable (BLt a b) := inferInstanceAs (Decidable (_ < _))

theorem bs_ext {a b : BS} (h : a.data.toList = b.data.toList) : a = b := ByteArray.ext (Array.toList_inj.1 h)
theorem beq_tt {a b : BS} (h : a = b) : (a.toList == b.toList) = true := by subst h; simp
theorem beq_ff {a b : BS} (h : a ≠ b) : (a.toList == b.toList) = false := by
  rw [beq_eq_false_iff_ne]; intro e; rw [ByteArray.toList_eq, ByteArray.toList_eq] at e; exact h (bs_ext e)
theorem beq_dec (a b : BS) : (a.toList == b.toList) = decide (a = b) := by
  by_cases h : a = b
  · rw [beq_tt h]; simp [h]
  · rw [beq_ff h]; simp [h]
theorem bytesLess_eq0 : ∀ (x y : List UInt8), Op.bytesLess x y = decide (x < y)
  | [], [] => by simp [Op.bytesLess]
  | [], _ :: _ => by simp [Op.bytesLess]
  | _ :: _, [] => by simp [Op.bytesLess]
  | a :: x, b :: y => by
    simp only [Op.bytesLess, bytesLess_eq0 x y]
    rw [Bool.eq_iff_iff]
    simp [List.cons_lt_cons_iff]
theorem less_dec (a b : BS) : Op.bytesLess a.toList b.toList = decide (BLt a b) := by
  rw [bytesLess_eq0, ByteArray.toList_eq, ByteArray.toList_eq]; rfl
theorem less_tt {a b : BS} (h : BLt a b) : Op.bytesLess a.toList b.toList = true := by rw [less_dec]; simpa using h
theorem less_ff {a b : BS} (h : ¬ BLt a b) : Op.bytesLess a.toList b.toList = false := by rw [less_dec]; simpa using h
theorem blt_irrefl (a : BS) : ¬ BLt a a := List.lt_irrefl _
theorem blt_trans {a b c : BS} (h : BLt a b) (k : BLt b c) : BLt a c := List.lt_trans h k
theorem blt_asymm {a b : BS} (h : BLt a b) : ¬ BLt b a := fun k => blt_irrefl _ (blt_trans h k)
theorem blt_total (a b : BS) : BLt a b ∨ a = b ∨ BLt b a := by
  unfold BLt
  by_cases h : a.data.toList < b.data.toList
  · exact .inl h
  · rcases List.le_iff_lt_or_eq.1 (List.not_lt.1 h) with h' | h'
    · exact .inr (.inr h')
    · exact .inr (.inl (bs_ext h'.symm))

/-- A slice value v of n elements, of size cells each, reads as the cells cs. -/
def Sl (w : World) (v : Value) (n size : Nat) (cs : List Value) : Prop :=
  cs.length = n * size ∧ n ≤ 140737488355328 ∧
    ∃ a c, v = .slice a n c ∧ n ≤ c ∧ c ≤ maxLen ∧ (a = none → c = 0) ∧
      (0 < n → ∃ b o, a = some ⟨b, o, none⟩ ∧ ∀ i x, cs[i]? = some x → w.cell? ⟨b, o + i, none⟩ = some x)

/-- Block k is a map. -/
def IsMp (w : World) (k : Nat) : Prop := ∃ es c, w.heap[k]? = some (.map es c)
theorem IsMp.lt {w : World} {k : Nat} (h : IsMp w k) : k < w.heap.size := by obtain ⟨_, _, h⟩ := h; exact (Array.getElem?_eq_some_iff.1 h).1

/-- What was there stays, but for the maps in S; new blocks may have come. -/
structure Fr (S : List Nat) (w w' : World) : Prop where
  os : w'.os = w.os
  tape : w'.tape = w.tape
  output : w'.output = w.output
  size : w.heap.size ≤ w'.heap.size
  block : ∀ k, k < w.heap.size → k ∉ S → w'.heap[k]? = w.heap[k]?
  maps : ∀ k, k ∈ S → IsMp w k
  maps' : ∀ k, k ∈ S → IsMp w' k

theorem Fr.refl (w : World) : Fr [] w w := ⟨rfl, rfl, rfl, Nat.le_refl _, fun _ _ _ => rfl, fun _ h => by simp at h, fun _ h => by simp at h⟩
theorem Fr.reflS {S : List Nat} {w : World} (h : ∀ k, k ∈ S → IsMp w k) : Fr S w w := ⟨rfl, rfl, rfl, Nat.le_refl _, fun _ _ _ => rfl, h, h⟩
theorem Fr.left {S : List Nat} {w w' : World} (h : Fr S w w') : Fr S w w := .reflS h.maps
theorem Fr.right {S : List Nat} {w w' : World} (h : Fr S w w') : Fr S w' w' := .reflS h.maps'
theorem Fr.mp {S : List Nat} {w w' : World} (h : Fr S w w') {k : Nat} (hk : IsMp w k) : IsMp w' k := by
  by_cases hS : k ∈ S
  · exact h.maps' k hS
  · obtain ⟨es, c, hb⟩ := hk
    exact ⟨es, c, (h.block k (Array.getElem?_eq_some_iff.1 hb).1 hS).trans hb⟩

theorem Fr.trans {S T : List Nat} {w w1 w2 : World} (h : Fr S w w1) (k : Fr T w1 w2) (hT : ∀ x, x ∈ T → x ∈ S ∨ w.heap.size ≤ x) : Fr S w w2 where
  os := k.os.trans h.os
  tape := k.tape.trans h.tape
  output := k.output.trans h.output
  size := Nat.le_trans h.size k.size
  block i hi hS := (k.block i (Nat.lt_of_lt_of_le hi h.size) (fun hm => by rcases hT i hm with h' | h'; exact hS h'; omega)).trans (h.block i hi hS)
  maps := h.maps
  maps' x hx := k.mp (h.maps' x hx)

theorem Fr.then {S : List Nat} {w w1 w2 : World} (h : Fr S w w1) (k : Fr [] w1 w2) : Fr S w w2 := h.trans k (fun _ hx => by simp at hx)
theorem Fr.and {S : List Nat} {w w1 w2 : World} (h : Fr S w w1) (k : Fr S w1 w2) : Fr S w w2 := h.trans k (fun _ hx => .inl hx)
/-- More maps may have been written. -/
theorem Fr.more {S T : List Nat} {w w' : World} (h : Fr S w w') (hS : ∀ x, x ∈ S → x ∈ T) (hT : ∀ x, x ∈ T → IsMp w x) : Fr T w w' where
  os := h.os
  tape := h.tape
  output := h.output
  size := h.size
  block i hi hn := h.block i hi (fun hm => hn (hS i hm))
  maps := hT
  maps' x hx := h.mp (hT x hx)
theorem Fr.before {S : List Nat} {w w1 w2 : World} (h : Fr [] w w1) (k : Fr S w1 w2) (hS : ∀ x, x ∈ S → x < w.heap.size) : Fr S w w2 where
  os := k.os.trans h.os
  tape := k.tape.trans h.tape
  output := k.output.trans h.output
  size := Nat.le_trans h.size k.size
  block i hi hn := (k.block i (Nat.lt_of_lt_of_le hi h.size) hn).trans (h.block i hi (by simp))
  maps x hx := by obtain ⟨es, c, hb⟩ := k.maps x hx; exact ⟨es, c, (h.block x (hS x hx) (by simp)).symm.trans hb⟩
  maps' := k.maps'
/-- Maps that were made since don't count. -/
theorem Fr.drop {S T : List Nat} {w w1 w2 : World} (h : Fr S w w1) (k : Fr T w1 w2) (hT : ∀ x, x ∈ T → w.heap.size ≤ x) : Fr S w w2 := h.trans k (fun x hx => .inr (hT x hx))

theorem Fr.cell {S : List Nat} {w w' : World} (h : Fr S w w') {a : Addr} {v : Value} (hc : w.cell? a = some v) : w'.cell? a = some v := by
  have hlt := World.block_lt_of_cell? w a hc
  have hS : a.block ∉ S := by
    intro hm
    obtain ⟨es, c, hb⟩ := h.maps _ hm
    unfold World.cell? at hc
    rw [hb] at hc
    cases hc
  rw [← hc]
  exact World.cell?_of_block (h.block _ hlt hS)

theorem Fr.heap {w w' : World} (h : Fr [] w w') {k : Nat} {o : Obj} (hb : w.heap[k]? = some o) : w'.heap[k]? = some o :=
  (h.block k (Array.getElem?_eq_some_iff.1 hb).1 (by simp)).trans hb
theorem Fr.heap' {S : List Nat} {w w' : World} (h : Fr S w w') {k : Nat} {o : Obj} (hb : w.heap[k]? = some o) (hk : k ∉ S) : w'.heap[k]? = some o :=
  (h.block k (Array.getElem?_eq_some_iff.1 hb).1 hk).trans hb
theorem Fr.row {S : List Nat} {w w' : World} (h : Fr S w w') {k : Nat} {c : Array Value} {e : TypeId} {f : Nat × Nat} (hb : w.heap[k]? = some (.cells c e f)) : w'.heap[k]? = some (.cells c e f) :=
  h.heap' hb (fun hm => by obtain ⟨es, c, hb'⟩ := h.maps _ hm; rw [hb] at hb'; cases hb')

theorem Fr.below {w w' : World} (h : Fr [] w w') : Below w.heap.size w w' := ⟨h.os, h.tape, h.output, h.size, fun k hk => h.block k hk (by simp)⟩
theorem Fr.of_below {w w' : World} (h : Below w.heap.size w w') : Fr [] w w' := ⟨h.os, h.tape, h.output, h.size, fun k hk _ => h.block k hk, fun _ hx => by simp at hx, fun _ hx => by simp at hx⟩
theorem Fr.alloc {S : List Nat} {w w' : World} (h : Fr S w w') (o : Obj) : Fr S w (w'.alloc o) := h.then (.of_below ((Below.refl _ _).alloc (Nat.le_refl _) o))
theorem Fr.drew {S : List Nat} {w w' : World} (h : Fr S w w') : Fr S w w'.drew := h.then (.of_below (Below.refl _ _).drew)
theorem Fr.drewN {S : List Nat} {w w' : World} (h : Fr S w w') (n : Nat) : Fr S w (w'.drewN n) := ⟨h.os, h.tape, h.output, h.size, h.block, h.maps, h.maps'⟩

theorem Sl.fr {S : List Nat} {w w' : World} {v : Value} {n size : Nat} {cs : List Value} (h : Sl w v n size cs) (hf : Fr S w w') : Sl w' v n size cs := by
  obtain ⟨h1, h2, a, c, h3, h4, h5, h7, h6⟩ := h
  exact ⟨h1, h2, a, c, h3, h4, h5, h7, fun hn => by
    obtain ⟨b, o, ha, hc⟩ := h6 hn
    exact ⟨b, o, ha, fun i x hx => hf.cell (hc i x hx)⟩⟩

theorem Sl.nil (w : World) (size : Nat) : Sl w (.slice none 0 0) 0 size [] := ⟨by simp, by omega, none, 0, rfl, by omega, by simp [maxLen], fun _ => rfl, fun h => absurd h (by omega)⟩

/-- The world is the old one, some orders having been drawn. -/
structure Dr (w w' : World) : Prop where
  ex : ∃ n, w' = w.drewN n
theorem Dr.refl (w : World) : Dr w w := ⟨0, rfl⟩
theorem Dr.drewN {w w' : World} (h : Dr w w') (n : Nat) : Dr w (w'.drewN n) := by
  obtain ⟨m, rfl⟩ := h; exact ⟨m + n, World.drewN_drewN ..⟩
theorem Dr.trans {w w1 w2 : World} (h : Dr w w1) (k : Dr w1 w2) : Dr w w2 := by
  obtain ⟨n, rfl⟩ := k; exact h.drewN n
theorem Dr.fr {w w' : World} (h : Dr w w') : Fr [] w w' := by
  obtain ⟨m, rfl⟩ := h; exact (Fr.refl w).drewN m
theorem quiet_same {P : Program} {f : FuncId} {args : Array Value} {w : World} {n : Nat} {v : Value}
    (h : Calls P f args (w.drewN n) fun e w' => e = .returned v ∧ w.drewN n = w') : Calls P f args (w.drewN n) fun e w'' => e = .returned v ∧ ∃ m, w'' = w.drewN m :=
  h.mono fun _ _ ⟨he, hm⟩ => ⟨he, n, hm.symm⟩
theorem Dr.quiet {P : Program} {f : FuncId} {args : Array Value} {w : World} {n : Nat} {v : Value}
    (h : Calls P f args (w.drewN n) fun e w' => e = .returned v ∧ Dr (w.drewN n) w') : Calls P f args (w.drewN n) fun e w'' => e = .returned v ∧ ∃ m, w'' = w.drewN m :=
  h.mono fun _ _ ⟨he, m, hm⟩ => ⟨he, n + m, by rw [hm, World.drewN_drewN]⟩

/-- What a call owns reads so. -/
theorem Sl.of_own {w : World} {base e size n : Nat} {v : Value} {cs : List Value} (h : w.ownsRow base e size v n cs) (hn : n ≤ 140737488355328) : Sl w v n size cs := by
  refine ⟨h.1, hn, ?_⟩
  rcases h.2 with ⟨rfl, rfl⟩ | ⟨g, cap, cur, rfl, hb, hg, h1, h2, h3, h4⟩
  · exact ⟨none, 0, rfl, by omega, by simp [maxLen], fun _ => rfl, fun h => absurd h (by omega)⟩
  · refine ⟨_, cap, rfl, h1, h2, fun h => (by cases h), fun _ => ⟨g, 0, rfl, fun i x hx => ?_⟩⟩
    have := h.cells (g := g) rfl i x hx
    rwa [Addr.add_lit] at this

theorem ret_bool {a b : Bool} (h : a = b) : Ending.returned (.bool a) = .returned (.bool b) := by rw [h]
theorem ret_int {k : IntKind} {a b : Int} (h : a = b) : Ending.returned (.int k a) = .returned (.int k b) := by rw [h]
theorem mem_take_succ {α : Type} {xs : List α} {k : Nat} {x y : α} (hx : xs[k]? = some x) : y ∈ xs.take (k + 1) ↔ y ∈ xs.take k ∨ y = x := by
  rw [List.take_add_one, hx]; simp
theorem take_snoc {α : Type} {xs : List α} {k : Nat} {x : α} (hx : xs[k]? = some x) : xs.take (k + 1) = xs.take k ++ [x] := by
  rw [List.take_add_one, hx]; rfl
theorem lt_of_getElem? {α : Type} {l : List α} {i : Nat} {x : α} (h : l[i]? = some x) : i < l.length := (List.getElem?_eq_some_iff.1 h).1

/-- Element k's first cell: where indexing comes to, and what stands there. -/
theorem Sl.at_ {P : Program} {w : World} {a : Option Addr} {n c size : Nat} {cs : List Value} (h : Sl w (.slice a n c) n size cs) (t : TypeId) (e : TypeId)
    (ht : P.underlying t = some (.slice e)) (hs : ∀ W, (sizeOf e).run P W = .ok size W) (k : Nat) (hk : k < n) :
    ∃ b o, (∀ W, (Instr.indexAt t (.slice a n c) (.int .i64 (k : Int))).run P W = .ok (.pointer (some ⟨b, o + k * size, none⟩)) W) ∧
      ∀ j x, j < size → cs[k * size + j]? = some x → w.cell? ⟨b, o + k * size + j, none⟩ = some x := by
  obtain ⟨h1, h2, a', c', h3, h4, h5, h7, h6⟩ := h
  injection h3 with h3 _ _
  subst h3
  obtain ⟨b, o, rfl, hc⟩ := h6 (by omega)
  refine ⟨b, o, fun W => ?_, fun j x hj hx => by rw [Nat.add_assoc]; exact hc _ _ hx⟩
  have he : P.elem t = e := by unfold Program.elem; rw [ht]
  rw [run_indexAt_slice (P := P) (h := by rw [ht, he]), if_pos ⟨by omega, by omega⟩]
  simp [he, hs, Result.andThen, Addr.add_lit]

/-- A slice of strings. -/
def Strs (w : World) (v : Value) (xs : List BS) : Prop := Sl w v xs.length 1 (xs.map .string)

theorem Strs.fr {S : List Nat} {w w' : World} {v : Value} {xs : List BS} (h : Strs w v xs) (hf : Fr S w w') : Strs w' v xs := Sl.fr h hf
theorem Sl.form {w : World} {v : Value} {n size : Nat} {cs : List Value} (h : Sl w v n size cs) : ∃ a c, v = .slice a n c ∧ n ≤ c ∧ c ≤ maxLen ∧ n ≤ 140737488355328 := by
  obtain ⟨_, h2, a, c, h3, h4, h5, _⟩ := h; exact ⟨a, c, h3, h4, h5, h2⟩
theorem Strs.form {w : World} {v : Value} {xs : List BS} (h : Strs w v xs) : ∃ a c, v = .slice a xs.length c ∧ xs.length ≤ c ∧ c ≤ maxLen ∧ xs.length ≤ 140737488355328 := Sl.form h
theorem Strs.at_ {P : Program} {w : World} {a : Option Addr} {n c : Nat} {xs : List BS} (h : Strs w (.slice a n c) xs) (hn : n = xs.length) (t : TypeId) (e : TypeId)
    (ht : P.underlying t = some (.slice e)) (hs : ∀ W, (sizeOf e).run P W = .ok 1 W) (k : Nat) (x : BS) (hx : xs[k]? = some x) :
    ∃ b o, (∀ W, (Instr.indexAt t (.slice a n c) (.int .i64 (k : Int))).run P W = .ok (.pointer (some ⟨b, o, none⟩)) W) ∧ w.cell? ⟨b, o, none⟩ = some (.string x) := by
  subst hn
  obtain ⟨b, o, h1, h2⟩ := Sl.at_ (P := P) h t e ht hs k (lt_of_getElem? hx)
  refine ⟨b, o + k * 1, h1, ?_⟩
  have := h2 0 (.string x) (by omega) (by simp [hx])
  simpa using this

end Go.Proofs.YtppgjglfoibfcaaGreat
