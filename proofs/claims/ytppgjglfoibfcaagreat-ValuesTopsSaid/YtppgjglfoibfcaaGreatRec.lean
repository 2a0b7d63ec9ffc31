import Derived.Test.YtppgjglfoibfcaaGreatLaws
/-
  Slices of elements of k cells each; a row of structs.
-/
set_option linter.unusedSimpArgs false
set_option linter.unusedVariables false
namespace Go.Proofs.YtppgjglfoibfcaaGreat
open Go.RowKit

/-- A slice whose elements are told by enc, k cells each. -/
def Recs {α : Type} (k : Nat) (enc : α → List Value) (w : World) (v : Value) (xs : List α) : Prop := Sl w v xs.length k (xs.flatMap enc)

section
variable {α : Type} {k : Nat} {enc : α → List Value}
theorem flat_len (he : ∀ x, (enc x).length = k) (xs : List α) : (xs.flatMap enc).length = xs.length * k := by
  induction xs with
  | nil => simp
  | cons x xs ih => simp [ih, he, Nat.add_mul, Nat.add_comm]
theorem flat_get (he : ∀ x, (enc x).length = k) {xs : List α} {i : Nat} {x : α} (hx : xs[i]? = some x) {j : Nat} (hj : j < k) : (xs.flatMap enc)[i * k + j]? = (enc x)[j]? := by
  induction xs generalizing i with
  | nil => simp at hx
  | cons y xs ih =>
    rw [List.flatMap_cons]
    cases i with
    | zero =>
      simp at hx; subst hx
      rw [List.getElem?_append_left (by rw [he]; omega)]; simp
    | succ i =>
      rw [List.getElem?_append_right (by rw [he, Nat.succ_mul]; omega), he, show (i + 1) * k + j - k = i * k + j by rw [Nat.succ_mul]; omega]
      exact ih (by simpa using hx)
theorem flat_take (he : ∀ x, (enc x).length = k) (xs : List α) (i : Nat) : (xs.flatMap enc).take (i * k) = (xs.take i).flatMap enc := by
  induction xs generalizing i with
  | nil => simp
  | cons x xs ih =>
    cases i with
    | zero => simp
    | succ i =>
      have h1 : (i + 1) * k = (enc x).length + i * k := by rw [he, Nat.succ_mul]; omega
      rw [List.flatMap_cons, h1, List.take_length_add_append, ih, List.take_succ_cons, List.flatMap_cons]
theorem flat_drop (he : ∀ x, (enc x).length = k) (xs : List α) (i : Nat) : (xs.flatMap enc).drop (i * k) = (xs.drop i).flatMap enc := by
  induction xs generalizing i with
  | nil => simp
  | cons x xs ih =>
    cases i with
    | zero => simp
    | succ i =>
      have h1 : (i + 1) * k = (enc x).length + i * k := by rw [he, Nat.succ_mul]; omega
      rw [List.flatMap_cons, h1, List.drop_length_add_append, ih, List.drop_succ_cons]

theorem Recs.fr {S : List Nat} {w w' : World} {v : Value} {xs : List α} (h : Recs k enc w v xs) (hf : Fr S w w') : Recs k enc w' v xs := Sl.fr h hf
theorem Recs.nil (w : World) : Recs k enc w (.slice none 0 0) [] := Sl.nil w k
theorem Recs.form {w : World} {v : Value} {xs : List α} (h : Recs k enc w v xs) : ∃ a c, v = .slice a xs.length c ∧ xs.length ≤ c ∧ c ≤ maxLen ∧ xs.length ≤ 140737488355328 := Sl.form h
theorem Recs.formN {w : World} {v : Value} {xs : List α} (h : Recs k enc w v xs) (n : Nat) (hn : xs.length = n) : ∃ a c, v = .slice a n c := by obtain ⟨a, c, e, _⟩ := h.form; exact ⟨a, c, hn ▸ e⟩
theorem Recs.at_ (he : ∀ x, (enc x).length = k) {P : Program} {w : World} {a : Option Addr} {n c : Nat} {xs : List α} (h : Recs k enc w (.slice a n c) xs) (hn : n = xs.length) (t e : TypeId)
    (ht : P.underlying t = some (.slice e)) (hs : ∀ W, (sizeOf e).run P W = .ok k W) (i : Nat) (x : α) (hx : xs[i]? = some x) :
    ∃ b o, (∀ W, (Instr.indexAt t (.slice a n c) (.int .i64 (i : Int))).run P W = .ok (.pointer (some ⟨b, o, none⟩)) W) ∧ ∀ j y, (enc x)[j]? = some y → w.cell? ⟨b, o + j, none⟩ = some y := by
  subst hn
  obtain ⟨b, o, h1, h2⟩ := Sl.at_ (P := P) h t e ht hs i (lt_of_getElem? hx)
  refine ⟨b, o + i * k, h1, fun j y hy => ?_⟩
  have hj : j < k := by have := lt_of_getElem? hy; rwa [he] at this
  exact h2 j y hj (by rw [flat_get he hx hj]; exact hy)
theorem Recs.of_own {w : World} {base e n : Nat} {v : Value} {xs : List α} (h : w.ownsRow base e k v n (xs.flatMap enc)) (hn : n = xs.length) (hl : xs.length ≤ 140737488355328) : Recs k enc w v xs := by
  subst hn; exact Sl.of_own h hl
theorem Recs.cut (he : ∀ x, (enc x).length = k) {P : Program} {w : World} {a : Option Addr} {n c : Nat} {xs : List α} (h : Recs k enc w (.slice a n c) xs) (hn : n = xs.length) (t e : TypeId)
    (ht : P.underlying t = some (.slice e)) (hs : ∀ W, (sizeOf e).run P W = .ok k W) (lo hi : Nat) (h1 : lo ≤ hi) (h2 : hi ≤ n) :
    ∃ a', Recs k enc w (.slice a' (hi - lo) (c - lo)) ((xs.drop lo).take (hi - lo)) ∧
      (∀ W, (Instr.slice t (.slice a n c) (some (.int .i64 (lo : Int))) (some (.int .i64 (hi : Int))) none).run P W = .ok (.slice a' (hi - lo) (c - lo)) W) ∧
      (lo = 0 → ∀ W, (Instr.slice t (.slice a n c) none (some (.int .i64 (hi : Int))) none).run P W = .ok (.slice a' (hi - lo) (c - lo)) W) ∧
      (hi = n → ∀ W, (Instr.slice t (.slice a n c) (some (.int .i64 (lo : Int))) none none).run P W = .ok (.slice a' (hi - lo) (c - lo)) W) := by
  subst hn
  obtain ⟨a', h3, h4⟩ := Sl.cut (P := P) h t e ht hs lo hi h1 h2
  refine ⟨a', ?_, h4⟩
  unfold Recs
  have e1 : ((xs.drop lo).take (hi - lo)).length = hi - lo := by simp; omega
  rw [e1, ← flat_take he, ← flat_drop he]
  exact h3
theorem Recs.new (he : ∀ x, (enc x).length = k) (w : World) (xs : List α) (e : Nat) (hm : xs.length ≤ 140737488355328) :
    Recs k enc (w.alloc (.cells (xs.flatMap enc).toArray e)) (.slice (some ⟨w.heap.size, 0, none⟩) xs.length xs.length) xs := by
  have := Sl.new w (xs.flatMap enc).toArray e k xs.length (by simpa using flat_len he xs) hm
  simpa [Recs] using this
theorem recs_oneCell (h1 : ∀ x, ∀ v ∈ enc x, v.oneCell' = true) (xs : List α) : ∀ u ∈ xs.flatMap enc, u.oneCell' = true := by
  intro u hu
  obtain ⟨x, _, hx⟩ := List.mem_flatMap.1 hu
  exact h1 x u hx
end

/-- api.Word. -/
def encWd (p : BS × BS) : List Value := [.string p.1, .string p.2]
theorem lenWd (p : BS × BS) : (encWd p).length = 2 := rfl
theorem oneWd (p : BS × BS) : ∀ v ∈ encWd p, v.oneCell' = true := by intro v hv; simp [encWd] at hv; rcases hv with rfl | rfl <;> rfl
/-- api.Row. -/
structure Rw where
  kind : Int
  name : BS
  text : BS
  n : Int
  id : BS
  at_ : BS
  gone : Bool
instance : DecidableEq Rw := fun a b => decidable_of_iff (a.kind = b.kind ∧ a.name = b.name ∧ a.text = b.text ∧ a.n = b.n ∧ a.id = b.id ∧ a.at_ = b.at_ ∧ a.gone = b.gone) (by cases a; cases b; simp)
def Rw.cells (r : Rw) : Array Value := #[.int .i64 r.kind, .string r.name, .string r.text, .int .i64 r.n, .string r.id, .string r.at_, .bool r.gone]
def encRw (r : Rw) : List Value := r.cells.toList
theorem lenRw (r : Rw) : (encRw r).length = 7 := rfl
theorem oneRw (r : Rw) : ∀ v ∈ encRw r, v.oneCell' = true := by intro v hv; simp [encRw, Rw.cells] at hv; rcases hv with rfl | rfl | rfl | rfl | rfl | rfl | rfl <;> rfl
abbrev Words (w : World) (v : Value) (xs : List (BS × BS)) : Prop := Recs 2 encWd w v xs
abbrev RowsR (w : World) (v : Value) (xs : List Rw) : Prop := Recs 7 encRw w v xs

theorem wpList_appR {α : Type} {k : Nat} {enc : α → List Value} (he : ∀ x, (enc x).length = k) (h1c : ∀ x, ∀ v ∈ enc x, v.oneCell' = true) {P : Program} {w : World} {ops : Array Oper} {rest : List Oper} {o : Oper} {a : Act} {Q : Exit → Act → World → Prop} (hgd : o.guard = none) (s x : Operand) (t : TypeId)
    (ho : o.op = .call { callee := .builtin .append, args := #[s, x], argTypes := #[t, t] })
    (e : TypeId) (z : Value) (bytes : Nat) (ht : P.underlying t = some (.slice e)) (hinfo : (P.info? e).map (fun i => (i.zero, i.size, i.bytes)) = some (some z, k, bytes)) (hzs : z.cells.size = k) (hk : 0 < k) (hby : 0 < bytes)
    (base : Nat) (v : Value) (xs : List α) (hs : a.eval s = v) (hown : w.ownsRow base e k v xs.length (xs.flatMap enc))
    (xv : Value) (ys : List α) (hx : a.eval x = xv) (hsl : Recs k enc w xv ys)
    (hbytes : (xs.length + ys.length) * bytes ≤ 140737488355328) (hbase : base ≤ w.heap.size)
    (h : ∀ v' w', w'.ownsRow base e k v' (xs ++ ys).length ((xs ++ ys).flatMap enc) → w.grownBy w' v.ownBlock → (v'.ownBlock = v.ownBlock ∨ v'.ownBlock = some w.heap.size) → wpList P ops Q rest (a.put o.dst v') w') :
    wpList P ops Q (o :: rest) a w :=
  wpList_app hgd s x t ho e z k bytes ht hinfo hzs hk hby v base xs.length _ hs hown xv ys.length _ hx hsl (recs_oneCell h1c ys) hbytes hbase
    (fun v' w' h1 h2 h3 => h v' w' (by rw [List.length_append, List.flatMap_append]; exact h1) h2 h3)
theorem own_emptyR (w : World) (k : Nat) (e : TypeId) {α : Type} (enc : α → List Value) : (w.alloc (.cells #[] e)).ownsRow w.heap.size e k (.slice (some ⟨w.heap.size, 0, none⟩) 0 0) ([] : List α).length (([] : List α).flatMap enc) := own_new w #[] e k 0 (by simp) (by simp [maxLen])
theorem own_nilR (w : World) (base k : Nat) (e : TypeId) {α : Type} (enc : α → List Value) : w.ownsRow base e k (.slice none 0 0) ([] : List α).length (([] : List α).flatMap enc) := World.ownsRow_nil _ _ _ _

/-! ### rows of cells, whole -/
theorem rowAt {w : World} {R : Nat} {cs : Array Value} {e : TypeId} {f : Nat × Nat} (hR : w.heap[R]? = some (.cells cs e f)) {j : Nat} {v : Value} (h : cs[j]? = some v) : w.cell? ⟨R, j, none⟩ = some v := by simp [World.cell?, hR, h]
theorem rowFz {w : World} {R : Nat} {cs : Array Value} {e : TypeId} (hR : w.heap[R]? = some (.cells cs e (0, 0))) (j : Nat) : w.frozen? ⟨R, j, none⟩ = false := by simp [World.frozen?, hR]
theorem rowSet {w : World} {R : Nat} {cs : Array Value} {e : TypeId} {f : Nat × Nat} (hR : w.heap[R]? = some (.cells cs e f)) (j : Nat) (v : Value) : (w.setCell ⟨R, j, none⟩ v).heap[R]? = some (.cells (cs.setIfInBounds j v) e f) := by
  simp [World.setCell, Array.getElem?_modify, hR]
theorem rowNew (w : World) (o : Obj) : (w.alloc o).heap[w.heap.size]? = some o := heap_alloc_new w o
theorem rowNew1 (w : World) (o p : Obj) : ((w.alloc o).alloc p).heap[w.heap.size + 1]? = some p := by have := heap_alloc_new (w.alloc o) p; rwa [World.size_alloc] at this
theorem rowNew0 (w : World) (o p : Obj) : ((w.alloc o).alloc p).heap[w.heap.size]? = some o := ((Fr.refl (w.alloc o)).alloc p).heap (heap_alloc_new w o)
theorem rowLt {w : World} {R : Nat} {o : Obj} (h : w.heap[R]? = some o) : R < w.heap.size := (Array.getElem?_eq_some_iff.1 h).1
theorem row2 {w : World} {R : Nat} {x y e0 e1 : Value} {e : TypeId} {f : Nat × Nat} (hR : w.heap[R]? = some (.cells #[e0, e1] e f)) : ((w.setCell ⟨R, 0, none⟩ x).setCell ⟨R, 1, none⟩ y).heap[R]? = some (.cells #[x, y] e f) := by
  have := rowSet (rowSet hR 0 x) 1 y
  simpa using this
theorem Fr.set2 {w w1 : World} (h : Fr [] w w1) {R : Nat} (hR : w.heap.size ≤ R) (x y : Value) : Fr [] w ((w1.setCell ⟨R, 0, none⟩ x).setCell ⟨R, 1, none⟩ y) := (h.setCell hR x).setCell hR y
end Go.Proofs.YtppgjglfoibfcaaGreat
