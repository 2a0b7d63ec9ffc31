import Derived.Test.YtppgjglfoibfcaaGreatBase
/-
  Plain laws on rising lists of texts, and on graphs as lists of nodes. No program in sight.
-/
set_option linter.unusedSimpArgs false
set_option linter.unusedVariables false
namespace Go.Proofs.YtppgjglfoibfcaaGreat

theorem snoc_ind {α : Type} {P : List α → Prop} (nil : P []) (snoc : ∀ l x, P l → P (l ++ [x])) (l : List α) : P l := by
  have h : ∀ l : List α, P l.reverse := by
    intro l
    induction l with
    | nil => exact nil
    | cons x l ih => rw [List.reverse_cons]; exact snoc _ _ ih
  rw [← List.reverse_reverse l]; exact h _

/-- A list of right IDs that rises. -/
def Rising (l : List BS) : Prop := (∀ x ∈ l, x.size = 32) ∧ l.Pairwise BLt
instance risingDec (l : List BS) : Decidable (Rising l) := inferInstanceAs (Decidable (_ ∧ _))

/-- A sorted list with one more. -/
def withL : List BS → BS → List BS
  | [], x => [x]
  | y :: l, x => if BLt y x then y :: withL l x else if y = x then y :: l else x :: y :: l
/-- The right ones of a list, rising, each once. -/
def ofL (l : List BS) : List BS := (l.filter fun x => decide (x.size = 32)).foldl withL []

theorem mem_withL : ∀ (l : List BS) (x y : BS), y ∈ withL l x ↔ y = x ∨ y ∈ l
  | [], x, y => by simp [withL]
  | z :: l, x, y => by
    unfold withL
    split
    · simp only [List.mem_cons, mem_withL l x y]
      constructor <;> (rintro (h | h | h) <;> simp [h])
    · split
      · rename_i h; subst h; simp
      · simp

theorem sorted_withL : ∀ (l : List BS) (x : BS), l.Pairwise BLt → (withL l x).Pairwise BLt
  | [], x, _ => by simp [withL]
  | z :: l, x, h => by
    have h' := List.pairwise_cons.1 h
    unfold withL
    split
    · rename_i hz
      refine List.pairwise_cons.2 ⟨fun y hy => ?_, sorted_withL l x h'.2⟩
      rcases (mem_withL l x y).1 hy with rfl | hy
      · exact hz
      · exact h'.1 y hy
    · split
      · exact h
      · rename_i h1 h2
        have hxz : BLt x z := by rcases blt_total x z with h | h | h; exact h; exact absurd h.symm h2; exact absurd h h1
        refine List.pairwise_cons.2 ⟨fun y hy => ?_, h⟩
        rcases List.mem_cons.1 hy with rfl | hy
        · exact hxz
        · exact blt_trans hxz (h'.1 y hy)

theorem mem_foldl_withL (l : List BS) : ∀ (acc : List BS) (y : BS), y ∈ l.foldl withL acc ↔ y ∈ acc ∨ y ∈ l := by
  induction l with
  | nil => intro acc y; simp
  | cons x l ih =>
    intro acc y
    simp only [List.foldl_cons, ih, mem_withL, List.mem_cons]
    constructor
    · rintro ((h | h) | h) <;> simp [h]
    · rintro (h | h | h) <;> simp [h]
theorem sorted_foldl_withL (l : List BS) : ∀ (acc : List BS), acc.Pairwise BLt → (l.foldl withL acc).Pairwise BLt := by
  induction l with
  | nil => intro acc h; exact h
  | cons x l ih => intro acc h; exact ih _ (sorted_withL acc x h)

theorem mem_ofL (l : List BS) (y : BS) : y ∈ ofL l ↔ y ∈ l ∧ y.size = 32 := by
  unfold ofL; rw [mem_foldl_withL]; simp
theorem sorted_ofL (l : List BS) : (ofL l).Pairwise BLt := sorted_foldl_withL _ _ List.Pairwise.nil
theorem rising_ofL (l : List BS) : Rising (ofL l) := ⟨fun x hx => ((mem_ofL l x).1 hx).2, sorted_ofL l⟩

/-- A sorted list is known by what is in it. -/
theorem sorted_ext : ∀ {l m : List BS}, l.Pairwise BLt → m.Pairwise BLt → (∀ x, x ∈ l ↔ x ∈ m) → l = m
  | [], [], _, _, _ => rfl
  | [], y :: m, _, _, h => absurd ((h y).2 (by simp)) (by simp)
  | x :: l, [], _, _, h => absurd ((h x).1 (by simp)) (by simp)
  | x :: l, y :: m, hl, hm, h => by
    have hl' := List.pairwise_cons.1 hl
    have hm' := List.pairwise_cons.1 hm
    have hxy : x = y := by
      rcases List.mem_cons.1 ((h x).1 (by simp)) with e | hx
      · exact e
      · rcases List.mem_cons.1 ((h y).2 (by simp)) with e | hy
        · exact e.symm
        · exact absurd (hm'.1 x hx) (blt_asymm (hl'.1 y hy))
    subst hxy
    congr 1
    refine sorted_ext hl'.2 hm'.2 fun z => ?_
    constructor
    · intro hz
      rcases List.mem_cons.1 ((h z).1 (List.mem_cons_of_mem _ hz)) with e | hz'
      · subst e; exact absurd (hl'.1 _ hz) (blt_irrefl _)
      · exact hz'
    · intro hz
      rcases List.mem_cons.1 ((h z).2 (List.mem_cons_of_mem _ hz)) with e | hz'
      · subst e; exact absurd (hm'.1 _ hz) (blt_irrefl _)
      · exact hz'
theorem rising_ext {l m : List BS} (hl : Rising l) (hm : Rising m) (h : ∀ x, x ∈ l ↔ x ∈ m) : l = m := sorted_ext hl.2 hm.2 h
theorem ofL_of_rising {l : List BS} (h : Rising l) : ofL l = l := rising_ext (rising_ofL l) h fun x => by
  rw [mem_ofL]; exact ⟨fun h => h.1, fun hx => ⟨hx, h.1 x hx⟩⟩
theorem ofL_snoc {l : List BS} {x : BS} (h : x.size = 32) : ofL (l ++ [x]) = withL (ofL l) x := by simp [ofL, h]
theorem ofL_snoc_no {l : List BS} {x : BS} (h : x.size ≠ 32) : ofL (l ++ [x]) = ofL l := by simp [ofL, h]
theorem sorted_nodup {l : List BS} (h : l.Pairwise BLt) : l.Nodup := h.imp fun {a b} h e => by subst e; exact blt_irrefl _ h
theorem length_withL : ∀ (l : List BS) (x : BS), (withL l x).length ≤ l.length + 1
  | [], x => by simp [withL]
  | z :: l, x => by
    unfold withL
    split
    · have := length_withL l x; simp; omega
    · split <;> simp
theorem length_foldl_withL (l : List BS) : ∀ acc : List BS, (l.foldl withL acc).length ≤ acc.length + l.length := by
  induction l with
  | nil => intro acc; simp
  | cons x l ih => intro acc; have := ih (withL acc x); have := length_withL acc x; simp only [List.foldl_cons, List.length_cons]; omega
theorem length_ofL (l : List BS) : (ofL l).length ≤ l.length := by
  have h1 := length_foldl_withL (l.filter fun x => decide (x.size = 32)) []
  have h2 := List.length_filter_le (fun x : BS => decide (x.size = 32)) l
  unfold ofL; simp only [List.length_nil] at h1; omega

/-- withL by the place k: what is less stands ahead of k, and nothing there is x. -/
theorem withL_split {l : List BS} {x : BS} {k : Nat} (h1 : ∀ y ∈ l.take k, BLt y x) (h2 : ∀ y, l[k]? = some y → BLt x y) : withL l x = l.take k ++ [x] ++ l.drop k := by
  induction l generalizing k with
  | nil => simp [withL]
  | cons z l ih =>
    cases k with
    | zero =>
      have := h2 z (by simp)
      unfold withL
      rw [if_neg (blt_asymm this), if_neg (fun e => by subst e; exact blt_irrefl _ this)]
      simp
    | succ k =>
      have hz : BLt z x := h1 z (by simp)
      unfold withL
      rw [if_pos hz, ih (k := k) (fun y hy => h1 y (by simp [hy])) (fun y hy => h2 y (by simpa using hy))]
      simp
theorem withL_same {l : List BS} {x : BS} {k : Nat} (h1 : ∀ y ∈ l.take k, BLt y x) (h2 : l[k]? = some x) : withL l x = l := by
  induction l generalizing k with
  | nil => simp at h2
  | cons z l ih =>
    cases k with
    | zero =>
      obtain rfl : z = x := by simpa using h2
      unfold withL
      rw [if_neg (blt_irrefl _), if_pos rfl]
    | succ k =>
      have hz : BLt z x := h1 z (by simp)
      unfold withL
      rw [if_pos hz, ih (k := k) (fun y hy => h1 y (by simp [hy])) (by simpa using h2)]

/-! ### graphs -/
structure Nd where
  id : BS
  preds : List BS
abbrev G := List Nd
def ids (g : G) : List BS := g.map (·.id)
def preds (g : G) (x : BS) : List BS := ((g.find? fun n => decide (n.id = x)).map (·.preds)).getD []
def kids (g : G) (x : BS) : List BS := ofL ((g.filter fun n => decide (x ∈ n.preds)).map (·.id))
def heads (g : G) : List BS := ofL ((ids g).filter fun x => decide (kids g x = []))
def lookD (m : List (BS × Nat)) (x : BS) : Nat := ((m.find? fun p => decide (p.1 = x)).map (·.2)).getD 0
def maxD (m : List (BS × Nat)) (l : List BS) : Nat := l.foldl (fun a p => max a (lookD m p)) 0
def deps (g : G) : List (BS × Nat) := g.foldl (fun m n => m ++ [(n.id, maxD m n.preds + 1)]) []
def depth (g : G) (x : BS) : Nat := lookD (deps g) x

/-- A right graph: the IDs are right and unlike, each one's predecessors rise and stand ahead. -/
def Wf (g : G) : Prop := ∀ i n, g[i]? = some n → n.id.size = 32 ∧ Rising n.preds ∧ n.id ∉ ids (g.take i) ∧ ∀ p ∈ n.preds, p ∈ ids (g.take i)

/-- What adding answers. -/
def addE (g : G) (id : BS) (ps : List BS) : Int :=
  if ¬ (id.size = 32 ∧ Rising ps) then 1 else if id ∈ ids g then 7 else if ∃ p ∈ ps, p ∉ ids g then 14 else if 4096 ≤ g.length then 2 else 0
def addG (g : G) (id : BS) (ps : List BS) : G := if addE g id ps = 0 then g ++ [⟨id, ps⟩] else g

/-- y is x, or x is ahead of y. -/
inductive Reach (g : G) : BS → BS → Prop
  | refl (x : BS) : Reach g x x
  | step {y p x : BS} : p ∈ preds g y → Reach g p x → Reach g y x

/-- What past, and ahead, mean. -/
def IsPast (g : G) (l out : List BS) : Prop := Rising out ∧ ∀ x, x ∈ out ↔ ∃ y ∈ l, y ∈ ids g ∧ Reach g y x
def Ahead (g : G) (a b : BS) : Prop := a ≠ b ∧ a ∈ ids g ∧ b ∈ ids g ∧ Reach g b a
/-- All, by depth, then by ID. -/
def OLt (g : G) (a b : BS) : Prop := depth g a < depth g b ∨ depth g a = depth g b ∧ BLt a b
def IsOrder (g : G) (out : List BS) : Prop := out.Pairwise (OLt g) ∧ ∀ x, x ∈ out ↔ x ∈ ids g

end Go.Proofs.YtppgjglfoibfcaaGreat
