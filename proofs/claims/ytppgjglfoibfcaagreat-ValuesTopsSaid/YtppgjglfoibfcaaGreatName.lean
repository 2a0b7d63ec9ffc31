import Derived.Test.YtppgjglfoibfcaaGreatCtr
import Derived.Test.YtppgjglfoibfcaaGreatLay4
import Derived.Laws.RangeString
import Derived.Laws.RangeAny
/-
  Plain laws on registers: writes in order, what a write changes, what is told. No program in sight.
-/
set_option linter.unusedSimpArgs false
set_option linter.unusedVariables false
namespace Go.Proofs.YtppgjglfoibfcaaGreat

theorem pw_ext {α : Type} {lt : α → α → Prop} (irr : ∀ a, ¬ lt a a) (asy : ∀ a b, lt a b → ¬ lt b a) : ∀ {l m : List α}, l.Pairwise lt → m.Pairwise lt → (∀ x, x ∈ l ↔ x ∈ m) → l = m
  | [], [], _, _, _ => rfl
  | [], b :: m, _, _, h => absurd ((h b).2 List.mem_cons_self) (by simp)
  | a :: l, [], _, _, h => absurd ((h a).1 List.mem_cons_self) (by simp)
  | a :: l, b :: m, hl, hm, h => by
    obtain ⟨h1, h2⟩ := List.pairwise_cons.1 hl
    obtain ⟨k1, k2⟩ := List.pairwise_cons.1 hm
    have hab : a = b := by
      rcases List.mem_cons.1 ((h a).1 List.mem_cons_self) with e | e
      · exact e
      · rcases List.mem_cons.1 ((h b).2 List.mem_cons_self) with e' | e'
        · exact e'.symm
        · exact absurd (k1 _ e) (asy _ _ (h1 _ e'))
    subst hab
    congr 1
    refine pw_ext irr asy h2 k2 fun x => ?_
    constructor
    · intro hx
      rcases List.mem_cons.1 ((h x).1 (List.mem_cons_of_mem _ hx)) with e | e
      · subst e; exact absurd (h1 _ hx) (irr _)
      · exact e
    · intro hx
      rcases List.mem_cons.1 ((h x).2 (List.mem_cons_of_mem _ hx)) with e | e
      · subst e; exact absurd (k1 _ hx) (irr _)
      · exact e

/-- A pair's order. -/
def PLt (a b : BS × BS) : Prop := BLt a.1 b.1 ∨ a.1 = b.1 ∧ BLt a.2 b.2
instance pltDec (a b : BS × BS) : Decidable (PLt a b) := inferInstanceAs (Decidable (_ ∨ _))
theorem plt_irr (a : BS × BS) : ¬ PLt a a := fun h => h.elim (blt_irrefl _) fun h => blt_irrefl _ h.2
theorem plt_trans {a b c : BS × BS} (h : PLt a b) (k : PLt b c) : PLt a c := by
  rcases h with h | ⟨h, h'⟩ <;> rcases k with k | ⟨k, k'⟩
  · exact .inl (blt_trans h k)
  · exact .inl (k ▸ h)
  · exact .inl (h ▸ k)
  · exact .inr ⟨h.trans k, blt_trans h' k'⟩
theorem plt_asy (a b : BS × BS) (h : PLt a b) : ¬ PLt b a := fun k => plt_irr _ (plt_trans h k)
theorem plt_total (a b : BS × BS) : PLt a b ∨ a = b ∨ PLt b a := by
  rcases blt_total a.1 b.1 with h | h | h
  · exact .inl (.inl h)
  · rcases blt_total a.2 b.2 with k | k | k
    · exact .inl (.inr ⟨h, k⟩)
    · exact .inr (.inl (Prod.ext h k))
    · exact .inr (.inr (.inr ⟨h.symm, k⟩))
  · exact .inr (.inr (.inl h))

/-- A write: a name, a text, which update wrote it. -/
structure Wr where
  name : BS
  text : BS
  id : BS
def Wr.key (x : Wr) : BS × BS := (x.name, x.id)
def Wr.word (x : Wr) : BS × BS := (x.name, x.text)
instance : DecidableEq Wr := fun a b => decidable_of_iff (a.name = b.name ∧ a.text = b.text ∧ a.id = b.id) (by cases a; cases b; simp)
def WLt (a b : Wr) : Prop := PLt a.key b.key
instance wltDec (a b : Wr) : Decidable (WLt a b) := inferInstanceAs (Decidable (PLt _ _))
theorem wlt_irr (a : Wr) : ¬ WLt a a := plt_irr _
theorem wlt_asy (a b : Wr) (h : WLt a b) : ¬ WLt b a := plt_asy _ _ h
theorem wlt_trans {a b c : Wr} (h : WLt a b) (k : WLt b c) : WLt a c := plt_trans h k
def WSorted (L : List Wr) : Prop := L.Pairwise WLt

/-- One more, where it stands. -/
def insW : List Wr → Wr → List Wr
  | [], r => [r]
  | x :: l, r => if WLt r x then r :: x :: l else x :: insW l r
theorem mem_insW : ∀ (l : List Wr) (r x : Wr), x ∈ insW l r ↔ x = r ∨ x ∈ l
  | [], r, x => by simp [insW]
  | y :: l, r, x => by
    unfold insW
    split
    · simp
    · simp only [List.mem_cons, mem_insW l r x]; constructor <;> (rintro (h | h | h) <;> simp [h])
theorem sorted_insW {r : Wr} : ∀ {l : List Wr}, WSorted l → (∀ x ∈ l, x.key ≠ r.key) → WSorted (insW l r)
  | [], _, _ => by simp [insW, WSorted]
  | y :: l, h, hk => by
    obtain ⟨h1, h2⟩ := List.pairwise_cons.1 h
    unfold insW
    split
    · rename_i hr
      refine List.pairwise_cons.2 ⟨fun z hz => ?_, h⟩
      rcases List.mem_cons.1 hz with rfl | hz
      · exact hr
      · exact wlt_trans hr (h1 _ hz)
    · rename_i hr
      refine List.pairwise_cons.2 ⟨fun z hz => ?_, sorted_insW h2 fun x hx => hk x (List.mem_cons_of_mem _ hx)⟩
      rcases (mem_insW l r z).1 hz with rfl | hz
      · rcases plt_total y.key z.key with h' | h' | h'
        · exact h'
        · exact absurd h' (hk y List.mem_cons_self)
        · exact absurd h' hr
      · exact h1 _ hz
theorem insW_end {r : Wr} : ∀ {l : List Wr}, (∀ x ∈ l, ¬ WLt r x) → insW l r = l ++ [r]
  | [], _ => rfl
  | y :: l, h => by
    unfold insW
    rw [if_neg (h y List.mem_cons_self), insW_end fun x hx => h x (List.mem_cons_of_mem _ hx)]; rfl
theorem insW_snoc {r y : Wr} (hr : WLt r y) : ∀ l : List Wr, insW (l ++ [y]) r = insW l r ++ [y]
  | [] => by simp [insW, hr]
  | x :: l => by
    simp only [List.cons_append, insW]
    split
    · rfl
    · rw [insW_snoc hr l]; rfl

/-- May it be a write? -/
def nameOk (s : BS) : Bool := s.data.toList.all (fun c => (97 ≤ c && c ≤ 122) || (48 ≤ c && c ≤ 57) || c == 45) && decide (1 ≤ s.size ∧ s.size ≤ 12)
def mayW (r : Wr) : Bool := nameOk r.name && decide (r.text.size ≤ 48) && decide (r.id.size = 32)
/-- Is there one of the name that it is ahead of; is it kept. -/
def oldW (g : G) (L : List Wr) (r : Wr) : Bool := L.any fun x => decide (x.name = r.name) && aheadB g r.id x.id
def keepW (g : G) (r x : Wr) : Bool := !decide (x.name = r.name) || !aheadB g x.id r.id
def twiceW (L : List Wr) (r : Wr) : Bool := L.any fun x => decide (x.key = r.key)
def writeE (L : List Wr) (r : Wr) : Int := if mayW r = true then (if twiceW L r = true then 7 else 0) else 1
def putW (g : G) (L : List Wr) (r : Wr) : List Wr := if oldW g L r = true then L.filter (keepW g r) else insW (L.filter (keepW g r)) r
def writeL (g : G) (L : List Wr) (r : Wr) : List Wr := if writeE L r = 0 then putW g L r else L

theorem mem_putW (g : G) (L : List Wr) (r x : Wr) : x ∈ putW g L r ↔ (x = r ∧ oldW g L r = false) ∨ (x ∈ L ∧ keepW g r x = true) := by
  unfold putW
  split
  · rename_i h; simp [List.mem_filter, h]
  · rename_i h; simp [mem_insW, List.mem_filter, h]
theorem twiceW_no {L : List Wr} {r : Wr} (h : twiceW L r = false) : ∀ x ∈ L, x.key ≠ r.key := by
  intro x hx e
  have : twiceW L r = true := List.any_eq_true.2 ⟨x, hx, by simp [e]⟩
  rw [h] at this; cases this
theorem sorted_putW {g : G} {L : List Wr} {r : Wr} (hL : WSorted L) (h : twiceW L r = false) : WSorted (putW g L r) := by
  unfold putW
  split
  · exact hL.filter _
  · exact sorted_insW (hL.filter _) fun x hx => twiceW_no h x (List.mem_filter.1 hx).1
theorem sorted_writeL {g : G} {L : List Wr} {r : Wr} (hL : WSorted L) : WSorted (writeL g L r) := by
  unfold writeL
  split
  · rename_i h
    refine sorted_putW hL ?_
    cases ht : twiceW L r with
    | false => rfl
    | true => simp [writeE, ht] at h; split at h <;> cases h
  · exact hL
theorem len_insW : ∀ (l : List Wr) (r : Wr), (insW l r).length = l.length + 1
  | [], r => rfl
  | y :: l, r => by
    unfold insW
    split
    · rfl
    · simp [len_insW l r]
theorem len_putW (g : G) (L : List Wr) (r : Wr) : (putW g L r).length ≤ L.length + 1 := by
  unfold putW
  have := List.length_filter_le (keepW g r) L
  split
  · omega
  · rw [len_insW]; omega
theorem len_writeL (g : G) (L : List Wr) (r : Wr) : (writeL g L r).length ≤ L.length + 1 := by
  unfold writeL
  split
  · exact len_putW g L r
  · omega

/-- The writes of a name. -/
def regW (L : List Wr) (n : BS) : List Wr := L.filter fun x => decide (x.name = n)
theorem mem_regW (L : List Wr) (n : BS) (x : Wr) : x ∈ regW L n ↔ x ∈ L ∧ x.name = n := by simp [regW]
theorem regW_put_other (g : G) (L : List Wr) (hL : WSorted L) {r : Wr} (ht : twiceW L r = false) {n : BS} (hn : n ≠ r.name) : regW (putW g L r) n = regW L n := by
  refine pw_ext wlt_irr wlt_asy ((sorted_putW hL ht).filter _) (hL.filter _) fun x => ?_
  show x ∈ regW _ _ ↔ x ∈ regW _ _
  rw [mem_regW, mem_regW, mem_putW]
  constructor
  · rintro ⟨⟨rfl, _⟩ | ⟨h1, _⟩, h2⟩
    · exact absurd h2.symm hn
    · exact ⟨h1, h2⟩
  · rintro ⟨h1, h2⟩
    exact ⟨.inr ⟨h1, by simp [keepW, show ¬ x.name = r.name from fun e => hn (h2.symm.trans e)]⟩, h2⟩
/-- A name's writes behind a write: any list that rises by ID and has just those. -/
theorem regW_put_own (g : G) (L : List Wr) (hL : WSorted L) {r : Wr} (ht : twiceW L r = false) {M : List Wr} (hM : M.Pairwise (fun a b => BLt a.id b.id)) (hMn : ∀ x ∈ M, x.name = r.name)
    (hm : ∀ x, x ∈ M ↔ (x = r ∧ oldW g L r = false) ∨ (x ∈ regW L r.name ∧ aheadB g x.id r.id = false)) : regW (putW g L r) r.name = M := by
  refine pw_ext wlt_irr wlt_asy ((sorted_putW hL ht).filter _) ?_ fun x => ?_
  · exact List.Pairwise.imp_of_mem (fun {a b} ha hb h => .inr ⟨(hMn a ha).trans (hMn b hb).symm, h⟩) hM
  · show x ∈ regW _ _ ↔ _
    rw [hm, mem_regW, mem_putW, mem_regW]
    constructor
    · rintro ⟨⟨rfl, h⟩ | ⟨h1, h2⟩, h3⟩
      · exact .inl ⟨rfl, h⟩
      · refine .inr ⟨⟨h1, h3⟩, ?_⟩
        simpa [keepW, h3] using h2
    · rintro (⟨rfl, h⟩ | ⟨⟨h1, h2⟩, h3⟩)
      · exact ⟨.inl ⟨rfl, h⟩, rfl⟩
      · exact ⟨.inr ⟨h1, by simp [keepW, h3]⟩, h2⟩
theorem oldW_reg (g : G) (L : List Wr) (r : Wr) : oldW g L r = (regW L r.name).any fun x => aheadB g r.id x.id := by
  rw [Bool.eq_iff_iff]
  simp only [oldW, List.any_eq_true, mem_regW, Bool.and_eq_true, decide_eq_true_eq]
  constructor
  · rintro ⟨x, h1, h2, h3⟩; exact ⟨x, ⟨h1, h2⟩, h3⟩
  · rintro ⟨x, ⟨h1, h2⟩, h3⟩; exact ⟨x, h1, h2, h3⟩
theorem twiceW_reg (L : List Wr) (r : Wr) : twiceW L r = (regW L r.name).any fun x => decide (x.id = r.id) := by
  rw [Bool.eq_iff_iff]
  simp only [twiceW, List.any_eq_true, mem_regW, decide_eq_true_eq, Wr.key, Prod.mk.injEq]
  constructor
  · rintro ⟨x, h1, h2, h3⟩; exact ⟨x, ⟨h1, h2⟩, h3⟩
  · rintro ⟨x, ⟨h1, h2⟩, h3⟩; exact ⟨x, h1, h2, h3⟩
theorem reg_ids {L : List Wr} (hL : WSorted L) (n : BS) : (regW L n).Pairwise (fun a b => BLt a.id b.id) := by
  refine List.Pairwise.imp_of_mem (fun {a b} ha hb h => ?_) (hL.filter _)
  have h1 := ((mem_regW L n a).1 ha).2
  have h2 := ((mem_regW L n b).1 hb).2
  rcases h with h | h
  · have h : BLt a.name b.name := h
    rw [h1, h2] at h; exact absurd h (blt_irrefl _)
  · exact h.2

/-- What is told: names and texts, rising, each once. -/
def insP : List (BS × BS) → BS × BS → List (BS × BS)
  | [], r => [r]
  | x :: l, r => if PLt x r then x :: insP l r else if x = r then x :: l else r :: x :: l
theorem mem_insP : ∀ (l : List (BS × BS)) (r x : BS × BS), x ∈ insP l r ↔ x = r ∨ x ∈ l
  | [], r, x => by simp [insP]
  | y :: l, r, x => by
    unfold insP
    split
    · simp only [List.mem_cons, mem_insP l r x]; constructor <;> (rintro (h | h | h) <;> simp [h])
    · split
      · rename_i h; subst h; simp
      · simp
theorem sorted_insP {r : BS × BS} : ∀ {l : List (BS × BS)}, l.Pairwise PLt → (insP l r).Pairwise PLt
  | [], _ => by simp [insP]
  | y :: l, h => by
    obtain ⟨h1, h2⟩ := List.pairwise_cons.1 h
    unfold insP
    split
    · rename_i hr
      refine List.pairwise_cons.2 ⟨fun z hz => ?_, sorted_insP h2⟩
      rcases (mem_insP l r z).1 hz with rfl | hz
      · exact hr
      · exact h1 _ hz
    · rename_i hr
      split
      · exact h
      · rename_i he
        have hlt : PLt r y := (plt_total y r).elim (fun h => absurd h hr) fun h => h.elim (fun h => absurd h he) _root_.id
        refine List.pairwise_cons.2 ⟨fun z hz => ?_, h⟩
        rcases List.mem_cons.1 hz with rfl | hz
        · exact hlt
        · exact plt_trans hlt (h1 _ hz)
def tellW (L : List Wr) : List (BS × BS) := L.foldl (fun m x => insP m x.word) []
theorem mem_tell_aux (L : List Wr) : ∀ (m : List (BS × BS)) (p : BS × BS), p ∈ L.foldl (fun m x => insP m x.word) m ↔ p ∈ m ∨ ∃ x ∈ L, x.word = p := by
  induction L with
  | nil => simp
  | cons y L ih =>
    intro m p
    rw [List.foldl_cons, ih, mem_insP]
    simp only [List.mem_cons, exists_eq_or_imp]
    constructor
    · rintro ((h | h) | h)
      · exact .inr (.inl h.symm)
      · exact .inl h
      · exact .inr (.inr h)
    · rintro (h | h | h)
      · exact .inl (.inr h)
      · exact .inl (.inl h.symm)
      · exact .inr h
theorem mem_tellW (L : List Wr) (p : BS × BS) : p ∈ tellW L ↔ ∃ x ∈ L, x.word = p := by unfold tellW; rw [mem_tell_aux]; simp
theorem sorted_tell_aux (L : List Wr) : ∀ (m : List (BS × BS)), m.Pairwise PLt → (L.foldl (fun m x => insP m x.word) m).Pairwise PLt := by
  induction L with
  | nil => intro m h; exact h
  | cons y L ih => intro m h; rw [List.foldl_cons]; exact ih _ (sorted_insP h)
theorem sorted_tellW (L : List Wr) : (tellW L).Pairwise PLt := sorted_tell_aux L [] List.Pairwise.nil
theorem tellW_ext {L : List Wr} {m : List (BS × BS)} (hm : m.Pairwise PLt) (h : ∀ p, p ∈ m ↔ ∃ x ∈ L, x.word = p) : m = tellW L :=
  pw_ext plt_irr plt_asy hm (sorted_tellW L) fun p => by rw [h, mem_tellW]
theorem len_insP : ∀ (l : List (BS × BS)) (r : BS × BS), (insP l r).length ≤ l.length + 1
  | [], r => by simp [insP]
  | y :: l, r => by
    unfold insP
    split
    · have := len_insP l r; simp; omega
    · split <;> simp
theorem len_tellW (L : List Wr) : (tellW L).length ≤ L.length := by
  have h : ∀ (L : List Wr) (m : List (BS × BS)), (L.foldl (fun m x => insP m x.word) m).length ≤ m.length + L.length := by
    intro L
    induction L with
    | nil => simp
    | cons y L ih => intro m; have := ih (insP m y.word); have := len_insP m y.word; simp only [List.foldl_cons, List.length_cons]; omega
  have := h L []
  simpa [tellW] using this
/-- A name's texts, rising, each once. -/
def ofW (L : List Wr) (n : BS) : List BS := ((tellW L).filter fun p => decide (p.1 = n)).map (·.2)
theorem mem_ofW (L : List Wr) (n t : BS) : t ∈ ofW L n ↔ ∃ x ∈ L, x.name = n ∧ x.text = t := by
  simp only [ofW, List.mem_map, List.mem_filter, mem_tellW, decide_eq_true_eq]
  constructor
  · rintro ⟨p, ⟨⟨x, hx, rfl⟩, h⟩, rfl⟩; exact ⟨x, hx, h, rfl⟩
  · rintro ⟨x, hx, h, rfl⟩; exact ⟨x.word, ⟨⟨x, hx, rfl⟩, h⟩, rfl⟩
theorem sorted_ofW (L : List Wr) (n : BS) : (ofW L n).Pairwise BLt := by
  unfold ofW
  rw [List.pairwise_map]
  refine List.Pairwise.imp_of_mem (fun {a b} ha hb h => ?_) ((sorted_tellW L).filter _)
  have h1 : a.1 = n := by simpa using (List.mem_filter.1 ha).2
  have h2 : b.1 = n := by simpa using (List.mem_filter.1 hb).2
  rcases h with h | h
  · rw [h1, h2] at h; exact absurd h (blt_irrefl _)
  · exact h.2
/-- What is told, name by name. -/
theorem tell_names {L : List Wr} {N : List BS} (hN : N.Pairwise BLt) (hall : ∀ x ∈ L, x.name ∈ N) : N.flatMap (fun n => (ofW L n).map fun t => (n, t)) = tellW L := by
  refine tellW_ext ?_ fun p => ?_
  · rw [List.pairwise_flatMap]
    refine ⟨fun n _ => ?_, hN.imp fun {a b} hab => ?_⟩
    · rw [List.pairwise_map]; exact (sorted_ofW L n).imp fun h => .inr ⟨rfl, h⟩
    · intro p hp q hq
      obtain ⟨_, _, rfl⟩ := List.mem_map.1 hp
      obtain ⟨_, _, rfl⟩ := List.mem_map.1 hq
      exact .inl hab
  · simp only [List.mem_flatMap, List.mem_map, mem_ofW]
    constructor
    · rintro ⟨n, _, t, ⟨x, h1, h2, h3⟩, rfl⟩; exact ⟨x, h1, by rw [← h2, ← h3]; rfl⟩
    · rintro ⟨x, hx, rfl⟩; exact ⟨x.name, hall x hx, x.text, ⟨x, hx, rfl, rfl⟩, rfl⟩
/-- All writes, name by name. -/
theorem rows_names {L : List Wr} (hL : WSorted L) {N : List BS} (hN : N.Pairwise BLt) (hall : ∀ x ∈ L, x.name ∈ N) : N.flatMap (regW L) = L := by
  refine pw_ext wlt_irr wlt_asy ?_ hL fun x => ?_
  · rw [List.pairwise_flatMap]
    refine ⟨fun n _ => hL.filter _, hN.imp fun {a b} hab => ?_⟩
    intro p hp q hq
    have h1 := ((mem_regW L a p).1 hp).2
    have h2 := ((mem_regW L b q).1 hq).2
    exact .inl (by show BLt p.name q.name; rw [h1, h2]; exact hab)
  · simp only [List.mem_flatMap, mem_regW]
    constructor
    · rintro ⟨n, _, h, _⟩; exact h
    · intro h; exact ⟨x.name, hall x h, h, rfl⟩

/-- The document's write, step by step: the state is what is out, and whether the new one still comes. -/
theorem putW_in {g : G} {r : Wr} {l : List Wr} {x : Wr} (h : ∀ y ∈ l, ¬ WLt r y) (hr : WLt r x) :
    insW ((l ++ [x]).filter (keepW g r)) r = l.filter (keepW g r) ++ [r] ++ (if keepW g r x then [x] else []) := by
  rw [List.filter_append]
  have h' : ∀ y ∈ l.filter (keepW g r), ¬ WLt r y := fun y hy => h y (List.mem_filter.1 hy).1
  by_cases hk : keepW g r x = true
  · simp only [List.filter_cons, hk, if_true, List.filter_nil]
    rw [insW_snoc hr, insW_end h']
  · simp only [List.filter_cons, hk, if_false, List.filter_nil, List.append_nil]
    simp [insW_end h']
theorem putW_past {g : G} {r : Wr} {l : List Wr} {x : Wr} (hr : WLt r x) :
    insW ((l ++ [x]).filter (keepW g r)) r = insW (l.filter (keepW g r)) r ++ (if keepW g r x then [x] else []) := by
  rw [List.filter_append]
  by_cases hk : keepW g r x = true
  · simp only [List.filter_cons, hk, if_true, List.filter_nil]; exact insW_snoc hr _
  · simp [List.filter_cons, hk]

theorem twice_step {L : List Wr} {r x : Wr} {k : Nat} (hx : L[k]? = some x) : twiceW (L.take (k + 1)) r = (twiceW (L.take k) r || decide (x.key = r.key)) := by
  rw [take_snoc hx]; simp [twiceW, List.any_append]
theorem old_step {g : G} {L : List Wr} {r x : Wr} {k : Nat} (hx : L[k]? = some x) : oldW g (L.take (k + 1)) r = (oldW g (L.take k) r || (decide (x.name = r.name) && aheadB g r.id x.id)) := by
  rw [take_snoc hx]; simp [oldW, List.any_append]
/-- The document's write, its second loop: whether the new one still comes, what is out. -/
def StW (g : G) (L : List Wr) (r : Wr) (k : Nat) (b : Bool) (O : List Wr) : Prop :=
  O.length ≤ k + 1 ∧ ((b = true ∧ oldW g L r = false ∧ (∀ y ∈ L.take k, ¬ WLt r y) ∧ O = (L.take k).filter (keepW g r)) ∨ (b = false ∧ oldW g L r = true ∧ O = (L.take k).filter (keepW g r)) ∨
    (b = false ∧ oldW g L r = false ∧ (∀ y ∈ L.drop k, WLt r y) ∧ O = insW ((L.take k).filter (keepW g r)) r))
def oneK (g : G) (r x : Wr) : List Wr := if keepW g r x = true then [x] else []
theorem len_oneK (g : G) (r x : Wr) : (oneK g r x).length ≤ 1 := by unfold oneK; split <;> simp
theorem StW.start (g : G) (L : List Wr) (r : Wr) : StW g L r 0 (!oldW g L r) [] := by
  refine ⟨by simp, ?_⟩
  cases h : oldW g L r with
  | false => exact .inl ⟨rfl, rfl, by simp, by simp⟩
  | true => exact .inr (.inl ⟨rfl, rfl, by simp⟩)
theorem keep_take {g : G} {L : List Wr} {r x : Wr} {k : Nat} (hx : L[k]? = some x) : (L.take (k + 1)).filter (keepW g r) = (L.take k).filter (keepW g r) ++ oneK g r x := by
  rw [take_snoc hx, List.filter_append]; congr 1
  unfold oneK
  by_cases h : keepW g r x = true <;> simp [List.filter_cons, h]
theorem StW.lt {g : G} {L : List Wr} {r x : Wr} {k : Nat} {O : List Wr} (hL : WSorted L) (h : StW g L r k true O) (hx : L[k]? = some x) (hr : WLt r x) : StW g L r (k + 1) false ((O ++ [r]) ++ oneK g r x) := by
  obtain ⟨h1, h2 | ⟨h2, _⟩ | ⟨h2, _⟩⟩ := h
  · obtain ⟨-, h3, h4, rfl⟩ := h2
    refine ⟨by have := len_oneK g r x; simp only [List.length_append, List.length_singleton]; have := List.length_filter_le (keepW g r) (L.take k); have := List.length_take_le k L; omega, .inr (.inr ⟨rfl, h3, fun y hy => ?_, ?_⟩)⟩
    · have hlt := lt_of_getElem? hx
      obtain ⟨i, hi⟩ := List.mem_iff_getElem?.1 hy
      rw [List.getElem?_drop] at hi
      have hlt2 := lt_of_getElem? hi
      have e1 : L[k] = x := by rw [List.getElem?_eq_getElem hlt] at hx; exact Option.some.inj hx
      have e2 : L[k + 1 + i] = y := by rw [List.getElem?_eq_getElem hlt2] at hi; exact Option.some.inj hi
      have := List.pairwise_iff_getElem.1 hL k (k + 1 + i) hlt hlt2 (by omega)
      rw [e1, e2] at this
      exact wlt_trans hr this
    · rw [take_snoc hx, putW_in h4 hr]; rfl
  · cases h2
  · cases h2
theorem StW.ge {g : G} {L : List Wr} {r x : Wr} {k : Nat} {O : List Wr} (h : StW g L r k true O) (hx : L[k]? = some x) (hr : ¬ WLt r x) : StW g L r (k + 1) true (O ++ oneK g r x) := by
  obtain ⟨h1, h2 | ⟨h2, _⟩ | ⟨h2, _⟩⟩ := h
  · obtain ⟨-, h3, h4, rfl⟩ := h2
    refine ⟨by have := len_oneK g r x; simp only [List.length_append]; omega, .inl ⟨rfl, h3, fun y hy => ?_, (keep_take hx).symm⟩⟩
    rcases (mem_take_succ hx).1 hy with hy | rfl
    · exact h4 y hy
    · exact hr
  · cases h2
  · cases h2
theorem StW.no {g : G} {L : List Wr} {r x : Wr} {k : Nat} {O : List Wr} (h : StW g L r k false O) (hx : L[k]? = some x) : StW g L r (k + 1) false (O ++ oneK g r x) := by
  obtain ⟨h1, ⟨h2, _⟩ | ⟨_, h3, rfl⟩ | ⟨_, h3, h4, rfl⟩⟩ := h
  · cases h2
  · exact ⟨by have := len_oneK g r x; simp only [List.length_append]; omega, .inr (.inl ⟨rfl, h3, (keep_take hx).symm⟩)⟩
  · have hd : ∀ y ∈ L.drop (k + 1), WLt r y := fun y hy => h4 y (by
      have : L.drop k = x :: L.drop (k + 1) := List.drop_eq_getElem?_toList_append.trans (by rw [hx]; rfl)
      rw [this]; exact List.mem_cons_of_mem _ hy)
    have hr : WLt r x := h4 x (by
      have : L.drop k = x :: L.drop (k + 1) := List.drop_eq_getElem?_toList_append.trans (by rw [hx]; rfl)
      rw [this]; exact List.mem_cons_self)
    refine ⟨by have := len_oneK g r x; simp only [List.length_append]; omega, .inr (.inr ⟨rfl, h3, hd, ?_⟩)⟩
    rw [take_snoc hx, putW_past hr]; rfl
theorem StW.fin {g : G} {L : List Wr} {r : Wr} {k : Nat} {b : Bool} {O : List Wr} (h : StW g L r k b O) (hk : L.length ≤ k) : putW g L r = if b = true then O ++ [r] else O := by
  obtain ⟨h1, ⟨rfl, h3, h4, rfl⟩ | ⟨rfl, h3, rfl⟩ | ⟨rfl, h3, h4, rfl⟩⟩ := h
  · rw [List.take_of_length_le hk] at h4 ⊢
    unfold putW
    rw [if_neg (by rw [h3]; simp), if_pos rfl, insW_end fun y hy => h4 y (List.mem_filter.1 hy).1]
  · rw [List.take_of_length_le hk]; unfold putW; rw [if_pos h3]; simp
  · rw [List.take_of_length_le hk]; unfold putW; rw [if_neg (by rw [h3]; simp)]; simp

theorem nodup_ids_reg {L : List Wr} (hL : WSorted L) (n : BS) : ((regW L n).map (·.id)).Nodup := by
  unfold List.Nodup
  rw [List.pairwise_map]
  exact (reg_ids hL n).imp fun h e => by rw [e] at h; exact blt_irrefl _ h
/-- The sorted row of a name behind a write. -/
theorem reg_sorted {g : G} {L : List Wr} (hL : WSorted L) {r : Wr} (ht : twiceW L r = false) {ys : List Wr}
    (hp : ys.Perm ((regW L r.name).filter (fun x => !aheadB g x.id r.id) ++ (if oldW g L r = true then [] else [r]))) (hs : ys.Pairwise (fun a b => ¬ BLt b.id a.id)) : regW (putW g L r) r.name = ys := by
  have hmem : ∀ x, x ∈ ys ↔ (x = r ∧ oldW g L r = false) ∨ (x ∈ regW L r.name ∧ aheadB g x.id r.id = false) := by
    intro x
    rw [hp.mem_iff, List.mem_append, List.mem_filter]
    cases h : oldW g L r with
    | false => simp [or_comm]
    | true => simp
  refine regW_put_own g L hL ht ?_ (fun x hx => ?_) hmem
  · have hn : (ys.map (·.id)).Nodup := by
      refine ((hp.map (·.id)).nodup_iff).2 ?_
      rw [List.map_append]
      refine List.nodup_append.2 ⟨(nodup_ids_reg hL r.name).sublist ((List.filter_sublist).map _), ?_, ?_⟩
      · split <;> simp
      · intro a ha b hb e
        subst e
        obtain ⟨x, hx, rfl⟩ := List.mem_map.1 ha
        split at hb
        · simp at hb
        · have e1 : x.id = r.id := by simpa using hb
          have hx1 := (mem_regW L r.name x).1 (List.mem_filter.1 hx).1
          exact twiceW_no ht x hx1.1 (Prod.ext hx1.2 e1)
    unfold List.Nodup at hn
    rw [List.pairwise_map] at hn
    refine (hs.and hn).imp fun {a b} h => ?_
    rcases blt_total a.id b.id with k | k | k
    · exact k
    · exact absurd k h.2
    · exact absurd k h.1
  · rcases (hmem x).1 hx with ⟨rfl, _⟩ | ⟨h, _⟩
    · rfl
    · exact ((mem_regW L r.name x).1 h).2
theorem writeE_no {L : List Wr} {r : Wr} (h : mayW r = false) : writeE L r = 1 := by unfold writeE; rw [h]; rfl
theorem writeE_twice {L : List Wr} {r : Wr} (h : mayW r = true) (h2 : twiceW L r = true) : writeE L r = 7 := by unfold writeE; rw [h, h2]; rfl
theorem writeE_ok {L : List Wr} {r : Wr} (h : mayW r = true) (h2 : twiceW L r = false) : writeE L r = 0 := by unfold writeE; rw [h, h2]; rfl
theorem writeL_no {g : G} {L : List Wr} {r : Wr} {z : Int} (h : writeE L r = z) (hz : z ≠ 0) : writeL g L r = L := by unfold writeL; rw [if_neg (by rw [h]; exact hz)]
theorem writeL_ok {g : G} {L : List Wr} {r : Wr} (h : writeE L r = 0) : writeL g L r = putW g L r := by unfold writeL; rw [if_pos h]
theorem twice_take {L : List Wr} {r x : Wr} {k : Nat} (hx : L[k]? = some x) (h : x.key = r.key) : twiceW L r = true := List.any_eq_true.2 ⟨x, List.mem_of_getElem? hx, by simpa using h⟩


theorem flat_split {α β : Type} {N : List α} {f : α → List β} {k : Nat} {n : α} (hx : N[k]? = some n) : N.flatMap f = (N.take k).flatMap f ++ f n ++ (N.drop (k + 1)).flatMap f := by
  have h : N = N.take k ++ n :: N.drop (k + 1) := by
    have := (List.take_append_drop k N).symm
    rwa [show N.drop k = n :: N.drop (k + 1) from List.drop_eq_getElem?_toList_append.trans (by rw [hx]; rfl)] at this
  conv => lhs; rw [h]
  simp
theorem flat_prefix {α β : Type} {N : List α} {f : α → List β} {k : Nat} {n : α} (hx : N[k]? = some n) (j : Nat) : ((N.take k).flatMap f ++ (f n).take j).length ≤ (N.flatMap f).length := by
  rw [flat_split hx]
  have := List.length_take_le' j (f n)
  simp only [List.length_append]
  omega
theorem flat_step {α β : Type} {N : List α} {f : α → List β} {k : Nat} {n : α} (hx : N[k]? = some n) {j : Nat} (hj : (f n).length ≤ j) : (N.take k).flatMap f ++ (f n).take j = (N.take (k + 1)).flatMap f := by
  rw [take_snoc hx, List.flatMap_append, List.take_of_length_le hj]; simp
theorem flat_more {α β : Type} {N : List α} {f : α → List β} {k j : Nat} {n : α} {y : β} (hy : (f n)[j]? = some y) : ((N.take k).flatMap f ++ (f n).take j) ++ [y] = (N.take k).flatMap f ++ (f n).take (j + 1) := by
  rw [take_snoc hy, List.append_assoc]
theorem tell_of_names {L : List Wr} {N : List BS} (hN : N.Pairwise BLt) (hall : ∀ x ∈ L, x.name ∈ N) : N.flatMap (fun n => (ofW L n).map fun t => (n, t)) = tellW L := tell_names hN hall
theorem len_ofW (L : List Wr) (n : BS) : (ofW L n).length ≤ L.length := by
  unfold ofW; rw [List.length_map]; exact Nat.le_trans (List.length_filter_le _ _) (len_tellW L)
end Go.Proofs.YtppgjglfoibfcaaGreat

set_option linter.unusedSimpArgs false
set_option linter.unusedVariables false
/-
  op.Name, and the document's Name.
-/
namespace Go.Proofs.YtppgjglfoibfcaaGreat
open Go.RowKit Go.Lib

def nmc (c : UInt8) : Bool := (97 ≤ c && c ≤ 122) || (48 ≤ c && c ≤ 57) || c == 45
def nmr (r : Nat) : Bool := !(decide (97 ≤ r) && decide (r ≤ 122) || decide (48 ≤ r) && decide (r ≤ 57) || decide (r = 45))
theorem nmr_byte (c : UInt8) : nmr c.toNat = !nmc c := by
  unfold nmr nmc
  congr 1
  have h1 : decide (97 ≤ c.toNat) = decide (97 ≤ c) := by simp [UInt8.le_iff_toNat_le]
  have h2 : decide (c.toNat ≤ 122) = decide (c ≤ 122) := by simp [UInt8.le_iff_toNat_le]
  have h3 : decide (48 ≤ c.toNat) = decide (48 ≤ c) := by simp [UInt8.le_iff_toNat_le]
  have h4 : decide (c.toNat ≤ 57) = decide (c ≤ 57) := by simp [UInt8.le_iff_toNat_le]
  have h5 : decide (c.toNat = 45) = (c == 45) := by
    rw [Bool.eq_iff_iff]; simp only [decide_eq_true_eq, beq_iff_eq]
    exact ⟨fun h => UInt8.toNat_inj.1 h, fun h => by rw [h]; rfl⟩
  rw [h1, h2, h3, h4, h5]
theorem nmr_high {r : Nat} (h : 128 ≤ r) : nmr r = true := by
  unfold nmr
  have h1 : decide (r ≤ 122) = false := decide_eq_false (by omega)
  have h2 : decide (r ≤ 57) = false := decide_eq_false (by omega)
  have h3 : decide (r = 45) = false := decide_eq_false (by omega)
  simp [h1, h2, h3]
theorem nmc_high {c : UInt8} (h : 128 ≤ c.toNat) : nmc c = false := by
  have := nmr_byte c
  rw [nmr_high h] at this
  cases hc : nmc c with
  | false => rfl
  | true => rw [hc] at this; cases this
theorem name_from (s : ByteArray) : ∀ (f pos : Nat), s.size - pos ≤ f → (idxFuncFrom nmr true s f pos < 0 ↔ ∀ (i : Nat) (hi : i < s.size), pos ≤ i → nmc s[i] = true)
  | 0, pos, h => by
    simp only [idxFuncFrom]
    exact ⟨fun _ i hi hp => absurd hi (by omega), fun _ => by omega⟩
  | f + 1, pos, h => by
    simp only [idxFuncFrom]
    by_cases hp : pos < s.size
    · rw [if_pos hp]
      by_cases ha : (s[pos]'hp).toNat < 128
      · rw [decode_ascii s pos hp ha, nmr_byte]
        cases hc : nmc s[pos] with
        | true =>
          simp only [Bool.not_true, Bool.false_eq_true, if_false]
          rw [name_from s f (pos + 1) (by omega)]
          constructor
          · intro k i hi hpi
            rcases Nat.eq_or_lt_of_le hpi with e | e
            · subst e; exact hc
            · exact k i hi e
          · intro k i hi hpi; exact k i hi (by omega)
        | false =>
          simp only [Bool.not_false, if_true]
          constructor
          · intro k; omega
          · intro k; have := k pos hp (Nat.le_refl _); rw [hc] at this; cases this
      · have hd := decode_high s pos hp (by omega)
        rw [nmr_high hd.1, if_pos rfl]
        constructor
        · intro k; omega
        · intro k; have := k pos hp (Nat.le_refl _); rw [nmc_high (by omega)] at this; cases this
    · rw [if_neg hp]
      exact ⟨fun _ i hi hpi => absurd hi (by omega), fun _ => by omega⟩
theorem name_idx (s : BS) : idxFunc nmr true s < 0 ↔ s.data.toList.all nmc = true := by
  unfold idxFunc
  rw [name_from s _ 0 (by omega), List.all_eq_true]
  constructor
  · intro h c hc
    obtain ⟨i, hi, rfl⟩ := List.mem_iff_getElem.1 hc
    exact h i (by simpa using hi) (Nat.zero_le _)
  · intro h i hi _
    exact h _ (List.getElem_mem (by simpa using hi))
theorem nameOk_iff (s : BS) : nameOk s = (decide (idxFunc nmr true s < 0) && (decide (1 ≤ s.size) && decide (s.size ≤ 12))) := by
  have h : decide (idxFunc nmr true s < 0) = s.data.toList.all nmc := by rw [Bool.eq_iff_iff, decide_eq_true_eq]; exact name_idx s
  rw [h]
  show (s.data.toList.all nmc && decide (1 ≤ s.size ∧ s.size ≤ 12)) = _
  by_cases h1 : 1 ≤ s.size <;> by_cases h2 : s.size ≤ 12 <;> simp [h1, h2]

set_option maxRecDepth 100000 in
set_option maxHeartbeats 1000000 in
theorem nameRune (w : World) : PredAt Tryz.prog 226 #[] encR nmr w := fun W r _ => by
  unfold FnGives
  by_cases h1 : 97 ≤ r <;> by_cases h2 : r ≤ 122 <;> by_cases h3 : 48 ≤ r <;> by_cases h4 : r ≤ 57 <;> by_cases h5 : r = 45
  all_goals first | (exfalso; omega) | skip
  all_goals
    have z1 : (97 : Int) ≤ (r : Int) ↔ 97 ≤ r := by omega
    have z2 : (r : Int) ≤ 122 ↔ r ≤ 122 := by omega
    have z3 : (48 : Int) ≤ (r : Int) ↔ 48 ≤ r := by omega
    have z4 : (r : Int) ≤ 57 ↔ r ≤ 57 := by omega
    have z5 : (r : Int) = 45 ↔ r = 45 := by omega
    have z6 : ((r : Int) == 45) = decide (r = 45) := by rw [Bool.eq_iff_iff]; simp; omega
    go_enter Tryz.func226, Tryz.ntmps226
    go_wp2
    all_goals first | (exfalso; omega) | (go_ret; exact ⟨by simp [nmr, h1, h2, h3, h4, h5], 0, rfl⟩)

set_option maxRecDepth 100000 in
set_option maxHeartbeats 1000000 in
theorem name44 (s : BS) (w : World) : Calls Tryz.prog 155 #[.string s] w fun e w' => e = .returned (.bool (nameOk s)) ∧ Fr [] w w' := by
  have hC := Any.strings_IndexFunc Tryz.layIdxF 226 #[] (enters_of Tryz.func226 (by kernel_rfl) rfl) _ s w (nameRune w)
  change Calls Tryz.prog 225 _ _ _ at hC
  rw [nameOk_iff]
  generalize idxFunc nmr true s = I at hC ⊢
  have HC := Lib.hid hC; clear hC
  by_cases h1 : I < 0 <;> by_cases h2 : 1 ≤ s.size <;> by_cases h3 : s.size ≤ 12
  all_goals first | (exfalso; omega) | skip
  all_goals
    have e2 : decide ((1 : Int) ≤ (s.size : Int)) = decide (1 ≤ s.size) := by rw [Bool.eq_iff_iff]; simp; omega
    have e3 : decide ((s.size : Int) ≤ 12) = decide (s.size ≤ 12) := by rw [Bool.eq_iff_iff]; simp; omega
    simp only [h1, h2, h3, decide_true, decide_false, Bool.and_true, Bool.and_false, Bool.true_and, Bool.false_and] at e2 e3 ⊢
    go_enter Tryz.func155, Tryz.ntmps155
    go_wp2_with (go_at_call 225; refine HC.out.mono ?_; rintro e w' ⟨rfl, hb⟩)
    go_ret
    exact ⟨rfl, .of_below hb⟩

theorem nmc_dec (c : UInt8) : nmc c = (decide (97 ≤ c.toNat) && decide (c.toNat ≤ 122) || decide (48 ≤ c.toNat) && decide (c.toNat ≤ 57) || decide (c.toNat = 45)) := by
  have h : nmc c = !nmr c.toNat := by rw [nmr_byte, Bool.not_not]
  rw [h, nmr, Bool.not_not]
theorem name_no (s : BS) (k : Nat) (hk : k < s.size) (h : nmc s[k] = false) : nameOk s = false := by
  have hall : s.data.toList.all nmc = false := by
    rw [List.all_eq_false]
    exact ⟨_, List.getElem_mem (l := s.data.toList) (n := k) (by simpa using hk), by
      have e : s.data.toList[k]'(by simpa using hk) = s[k] := rfl
      rw [e, h]; simp⟩
  show (s.data.toList.all nmc && _) = false
  rw [hall]; rfl
set_option maxRecDepth 100000 in
set_option maxHeartbeats 2000000 in
theorem name16 (s : BS) (w : World) (hs : s.size ≤ 1000000) : Calls Tryz.prog 154 #[.string s] w fun e w' => e = .returned (.bool (nameOk s)) ∧ w = w' := by
  go_enter Tryz.func154, Tryz.ntmps154
  go_wp2
  go_loop [3] (fun i => ∃ k : Nat, k ≤ s.size ∧ i = .int .i64 k ∧ ∀ (j : Nat) (hj : j < s.size), j < k → nmc s[j] = true) (fun i => s.size - (intOf i).toNat)
  case atStart => exact ⟨0, Nat.zero_le _, rfl, fun _ _ h => absurd h (by omega)⟩
  case round =>
    obtain ⟨k, hk, rfl, hok⟩ := hrel
    have Hok := Lib.hid hok; clear hok
    by_cases hlt : k < s.size
    · have hc := nmc_dec s[k]
      obtain ⟨c, hcx⟩ : ∃ c, c = (s[k]'hlt).toNat := ⟨_, rfl⟩
      have Hcx := Lib.hid hcx
      rw [← hcx] at hc
      have hc256 : c < 256 := by rw [hcx]; exact UInt8.toNat_lt _
      have hnm : ∀ b, nmc s[k] = b → nmc s[k] = b := fun _ h => h
      by_cases h1 : 97 ≤ c <;> by_cases h2 : c ≤ 122 <;> by_cases h3 : 48 ≤ c <;> by_cases h4 : c ≤ 57 <;> by_cases h5 : c = 45
      all_goals first | (exfalso; omega) | skip
      all_goals
        simp only [h1, h2, h3, h4, h5, decide_true, decide_false, Bool.and_true, Bool.and_false, Bool.true_and, Bool.false_and, Bool.or_true, Bool.or_false, Bool.true_or, Bool.false_or] at hc
        have Hc := Lib.hid hc; clear hc hnm
        rw [hcx] at h1 h2 h3 h4 h5
        have z1 : decide ((97 : Int) ≤ (s[k].toNat : Int)) = decide (97 ≤ s[k].toNat) := by rw [Bool.eq_iff_iff]; simp; omega
        have z2 : decide ((s[k].toNat : Int) ≤ 122) = decide (s[k].toNat ≤ 122) := by rw [Bool.eq_iff_iff]; simp; omega
        have z3 : decide ((48 : Int) ≤ (s[k].toNat : Int)) = decide (48 ≤ s[k].toNat) := by rw [Bool.eq_iff_iff]; simp; omega
        have z4 : decide ((s[k].toNat : Int) ≤ 57) = decide (s[k].toNat ≤ 57) := by rw [Bool.eq_iff_iff]; simp; omega
        have z5 : ((s[k].toNat : Int) == 45) = decide (s[k].toNat = 45) := by rw [Bool.eq_iff_iff]; simp; omega
        simp only [h1, h2, h3, h4, h5, decide_true, decide_false] at z1 z2 z3 z4 z5
        clear hcx hc256
        go_wp2
        first
        | (go_ret; exact ⟨by rw [name_no s k hlt Hc.out]; rfl, rfl⟩)
        | (go_round
           case rel => exact ⟨k + 1, by omega, by go_num, fun j hj hjk => by
             rcases Nat.lt_or_ge j k with h | h
             · exact Hok.out j hj h
             · obtain rfl : j = k := by omega
               exact Hc.out⟩
           case measure => simp [intOf]; omega)
    · have hall : s.data.toList.all nmc = true := by
        rw [List.all_eq_true]
        intro c hc
        obtain ⟨i, hi, rfl⟩ := List.mem_iff_getElem.1 hc
        have hi' : i < s.size := by simpa using hi
        exact Hok.out i hi' (by omega)
      have hn : nameOk s = (decide (1 ≤ s.size) && decide (s.size ≤ 12)) := by
        show (s.data.toList.all nmc && decide (1 ≤ s.size ∧ s.size ≤ 12)) = _
        rw [hall]; by_cases h1 : 1 ≤ s.size <;> by_cases h2 : s.size ≤ 12 <;> simp [h1, h2]
      clear hall
      by_cases h2 : 1 ≤ s.size <;> by_cases h3 : s.size ≤ 12
      all_goals first | (exfalso; omega) | skip
      all_goals
        have e2 : decide ((1 : Int) ≤ (s.size : Int)) = decide (1 ≤ s.size) := by rw [Bool.eq_iff_iff]; simp; omega
        have e3 : decide ((s.size : Int) ≤ 12) = decide (s.size ≤ 12) := by rw [Bool.eq_iff_iff]; simp; omega
        simp only [h2, h3, decide_true, decide_false, Bool.and_true, Bool.and_false, Bool.true_and, Bool.false_and] at e2 e3 hn
        have Hn := Lib.hid hn; clear hn
        go_wp2
        go_ret
        exact ⟨by rw [Hn.out]; rfl, rfl⟩
end Go.Proofs.YtppgjglfoibfcaaGreat
