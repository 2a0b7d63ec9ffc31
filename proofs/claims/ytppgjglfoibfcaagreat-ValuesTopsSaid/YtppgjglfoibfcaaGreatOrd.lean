import Derived.Test.YtppgjglfoibfcaaGreatLaws
import Derived.Still
import Derived.Deep.QuietTactic
import Derived.BigQuiet
/-
  A region that draws its order and holds calls that make memory: one walk serves every order. Operations that only look (and calls whose answer is the same
  whenever they come) are walked as soon as they may come; the others come one behind the other by the region's own edges. What was there stays (Fr), so what was looked at early is the same later.
-/
set_option linter.unusedSimpArgs false
set_option linter.unusedVariables false
namespace Go.Proofs.YtppgjglfoibfcaaGreat
open Go.RowKit

/-- What may become of the world. -/
structure Pre (E : World → World → Prop) : Prop where
  refl : ∀ w, E w w
  and : ∀ {w w' w''}, E w w' → E w' w'' → E w w''
/-- A world that has come of w0. -/
structure Ext (E : World → World → Prop) (w0 : World) where
  w : World
  fr : E w0 w

section
variable {P : Program} {ops : Array Oper} {E : World → World → Prop}

/-- What an operation that only looks yields. -/
def qUpon (P : Program) (E : World → World → Prop) (w : World) (v : Value) : Result Next → Prop
  | .ok (.value u) w' => w' = w ∧ u = v
  | .ok .skip w' => w' = w ∧ v = undef
  | .ok (.enter f args) w' => w' = w ∧ Calls P f args w (fun e w'' => e = .returned v ∧ E w w'')
  | _ => False
def qAt (P : Program) (o : Oper) (a : Act) (E : World → World → Prop) (w : World) (v : Value) : Prop := qUpon P E w v ((execOp a.eval o).run P w)
def qStep (P : Program) (o : Oper) (a : Act) (E : World → World → Prop) (w : World) (next : Act → Prop) : Prop := ∃ v, (∀ x : Ext E w, qAt P o a E x.w v) ∧ next (a.put o.dst v)

/-- What an operation that does more does. -/
def eUpon (P : Program) (o : Oper) (a : Act) (E : World → World → Prop) (w : World) (next : Act → World → Prop) : Result Next → Prop
  | .ok (.value u) w' => E w w' ∧ next (a.put o.dst u) w'
  | .ok .skip w' => E w w' ∧ next (a.put o.dst undef) w'
  | .ok (.enter f args) w' => w' = w ∧ Calls P f args w (fun e w'' => ∃ u, e = .returned u ∧ E w w'' ∧ next (a.put o.dst u) w'')
  | _ => False
def eStep (P : Program) (o : Oper) (a : Act) (E : World → World → Prop) (w : World) (next : Act → World → Prop) : Prop := eUpon P o a E w next ((execOp a.eval o).run P w)

/-- The walk in the order that is told: each operation with its mark: does it more than look? -/
def wpO (P : Program) (ops : Array Oper) (E : World → World → Prop) (Q : Act → World → Prop) (x : Bool) : List (Oper × Bool) → Act → World → Prop
  | [], a, w => ∀ w', E w w' → Q a w'
  | (o, false) :: rest, a, w => if Region.wanted o (yielded ops a.tmps) then qStep P o a E w (fun a' => wpO P ops E Q x rest a' w) else wpO P ops E Q x rest (a.put o.dst undef) w
  | (o, true) :: rest, a, w => if Region.wanted o (yielded ops a.tmps) then ∀ w', E w w' → eStep P o a (if (x && rest.isEmpty) = true then fun _ _ => True else E) w' (wpO P ops E Q x rest) else wpO P ops E Q x rest (a.put o.dst undef) w

def eOp (P : Program) (ops : Array Oper) (E : World → World → Prop) (L i : Nat) (K : Act → World → Prop) (a : Act) (w : World) : Prop :=
  match ops[i]? with
  | none => K a w
  | some o => if Region.wanted o (yielded ops a.tmps) then eStep P o a (if i = L then fun _ _ => True else E) w K else K (a.put o.dst undef) w
theorem eStep_mono {o : Oper} {a : Act} {w : World} {K K' : Act → World → Prop} (h : ∀ a' w', E w w' → K a' w' → K' a' w') (hh : eStep P o a E w K) : eStep P o a E w K' := by
  unfold eStep at *
  generalize (execOp a.eval o).run P w = r at *
  cases r with
  | ok n w' =>
    cases n <;> simp only [eUpon] at hh ⊢
    case value u => exact ⟨hh.1, h _ _ hh.1 hh.2⟩
    case skip => exact ⟨hh.1, h _ _ hh.1 hh.2⟩
    case enter f args => exact ⟨hh.1, hh.2.mono fun e w'' ⟨u, h1, h2, h3⟩ => ⟨u, h1, h2, h _ _ h2 h3⟩⟩
  | halt x w' => simp only [eUpon] at hh
theorem eOp_mono {L i : Nat} (hi : i ≠ L) {a : Act} {w : World} {K K' : Act → World → Prop} (hr : E w w) (h : ∀ a' w', E w w' → K a' w' → K' a' w') (hh : eOp P ops E L i K a w) : eOp P ops E L i K' a w := by
  unfold eOp at *
  rw [if_neg hi] at *
  split
  · rename_i ho; simp only [ho] at hh; exact h _ _ hr hh
  · rename_i o ho
    simp only [ho] at hh
    split
    · rename_i hw; simp only [hw, if_true] at hh; exact eStep_mono h hh
    · rename_i hw; simp only [hw] at hh; exact h _ _ hr hh
/-- Whatever order is picked from here on, whatever memory has been made since. -/
def wpM (P : Program) (md : Region.Mode) (ops : Array Oper) (E : World → World → Prop) (L : Nat) (Q : Act → World → Prop) : Nat → Array Bool → Act → World → Prop
  | 0, listed, a, w => ∀ w', E w w' → Region.ready md ops listed = [] ∧ Q a w'
  | fuel + 1, listed, a, w => ∀ w', E w w' →
    (Region.ready md ops listed = [] → Q a w') ∧
    ∀ i ∈ Region.ready md ops listed, eOp P ops E L i (wpM P md ops E L Q fuel (listed.setIfInBounds i true)) a w'
theorem wpM_later (hE : Pre E) {L : Nat} {md : Region.Mode} {Q : Act → World → Prop} {fuel : Nat} {listed : Array Bool} {a : Act} {w w' : World} (h : wpM P md ops E L Q fuel listed a w) (hf : E w w') : wpM P md ops E L Q fuel listed a w' := by
  cases fuel with
  | zero => exact fun w2 h2 => h w2 (hE.and hf h2)
  | succ fuel => exact fun w2 h2 => h w2 (hE.and hf h2)
theorem wp_of_eStep {o : Oper} {a : Act} {w : World} {K : Act → World → Prop} {K' : Act → World → Prop} {Q : Exit → Act → World → Prop} (h : ∀ a' w', E w w' → K a' w' → K' a' w') (hh : eStep P o a E w K) : o.wp P a w K' Q := by
  unfold eStep at hh
  unfold Oper.wp
  generalize (execOp a.eval o).run P w = r at *
  cases r with
  | ok n w' =>
    cases n <;> simp only [eUpon] at hh <;> simp only [Oper.upon]
    case value u => exact h _ _ hh.1 hh.2
    case skip => exact h _ _ hh.1 hh.2
    case enter f args =>
      obtain ⟨rfl, hc⟩ := hh
      exact hc.mono fun e w'' ⟨u, h1, h2, h3⟩ => by subst h1; exact h _ _ h2 h3
  | halt x w' => simp only [eUpon] at hh
theorem wpAny_of_wpM (hE : Pre E) {L : Nat} {md : Region.Mode} {Q : Act → World → Prop} {Q' : Exit → Act → World → Prop} (hQ : ∀ a w, Q a w → Q' .normal a w) : ∀ (fuel : Nat) (listed : Array Bool) (a : Act) (w : World),
    wpM P md ops E L Q fuel listed a w → wpAny P md ops Q' fuel listed a w
  | 0, _, _, w, h => ⟨(h w (hE.refl w)).1, hQ _ _ (h w (hE.refl w)).2⟩
  | fuel + 1, _, _, w, h => ⟨fun h0 => hQ _ _ ((h w (hE.refl w)).1 h0), fun i hi => by
      have h1 := (h w (hE.refl w)).2 i hi
      unfold eOp at h1
      unfold wpOp
      split
      · rename_i ho; simp only [ho] at h1; exact wpAny_of_wpM hE hQ fuel _ _ _ h1
      · rename_i o ho
        simp only [ho] at h1
        split
        · rename_i hw; simp only [hw, if_true] at h1
          exact .inl (wp_of_eStep (fun a' w' hf hk => wpAny_of_wpM hE hQ fuel _ _ _ hk) h1)
        · rename_i hw; simp only [hw] at h1; exact wpAny_of_wpM hE hQ fuel _ _ _ h1⟩

/-- Operation oi, looked at now, yields v, and so it does whenever it comes later. -/
def YE (P : Program) (ops : Array Oper) (E : World → World → Prop) (o : Oper) (v : Value) (a : Act) (w : World) : Prop :=
  (Region.wanted o (yielded ops a.tmps) = true ∧ ∀ x : Ext E w, qAt P o a E x.w v) ∨ (Region.wanted o (yielded ops a.tmps) = false ∧ v = undef)
theorem YE.later (hE : Pre E) {o : Oper} {v : Value} {a : Act} {w w' : World} (h : YE P ops E o v a w) (hf : E w w') : YE P ops E o v a w' := by
  rcases h with ⟨h1, h2⟩ | h
  · exact .inl ⟨h1, fun x => h2 ⟨x.w, hE.and hf x.fr⟩⟩
  · exact .inr h
theorem YE.of_same {o : Oper} {v : Value} {a a' : Act} {w : World} (hy : YE P ops E o v a w) (he : execOp a'.eval o = execOp a.eval o)
    (hw : Region.wanted o (yielded ops a'.tmps) = Region.wanted o (yielded ops a.tmps)) : YE P ops E o v a' w := by
  unfold YE qAt at *
  rw [he, hw]
  exact hy
theorem YE.eOp {L i : Nat} (hL : i ≠ L) {o : Oper} {v : Value} {a : Act} {w : World} (hi : ops[i]? = some o) (hy : YE P ops E o v a w) (hr : E w w) {K : Act → World → Prop} (h : ∀ w', E w w' → K (a.put o.dst v) w') : eOp P ops E L i K a w := by
  unfold Go.Proofs.YtppgjglfoibfcaaGreat.eOp
  rw [if_neg hL]
  simp only [hi]
  rcases hy with ⟨hw, hv⟩ | ⟨hw, rfl⟩
  · simp only [hw, if_true]
    have h1 := hv ⟨w, hr⟩
    unfold qAt at h1
    unfold eStep
    dsimp only at h1
    generalize (execOp a.eval o).run P w = r at *
    cases r with
    | ok n w' =>
      cases n <;> simp only [qUpon] at h1 <;> simp only [eUpon]
      case value u => obtain ⟨rfl, rfl⟩ := h1; exact ⟨hr, h _ hr⟩
      case skip => obtain ⟨rfl, rfl⟩ := h1; exact ⟨hr, h _ hr⟩
      case enter f args => obtain ⟨rfl, hc⟩ := h1; exact ⟨rfl, hc.mono fun e w'' ⟨h1, h2⟩ => ⟨v, h1, h2, h _ h2⟩⟩
    | halt x w' => simp only [qUpon] at h1
  · simp only [hw, Bool.false_eq_true, if_false]; exact h _ hr
theorem eOp_put (hE : Pre E) {L j : Nat} (hL : j ≠ L) {oi oj : Oper} {v : Value} (hj : ops[j]? = some oj) (hap : oi.apart ops oj = true)
    (hsi : ∀ cs b, oi.op ≠ .select cs b) (hsj : ∀ cs b, oj.op ≠ .select cs b) {K : Act → World → Prop} {a : Act} {w : World} (hr : E w w)
    (hy : YE P ops E oi v a w) (h : eOp P ops E L j K (a.put oi.dst v) w) :
    eOp P ops E L j (fun a' w' => YE P ops E oi v a' w' ∧ K (a'.put oi.dst v) w') a w := by
  obtain ⟨h1, h2, h3⟩ := Oper.apart_spec hap
  have keep : ∀ (a : Act) (w' : World), E w w' → YE P ops E oi v a w → ∀ u, YE P ops E oi v (a.put oj.dst u) w' := fun a w' hf hy u =>
    (hy.later hE hf).of_same (execOp_put oi hsi a oj.dst u h3) (wanted_put oi a oj.dst u h3)
  unfold eOp at *
  rw [if_neg hL] at *
  simp only [hj] at *
  rw [wanted_put oj a oi.dst v h1] at h
  split
  · rename_i hw
    simp only [hw, if_true] at h
    unfold eStep at *
    rw [execOp_put oj hsj a oi.dst v h1] at h
    generalize (execOp a.eval oj).run P w = r at *
    cases r with
    | ok n w' =>
      cases n <;> simp only [eUpon] at h ⊢
      case value u => exact ⟨h.1, keep a _ h.1 hy u, by rw [← Act.put_comm a v u h2]; exact h.2⟩
      case skip => exact ⟨h.1, keep a _ h.1 hy _, by rw [← Act.put_comm a v undef h2]; exact h.2⟩
      case enter f args =>
        obtain ⟨rfl, hc⟩ := h
        exact ⟨rfl, hc.mono fun e w'' ⟨u, g1, g2, g3⟩ => ⟨u, g1, g2, keep a _ g2 hy u, by rw [← Act.put_comm a v u h2]; exact g3⟩⟩
    | halt x w' => simp only [eUpon] at h
  · rename_i hw
    simp only [hw] at h
    exact ⟨keep a _ hr hy _, by rw [← Act.put_comm a v undef h2]; exact h⟩

/-- An operation that only looks may be taken first. -/
theorem wpM_first (hE : Pre E) {L : Nat} {md : Region.Mode} {Q : Act → World → Prop} {i : Nat} (hiL : i ≠ L) (hwait : ∀ oL, ops[L]? = some oL → ∃ e ∈ oL.after, Region.binds md e = true ∧ e.on = i) {oi : Oper} {v : Value} (hi : ops[i]? = some oi) (hsel : ∀ (j : Nat) (o : Oper) cs b, ops[j]? = some o → o.op ≠ .select cs b) :
    ∀ (fuel : Nat) (listed : Array Bool) (a : Act) (w : World),
      (∀ j oj, ops[j]? = some oj → j ≠ i → listed.getD j true = false → (∀ e ∈ oj.after, Region.binds md e = true → e.on ≠ i) → oi.apart ops oj = true) →
      i ∈ Region.ready md ops listed → YE P ops E oi v a w →
      wpM P md ops E L Q fuel (listed.setIfInBounds i true) (a.put oi.dst v) w → wpM P md ops E L Q (fuel + 1) listed a w := by
  intro fuel
  induction fuel with
  | zero =>
    intro listed a w _ hr hy H w' hw'
    refine ⟨fun h => (by rw [h] at hr; cases hr), fun j hj => ?_⟩
    by_cases hji : j = i
    · subst hji; exact (hy.later hE hw').eOp hiL hi (hE.refl _) (fun w2 h2 => wpM_later hE H (hE.and hw' h2))
    · have := ready_mono hj hji
      rw [(H w' hw').1] at this
      cases this
  | succ fuel ih =>
    intro listed a w hfree hr hy H w' hw'
    refine ⟨fun h => (by rw [h] at hr; cases hr), fun j hj => ?_⟩
    by_cases hji : j = i
    · subst hji; exact (hy.later hE hw').eOp hiL hi (hE.refl _) (fun w2 h2 => wpM_later hE H (hE.and hw' h2))
    · have h1 := (H w' hw').2 j (ready_mono hj hji)
      obtain ⟨hjun, oj, hoj, hall⟩ := mem_ready.1 hj
      have hnot : ∀ e ∈ oj.after, Region.binds md e = true → e.on ≠ i := fun e he hb heq => by
        have h1 := hall e he hb
        have h0 := (mem_ready.1 hr).1
        rw [heq] at h1
        rcases Nat.lt_or_ge i listed.size with h' | h'
        · simp [h'] at h0 h1; rw [h0] at h1; cases h1
        · simp [Array.getElem?_eq_none h'] at h1
      have hjL : j ≠ L := fun e => by subst e; obtain ⟨e, he, hb, hon⟩ := hwait oj hoj; exact hnot e he hb hon
      have h2 := eOp_put hE hjL hoj (hfree j oj hoj hji hjun hnot) (fun cs b => hsel i oi cs b hi) (fun cs b => hsel j oj cs b hoj) (hE.refl _) (hy.later hE hw') h1
      have hfree' : ∀ k ok, ops[k]? = some ok → k ≠ i → (listed.setIfInBounds j true).getD k true = false →
          (∀ e ∈ ok.after, Region.binds md e = true → e.on ≠ i) → oi.apart ops ok = true := fun k ok hk hki hun hno => by
        refine hfree k ok hk hki ?_ hno
        by_cases hjk : j = k
        · subst hjk; exact hjun
        · rw [getD_set_ne true hjk] at hun; exact hun
      refine eOp_mono hjL (hE.refl _) (fun a' w2 hf2 h3 => ih (listed.setIfInBounds j true) a' w2 hfree' (ready_mono hr (Ne.symm hji)) h3.1 ?_) h2
      rw [Array.setIfInBounds_comm _ _ hji]
      exact h3.2

/-- Is it an order that serves? At each place the operation may come now; one that only looks is apart from all that don't wait for it; one that does more is the only one that may come. -/
def ordB (md : Region.Mode) (ops : Array Oper) : List (Nat × Bool) → Array Bool → Bool
  | [], listed => (Region.ready md ops listed).isEmpty
  | (i, act) :: rest, listed =>
    (if act then Region.ready md ops listed == [i] else (Region.ready md ops listed).contains i && Region.free md ops listed i) && ordB md ops rest (listed.setIfInBounds i true)
/-- Does operation L wait for all those that only look? (where it is one of the region's) -/
def lastB (md : Region.Mode) (ops : Array Oper) (ord : List (Nat × Bool)) (L : Nat) : Bool :=
  match ops[L]? with
  | none => true
  | some oL => ord.all fun p => p.2 || (p.1 != L && oL.after.any fun e => Region.binds md e && e.on == p.1)
/-- The number of the last operation, if it does more than look. -/
def lastOf (n : Nat) : List (Nat × Bool) → Nat
  | [] => n
  | [(i, act)] => if act then i else n
  | _ :: rest => lastOf n rest
/-- Is L at the end alone? -/
def endB (x : Bool) (L : Nat) : List (Nat × Bool) → Bool
  | [] => true
  | (i, act) :: rest => (if act then (i == L) == (x && rest.isEmpty) else i != L) && endB x L rest
def pick (ops : List Oper) (ord : List (Nat × Bool)) : List (Oper × Bool) := ord.filterMap fun p => (ops[p.1]?).map fun o => (o, p.2)
def inB (n : Nat) (ord : List (Nat × Bool)) : Bool := ord.all fun p => p.1 < n

theorem wpM_of_wpO (hE : Pre E) {x : Bool} {L : Nat} {md : Region.Mode} {Q : Act → World → Prop} (hs : Region.noSelect ops = true) : ∀ (ord : List (Nat × Bool)) (listed : Array Bool) (a : Act) (w : World), lastB md ops ord L = true → endB x L ord = true → inB ops.size ord = true → ordB md ops ord listed = true →
    wpO P ops E Q x (pick ops.toList ord) a w → wpM P md ops E L Q ord.length listed a w
  | [], listed, a, w, _, _, _, hB, h => fun w' hw' => ⟨by simpa [ordB] using hB, h w' hw'⟩
  | (i, act) :: rest, listed, a, w, hla, hen, hin, hB, h => by
    have hla' : lastB md ops rest L = true := by
      unfold lastB at hla ⊢
      split
      · rfl
      · rename_i oL hoL; simp only [hoL, List.all_cons, Bool.and_eq_true] at hla; exact hla.2
    have hen' : endB x L rest = true := by simp only [endB, Bool.and_eq_true] at hen; exact hen.2
    have hpe : (pick ops.toList rest).isEmpty = rest.isEmpty := by
      cases rest with
      | nil => rfl
      | cons p rest =>
        have hp : p.1 < ops.size := by simp [inB] at hin; exact hin.2.1
        unfold pick; rw [List.filterMap_cons]; simp [hp]
    have hi : i < ops.size := by simp [inB] at hin; exact hin.1
    have hin' : inB ops.size rest = true := by simp only [inB, List.all_cons, Bool.and_eq_true] at hin ⊢; exact hin.2
    have hg : ops.toList[i]? = some (ops[i]'hi) := by simp [hi]
    have hg' : ops[i]? = some (ops[i]'hi) := by simp [hi]
    have hp : pick ops.toList ((i, act) :: rest) = (ops[i]'hi, act) :: pick ops.toList rest := by
      unfold pick
      rw [List.filterMap_cons]
      simp only [hg, Option.map_some]
    rw [hp] at h
    simp only [ordB, Bool.and_eq_true] at hB
    obtain ⟨hB1, hB2⟩ := hB
    cases act with
    | false =>
      simp only [Bool.false_eq_true, if_false, Bool.and_eq_true] at hB1
      have hready : i ∈ Region.ready md ops listed := by simpa using hB1.1
      have key : ∃ v, YE P ops E (ops[i]'hi) v a w ∧ wpO P ops E Q x (pick ops.toList rest) (a.put (ops[i]'hi).dst v) w := by
        simp only [wpO] at h
        by_cases hw : Region.wanted (ops[i]'hi) (yielded ops a.tmps) = true
        · simp only [hw, if_true] at h
          obtain ⟨v, h1, h2⟩ := h
          exact ⟨v, .inl ⟨hw, h1⟩, h2⟩
        · simp only [hw] at h
          exact ⟨undef, .inr ⟨by simpa using hw, rfl⟩, h⟩
      obtain ⟨v, hy, hK⟩ := key
      have hiL : i ≠ L := by simp only [endB, Bool.false_eq_true, if_false, Bool.and_eq_true, bne_iff_ne] at hen; exact hen.1
      have hwait : ∀ oL, ops[L]? = some oL → ∃ e ∈ oL.after, Region.binds md e = true ∧ e.on = i := fun oL hoL => by
        unfold lastB at hla
        simp only [hoL, List.all_cons, Bool.false_or, Bool.and_eq_true] at hla
        obtain ⟨e, he, h1⟩ := Array.any_eq_true'.1 hla.1.2
        simp only [Bool.and_eq_true, beq_iff_eq] at h1
        exact ⟨e, he, h1.1, h1.2⟩
      exact wpM_first hE hiL hwait hg' (Region.noSelect_spec hs) rest.length listed a w (Region.free_spec hg' hB1.2) hready hy (wpM_of_wpO hE hs rest _ _ w hla' hen' hin' hB2 hK)
    | true =>
      have hready : Region.ready md ops listed = [i] := by simpa using hB1
      intro w' hw'
      refine ⟨fun h0 => (by rw [hready] at h0; cases h0), fun j hj => ?_⟩
      rw [hready] at hj
      obtain rfl : j = i := by simpa using hj
      have hjL : (if (x && (pick ops.toList rest).isEmpty) = true then fun _ _ => True else E) = if j = L then fun _ _ => True else E := by
        rw [hpe]
        simp only [endB, if_true, Bool.and_eq_true, beq_iff_eq] at hen
        rw [← hen.1]
        simp
      unfold eOp
      simp only [hg']
      simp only [wpO, hjL] at h
      split
      · rename_i hw
        simp only [hw, if_true] at h
        exact eStep_mono (fun a' w2 hf2 hk => wpM_of_wpO hE hs rest _ _ w2 hla' hen' hin' hB2 hk) (h w' hw')
      · rename_i hw
        simp only [hw] at h
        exact wpM_later hE (wpM_of_wpO hE hs rest _ _ w hla' hen' hin' hB2 h) hw'

def okB (x : Bool) (l : List Oper) (ord : List (Nat × Bool)) : Bool :=
  Region.noSelect l.toArray && (ord.length == l.length) && inB l.length ord && ordB .any l.toArray ord (Array.replicate l.length false) && lastB .any l.toArray ord (if x then lastOf l.length ord else l.length) && endB x (if x then lastOf l.length ord else l.length) ord
/-- The region's law. -/
theorem wp_region_ordE (hE : Pre E) {id : Nat} {Q : Exit → Act → World → Prop} {a : Act} {w : World} {l : List Oper} (x : Bool) (ord : List (Nat × Bool)) (ls : List (Oper × Bool)) (hm : P.follows .mixedOrders = true)
    (hB : okB x l ord = true) (hls : pick l ord = ls)
    (h : wpO P l.toArray E (fun a' w' => Q .normal a' w') x ls a w.drew) : (Code.region id l.toArray true).wp P Q a w := by
  simp only [okB, Bool.and_eq_true, beq_iff_eq] at hB
  obtain ⟨⟨⟨⟨⟨h1, h2⟩, h3⟩, h4⟩, h5⟩, h6⟩ := hB
  subst hls
  refine wp_region_any hm (wpAny_of_wpM hE (L := if x then lastOf l.length ord else l.length) (Q := fun a' w' => Q .normal a' w') (fun _ _ h => h) _ _ _ _ ?_)
  have := wpM_of_wpO hE (x := x) (L := if x then lastOf l.length ord else l.length) (P := P) (ops := l.toArray) (Q := fun a' w' => Q .normal a' w') (md := .any) h1 ord (Array.replicate l.length false) a w.drew h5 h6 (by simpa using h3) h4 (by simpa using h)
  rw [h2] at this
  simpa using this

theorem wpO_q {x : Bool} {Q : Act → World → Prop} {o : Oper} {rest : List (Oper × Bool)} {a : Act} {w : World}
    (h : ∀ K : Act → Prop, (∀ a', wpO P ops E Q x rest a' w → K a') → if Region.wanted o (yielded ops a.tmps) then qStep P o a E w K else K (a.put o.dst undef)) : wpO P ops E Q x ((o, false) :: rest) a w :=
  h _ (fun _ h => h)
theorem wpO_e {x : Bool} {Q : Act → World → Prop} {o : Oper} {rest : List (Oper × Bool)} {a : Act} {w : World}
    (h : ∀ K : Act → World → Prop, (∀ a' w', wpO P ops E Q x rest a' w' → K a' w') → if Region.wanted o (yielded ops a.tmps) then ∀ w', E w w' → eStep P o a (if (x && rest.isEmpty) = true then fun _ _ => True else E) w' K else K (a.put o.dst undef) w) : wpO P ops E Q x ((o, true) :: rest) a w :=
  h _ (fun _ _ h => h)
theorem wpO_nil {x : Bool} {Q : Act → World → Prop} {a : Act} {w : World} (h : ∀ w', E w w' → Q a w') : wpO P ops E Q x [] a w := h
end
/-- Maps in S may be written. -/
def FrS (S : List Nat) (w w' : World) : Prop := (∀ k, k ∈ S → IsMp w k) → Fr S w w'
theorem Fr.pre : Pre (Fr []) := ⟨Fr.refl, fun h k => h.and k⟩
theorem FrS.pre (S : List Nat) : Pre (FrS S) := ⟨fun _ h => .reflS h, fun h k hS => (h hS).and (k (h hS).maps')⟩
theorem wp_region_ord {P : Program} {id : Nat} {Q : Exit → Act → World → Prop} {a : Act} {w : World} {l : List Oper} (ord : List (Nat × Bool)) (ls : List (Oper × Bool)) (hm : P.follows .mixedOrders = true)
    (hB : okB false l ord = true) (hls : pick l ord = ls)
    (h : wpO P l.toArray (Fr []) (fun a' w' => Q .normal a' w') false ls a w.drew) : (Code.region id l.toArray true).wp P Q a w :=
  wp_region_ordE Fr.pre false ord ls hm hB hls h
/-- The last operation may do what it likes. -/
theorem wp_region_ordL {P : Program} {id : Nat} {Q : Exit → Act → World → Prop} {a : Act} {w : World} {l : List Oper} (ord : List (Nat × Bool)) (ls : List (Oper × Bool)) (hm : P.follows .mixedOrders = true)
    (hB : okB true l ord = true) (hls : pick l ord = ls)
    (h : wpO P l.toArray (Fr []) (fun a' w' => Q .normal a' w') true ls a w.drew) : (Code.region id l.toArray true).wp P Q a w :=
  wp_region_ordE Fr.pre true ord ls hm hB hls h
instance extNonempty (w : World) : Nonempty (Ext (Fr []) w) := ⟨⟨w, .refl w⟩⟩
theorem Ext.cell {w : World} {a : Addr} {v : Value} (h : w.cell? a = some v) : ∀ x : Ext (Fr []) w, x.w.cell? a = some v := fun x => x.fr.cell h

/-- What was there stays, but for the blocks in T. -/
structure Kp (T : List Nat) (w w' : World) : Prop where
  os : w'.os = w.os
  tape : w'.tape = w.tape
  output : w'.output = w.output
  size : w.heap.size ≤ w'.heap.size
  block : ∀ k, k < w.heap.size → k ∉ T → w'.heap[k]? = w.heap[k]?
theorem Kp.refl (T : List Nat) (w : World) : Kp T w w := ⟨rfl, rfl, rfl, Nat.le_refl _, fun _ _ _ => rfl⟩
theorem Kp.trans {T : List Nat} {w w1 w2 : World} (h : Kp T w w1) (k : Kp T w1 w2) : Kp T w w2 :=
  ⟨k.os.trans h.os, k.tape.trans h.tape, k.output.trans h.output, Nat.le_trans h.size k.size, fun i hi hT => (k.block i (Nat.lt_of_lt_of_le hi h.size) hT).trans (h.block i hi hT)⟩
theorem Kp.pre (T : List Nat) : Pre (Kp T) := ⟨fun _ => .refl T _, fun h k => h.trans k⟩
theorem Kp.of_fr {T : List Nat} {w w' : World} (h : Fr [] w w') : Kp T w w' := ⟨h.os, h.tape, h.output, h.size, fun k hk _ => h.block k hk (by simp)⟩
theorem Kp.cell {T : List Nat} {w w' : World} (h : Kp T w w') {a : Addr} {v : Value} (hc : w.cell? a = some v) (ha : a.block ∉ T) : w'.cell? a = some v :=
  (World.cell?_of_block (h.block _ (World.block_lt_of_cell? w a hc) ha)).trans hc
theorem Kp.setCell {T : List Nat} {w w' : World} (h : Kp T w w') {a : Addr} (ha : a.block ∈ T) (v : Value) : Kp T w (w'.setCell a v) :=
  h.trans ⟨rfl, rfl, rfl, by simp [World.setCell], fun k _ hk => Below.heap_setCell _ _ _ _ (fun e => hk (e ▸ ha))⟩
/-- Written was what is newer than B. -/
theorem Kp.fr {T : List Nat} {B w w' : World} (h : Fr [] B w) (k : Kp T w w') (hT : ∀ x, x ∈ T → B.heap.size ≤ x) : Fr [] B w' where
  os := k.os.trans h.os
  tape := k.tape.trans h.tape
  output := k.output.trans h.output
  size := Nat.le_trans h.size k.size
  block i hi _ := (k.block i (Nat.lt_of_lt_of_le hi h.size) (fun hm => by have := hT i hm; omega)).trans (h.block i hi (by simp))
  maps _ hx := by simp at hx
  maps' _ hx := by simp at hx
instance kpNonempty (T : List Nat) (w : World) : Nonempty (Ext (Kp T) w) := ⟨⟨w, .refl T w⟩⟩
theorem Ext.cellK {T : List Nat} {w : World} {a : Addr} {v : Value} (h : w.cell? a = some v) (ha : a.block ∉ T) : ∀ x : Ext (Kp T) w, x.w.cell? a = some v := fun x => x.fr.cell h ha
attribute [go_sem] qStep qAt qUpon eStep eUpon
end Go.Proofs.YtppgjglfoibfcaaGreat
