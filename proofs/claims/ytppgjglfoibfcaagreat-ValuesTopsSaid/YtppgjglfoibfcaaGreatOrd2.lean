import Derived.Test.YtppgjglfoibfcaaGreatOrd
/-
  As Ord, but operations of a list Ls may do what they like, wherever they stand: what only looks stands ahead of one of these only if it waits for it, directly or through others.
-/
set_option linter.unusedSimpArgs false
set_option linter.unusedVariables false
namespace Go.Proofs.YtppgjglfoibfcaaGreat
open Go.RowKit

section
variable {P : Program} {ops : Array Oper} {E : World → World → Prop}

def eOpX (P : Program) (ops : Array Oper) (E : World → World → Prop) (Ls : List Nat) (i : Nat) (K : Act → World → Prop) (a : Act) (w : World) : Prop :=
  match ops[i]? with
  | none => K a w
  | some o => if Region.wanted o (yielded ops a.tmps) then eStep P o a (if Ls.contains i = true then fun _ _ => True else E) w K else K (a.put o.dst undef) w
theorem eOpX_mono {Ls : List Nat} {i : Nat} (hi : Ls.contains i = false) {a : Act} {w : World} {K K' : Act → World → Prop} (hr : E w w) (h : ∀ a' w', E w w' → K a' w' → K' a' w') (hh : eOpX P ops E Ls i K a w) : eOpX P ops E Ls i K' a w := by
  unfold eOpX at *
  simp only [hi, Bool.false_eq_true, if_false] at *
  split
  · rename_i ho; simp only [ho] at hh; exact h _ _ hr hh
  · rename_i o ho
    simp only [ho] at hh
    split
    · rename_i hw; simp only [hw, if_true] at hh; exact eStep_mono h hh
    · rename_i hw; simp only [hw] at hh; exact h _ _ hr hh
def wpMX (P : Program) (md : Region.Mode) (ops : Array Oper) (E : World → World → Prop) (Ls : List Nat) (Q : Act → World → Prop) : Nat → Array Bool → Act → World → Prop
  | 0, listed, a, w => ∀ w', E w w' → Region.ready md ops listed = [] ∧ Q a w'
  | fuel + 1, listed, a, w => ∀ w', E w w' →
    (Region.ready md ops listed = [] → Q a w') ∧
    ∀ i ∈ Region.ready md ops listed, eOpX P ops E Ls i (wpMX P md ops E Ls Q fuel (listed.setIfInBounds i true)) a w'
theorem wpMX_later (hE : Pre E) {Ls : List Nat} {md : Region.Mode} {Q : Act → World → Prop} {fuel : Nat} {listed : Array Bool} {a : Act} {w w' : World} (h : wpMX P md ops E Ls Q fuel listed a w) (hf : E w w') : wpMX P md ops E Ls Q fuel listed a w' := by
  cases fuel with
  | zero => exact fun w2 h2 => h w2 (hE.and hf h2)
  | succ fuel => exact fun w2 h2 => h w2 (hE.and hf h2)
theorem wpAny_of_wpMX (hE : Pre E) {Ls : List Nat} {md : Region.Mode} {Q : Act → World → Prop} {Q' : Exit → Act → World → Prop} (hQ : ∀ a w, Q a w → Q' .normal a w) : ∀ (fuel : Nat) (listed : Array Bool) (a : Act) (w : World),
    wpMX P md ops E Ls Q fuel listed a w → wpAny P md ops Q' fuel listed a w
  | 0, _, _, w, h => ⟨(h w (hE.refl w)).1, hQ _ _ (h w (hE.refl w)).2⟩
  | fuel + 1, _, _, w, h => ⟨fun h0 => hQ _ _ ((h w (hE.refl w)).1 h0), fun i hi => by
      have h1 := (h w (hE.refl w)).2 i hi
      unfold eOpX at h1
      unfold wpOp
      split
      · rename_i ho; simp only [ho] at h1; exact wpAny_of_wpMX hE hQ fuel _ _ _ h1
      · rename_i o ho
        simp only [ho] at h1
        split
        · rename_i hw; simp only [hw, if_true] at h1
          exact .inl (wp_of_eStep (fun a' w' hf hk => wpAny_of_wpMX hE hQ fuel _ _ _ hk) h1)
        · rename_i hw; simp only [hw] at h1; exact wpAny_of_wpMX hE hQ fuel _ _ _ h1⟩
theorem YE.eOpX {Ls : List Nat} {i : Nat} (hL : Ls.contains i = false) {o : Oper} {v : Value} {a : Act} {w : World} (hi : ops[i]? = some o) (hy : YE P ops E o v a w) (hr : E w w) {K : Act → World → Prop} (h : ∀ w', E w w' → K (a.put o.dst v) w') : eOpX P ops E Ls i K a w := by
  unfold Go.Proofs.YtppgjglfoibfcaaGreat.eOpX
  simp only [hL, Bool.false_eq_true, if_false, hi]
  rcases hy with ⟨hw, hv⟩ | ⟨hw, rfl⟩
  · simp only [hw, if_true]
    have h1 := hv ⟨w, hr⟩
    unfold qAt at h1
    unfold eStep
    dsimp only at h1
    generalize (execOp a.eval o).run P w = r at *
    cases r with
    | ok n w' =>
      cases n <;> simp only [qUpon] at h1 <;> simp only [eUpon]
      case value u => obtain ⟨rfl, rfl⟩ := h1; exact ⟨hr, h _ hr⟩
      case skip => obtain ⟨rfl, rfl⟩ := h1; exact ⟨hr, h _ hr⟩
      case enter f args => obtain ⟨rfl, hc⟩ := h1; exact ⟨rfl, hc.mono fun e w'' ⟨h1, h2⟩ => ⟨v, h1, h2, h _ h2⟩⟩
    | halt x w' => simp only [qUpon] at h1
  · simp only [hw, Bool.false_eq_true, if_false]; exact h _ hr
theorem eOpX_put (hE : Pre E) {Ls : List Nat} {j : Nat} (hL : Ls.contains j = false) {oi oj : Oper} {v : Value} (hj : ops[j]? = some oj) (hap : oi.apart ops oj = true)
    (hsi : ∀ cs b, oi.op ≠ .select cs b) (hsj : ∀ cs b, oj.op ≠ .select cs b) {K : Act → World → Prop} {a : Act} {w : World} (hr : E w w)
    (hy : YE P ops E oi v a w) (h : eOpX P ops E Ls j K (a.put oi.dst v) w) :
    eOpX P ops E Ls j (fun a' w' => YE P ops E oi v a' w' ∧ K (a'.put oi.dst v) w') a w := by
  obtain ⟨h1, h2, h3⟩ := Oper.apart_spec hap
  have keep : ∀ (a : Act) (w' : World), E w w' → YE P ops E oi v a w → ∀ u, YE P ops E oi v (a.put oj.dst u) w' := fun a w' hf hy u =>
    (hy.later hE hf).of_same (execOp_put oi hsi a oj.dst u h3) (wanted_put oi a oj.dst u h3)
  unfold eOpX at *
  simp only [hL, Bool.false_eq_true, if_false] at *
  simp only [hj] at *
  rw [wanted_put oj a oi.dst v h1] at h
  split
  · rename_i hw
    simp only [hw, if_true] at h
    unfold eStep at *
    rw [execOp_put oj hsj a oi.dst v h1] at h
    generalize (execOp a.eval oj).run P w = r at *
    cases r with
    | ok n w' =>
      cases n <;> simp only [eUpon] at h ⊢
      case value u => exact ⟨h.1, keep a _ h.1 hy u, by rw [← Act.put_comm a v u h2]; exact h.2⟩
      case skip => exact ⟨h.1, keep a _ h.1 hy _, by rw [← Act.put_comm a v undef h2]; exact h.2⟩
      case enter f args =>
        obtain ⟨rfl, hc⟩ := h
        exact ⟨rfl, hc.mono fun e w'' ⟨u, g1, g2, g3⟩ => ⟨u, g1, g2, keep a _ g2 hy u, by rw [← Act.put_comm a v u h2]; exact g3⟩⟩
    | halt x w' => simp only [eUpon] at h
  · rename_i hw
    simp only [hw] at h
    exact ⟨keep a _ hr hy _, by rw [← Act.put_comm a v undef h2]; exact h⟩

/-- What is listed has all it waits for listed. -/
def Cl (md : Region.Mode) (ops : Array Oper) (listed : Array Bool) : Prop := ∀ k o, ops[k]? = some o → listed.getD k false = true → ∀ e ∈ o.after, Region.binds md e = true → listed.getD e.on false = true
/-- L waits for i, directly or through others. -/
inductive Needs (md : Region.Mode) (ops : Array Oper) : Nat → Nat → Prop
  | direct {L : Nat} {o : Oper} {e : Edge} : ops[L]? = some o → e ∈ o.after → Region.binds md e = true → Needs md ops L e.on
  | step {L i : Nat} {o : Oper} {e : Edge} : ops[L]? = some o → e ∈ o.after → Region.binds md e = true → Needs md ops e.on i → Needs md ops L i
theorem getD_set_true {listed : Array Bool} {i k : Nat} (h : listed.getD k false = true) : (listed.setIfInBounds i true).getD k false = true := by
  by_cases hik : i = k
  · subst hik
    have : i < listed.size := by
      rcases Nat.lt_or_ge i listed.size with h' | h'
      · exact h'
      · simp [Array.getElem?_eq_none h'] at h
    simp [this]
  · rw [getD_set_ne false hik]; exact h
theorem Cl.set {md : Region.Mode} {listed : Array Bool} (hc : Cl md ops listed) {j : Nat} (hj : j ∈ Region.ready md ops listed) : Cl md ops (listed.setIfInBounds j true) := by
  obtain ⟨_, oj, hoj, hall⟩ := mem_ready.1 hj
  intro k o ho hk e he hb
  refine getD_set_true ?_
  by_cases hjk : j = k
  · subst hjk; rw [hoj] at ho; cases ho; exact hall e he hb
  · rw [getD_set_ne false hjk] at hk; exact hc k o ho hk e he hb
theorem Needs.listed {md : Region.Mode} {listed : Array Bool} (hc : Cl md ops listed) {L i : Nat} (h : Needs md ops L i) : (∀ o, ops[L]? = some o → ∀ e ∈ o.after, Region.binds md e = true → listed.getD e.on false = true) → listed.getD i false = true := by
  induction h with
  | direct ho he hb => exact fun h => h _ ho _ he hb
  | step ho he hb _ ih => exact fun h => ih fun o' ho' e' he' hb' => hc _ o' ho' (h _ ho _ he hb) e' he' hb'
theorem unlisted {listed : Array Bool} {i : Nat} (h : listed.getD i true = false) : listed.getD i false = false := by
  rcases Nat.lt_or_ge i listed.size with h' | h'
  · simpa [h'] using h
  · simp [Array.getElem?_eq_none h'] at h ⊢
def Waits (md : Region.Mode) (ops : Array Oper) (Ls : List Nat) (listed : Array Bool) (i : Nat) : Prop := ∀ L ∈ Ls, listed.getD L false = true ∨ Needs md ops L i
theorem Waits.not {md : Region.Mode} {Ls : List Nat} {listed : Array Bool} {i j : Nat} (h : Waits md ops Ls listed i) (hc : Cl md ops listed) (hi : i ∈ Region.ready md ops listed) (hj : j ∈ Region.ready md ops listed) : Ls.contains j = false := by
  rw [← Bool.not_eq_true]
  intro hjl
  obtain ⟨hju, oj, hoj, hall⟩ := mem_ready.1 hj
  rcases h j (by simpa using hjl) with h1 | h1
  · rw [unlisted hju] at h1; cases h1
  · have h2 := h1.listed hc (fun o ho => by rw [hoj] at ho; cases ho; exact hall)
    rw [unlisted (mem_ready.1 hi).1] at h2; cases h2
theorem Waits.set {md : Region.Mode} {Ls : List Nat} {listed : Array Bool} {i j : Nat} (h : Waits md ops Ls listed i) : Waits md ops Ls (listed.setIfInBounds j true) i := fun L hL => (h L hL).imp getD_set_true _root_.id

theorem wpMX_first (hE : Pre E) {Ls : List Nat} {md : Region.Mode} {Q : Act → World → Prop} {i : Nat} {oi : Oper} {v : Value} (hi : ops[i]? = some oi) (hsel : ∀ (j : Nat) (o : Oper) cs b, ops[j]? = some o → o.op ≠ .select cs b) :
    ∀ (fuel : Nat) (listed : Array Bool) (a : Act) (w : World), Cl md ops listed → Waits md ops Ls listed i →
      (∀ j oj, ops[j]? = some oj → j ≠ i → listed.getD j true = false → (∀ e ∈ oj.after, Region.binds md e = true → e.on ≠ i) → oi.apart ops oj = true) →
      i ∈ Region.ready md ops listed → YE P ops E oi v a w →
      wpMX P md ops E Ls Q fuel (listed.setIfInBounds i true) (a.put oi.dst v) w → wpMX P md ops E Ls Q (fuel + 1) listed a w := by
  intro fuel
  induction fuel with
  | zero =>
    intro listed a w hcl hwt _ hr hy H w' hw'
    refine ⟨fun h => (by rw [h] at hr; cases hr), fun j hj => ?_⟩
    by_cases hji : j = i
    · subst hji; exact (hy.later hE hw').eOpX (hwt.not hcl hr hr) hi (hE.refl _) (fun w2 h2 => wpMX_later hE H (hE.and hw' h2))
    · have := ready_mono hj hji
      rw [(H w' hw').1] at this
      cases this
  | succ fuel ih =>
    intro listed a w hcl hwt hfree hr hy H w' hw'
    refine ⟨fun h => (by rw [h] at hr; cases hr), fun j hj => ?_⟩
    by_cases hji : j = i
    · subst hji; exact (hy.later hE hw').eOpX (hwt.not hcl hr hr) hi (hE.refl _) (fun w2 h2 => wpMX_later hE H (hE.and hw' h2))
    · have h1 := (H w' hw').2 j (ready_mono hj hji)
      obtain ⟨hjun, oj, hoj, hall⟩ := mem_ready.1 hj
      have hnot : ∀ e ∈ oj.after, Region.binds md e = true → e.on ≠ i := fun e he hb heq => by
        have h1 := hall e he hb
        rw [heq, unlisted (mem_ready.1 hr).1] at h1
        cases h1
      have hjL : Ls.contains j = false := hwt.not hcl hr hj
      have h2 := eOpX_put hE hjL hoj (hfree j oj hoj hji hjun hnot) (fun cs b => hsel i oi cs b hi) (fun cs b => hsel j oj cs b hoj) (hE.refl _) (hy.later hE hw') h1
      have hfree' : ∀ k ok, ops[k]? = some ok → k ≠ i → (listed.setIfInBounds j true).getD k true = false →
          (∀ e ∈ ok.after, Region.binds md e = true → e.on ≠ i) → oi.apart ops ok = true := fun k ok hk hki hun hno => by
        refine hfree k ok hk hki ?_ hno
        by_cases hjk : j = k
        · subst hjk; exact hjun
        · rw [getD_set_ne true hjk] at hun; exact hun
      refine eOpX_mono hjL (hE.refl _) (fun a' w2 hf2 h3 => ih (listed.setIfInBounds j true) a' w2 (hcl.set hj) hwt.set hfree' (ready_mono hr (Ne.symm hji)) h3.1 ?_) h2
      rw [Array.setIfInBounds_comm _ _ hji]
      exact h3.2

/-- Operation oi yields v, whatever the world. -/
def YP (P : Program) (ops : Array Oper) (E : World → World → Prop) (o : Oper) (v : Value) (a : Act) : Prop :=
  (Region.wanted o (yielded ops a.tmps) = true ∧ ∀ w, qAt P o a E w v) ∨ (Region.wanted o (yielded ops a.tmps) = false ∧ v = undef)
theorem YP.of_same {o : Oper} {v : Value} {a a' : Act} (hy : YP P ops E o v a) (he : execOp a'.eval o = execOp a.eval o)
    (hw : Region.wanted o (yielded ops a'.tmps) = Region.wanted o (yielded ops a.tmps)) : YP P ops E o v a' := by
  unfold YP qAt at *
  rw [he, hw]
  exact hy
theorem YP.ye {o : Oper} {v : Value} {a : Act} (h : YP P ops E o v a) (w : World) : YE P ops E o v a w := h.imp (fun h => ⟨h.1, fun x => h.2 x.w⟩) _root_.id
theorem qStepUp {Er : World → World → Prop} {o : Oper} {a : Act} {w : World} {K : Act → World → Prop} {v : Value} (hsub : ∀ w w', E w w' → Er w w') (h1 : qAt P o a E w v) (h : ∀ w', E w w' → K (a.put o.dst v) w') (hr : E w w) : eStep P o a Er w K := by
  unfold qAt at h1
  unfold eStep
  generalize (execOp a.eval o).run P w = r at *
  cases r with
  | ok n w' =>
    cases n <;> simp only [qUpon] at h1 <;> simp only [eUpon]
    case value u => obtain ⟨rfl, rfl⟩ := h1; exact ⟨hsub _ _ hr, h _ hr⟩
    case skip => obtain ⟨rfl, rfl⟩ := h1; exact ⟨hsub _ _ hr, h _ hr⟩
    case enter f args => obtain ⟨rfl, hc⟩ := h1; exact ⟨rfl, hc.mono fun e w'' ⟨h1, h2⟩ => ⟨v, h1, hsub _ _ h2, h _ h2⟩⟩
  | halt x w' => simp only [qUpon] at h1
theorem YP.eOpX {Ls : List Nat} {i : Nat} {o : Oper} {v : Value} {a : Act} {w : World} (hi : ops[i]? = some o) (hy : YP P ops E o v a) (hr : E w w) {K : Act → World → Prop} (h : ∀ w', E w w' → K (a.put o.dst v) w') : eOpX P ops E Ls i K a w := by
  unfold Go.Proofs.YtppgjglfoibfcaaGreat.eOpX
  simp only [hi]
  rcases hy with ⟨hw, hv⟩ | ⟨hw, rfl⟩
  · simp only [hw, if_true]
    exact qStepUp (fun w w' h => by split; trivial; exact h) (hv w) h hr
  · simp only [hw, Bool.false_eq_true, if_false]; exact h _ hr
theorem eOpX_putP {Ls : List Nat} {j : Nat} {oi oj : Oper} {v : Value} (hj : ops[j]? = some oj) (hap : oi.apart ops oj = true)
    (hsi : ∀ cs b, oi.op ≠ .select cs b) (hsj : ∀ cs b, oj.op ≠ .select cs b) {K : Act → World → Prop} {a : Act} {w : World}
    (hy : YP P ops E oi v a) (h : eOpX P ops E Ls j K (a.put oi.dst v) w) :
    eOpX P ops E Ls j (fun a' w' => YP P ops E oi v a' ∧ K (a'.put oi.dst v) w') a w := by
  obtain ⟨h1, h2, h3⟩ := Oper.apart_spec hap
  have keep : ∀ (a : Act), YP P ops E oi v a → ∀ u, YP P ops E oi v (a.put oj.dst u) := fun a hy u =>
    hy.of_same (execOp_put oi hsi a oj.dst u h3) (wanted_put oi a oj.dst u h3)
  unfold eOpX at *
  simp only [hj] at *
  rw [wanted_put oj a oi.dst v h1] at h
  split
  · rename_i hw
    simp only [hw, if_true] at h
    unfold eStep at *
    rw [execOp_put oj hsj a oi.dst v h1] at h
    generalize (execOp a.eval oj).run P w = r at *
    cases r with
    | ok n w' =>
      cases n <;> simp only [eUpon] at h ⊢
      case value u => exact ⟨h.1, keep a hy u, by rw [← Act.put_comm a v u h2]; exact h.2⟩
      case skip => exact ⟨h.1, keep a hy _, by rw [← Act.put_comm a v undef h2]; exact h.2⟩
      case enter f args =>
        obtain ⟨rfl, hc⟩ := h
        exact ⟨rfl, hc.mono fun e w'' ⟨u, g1, g2, g3⟩ => ⟨u, g1, g2, keep a hy u, by rw [← Act.put_comm a v u h2]; exact g3⟩⟩
    | halt x w' => simp only [eUpon] at h
  · rename_i hw
    simp only [hw] at h
    exact ⟨keep a hy _, by rw [← Act.put_comm a v undef h2]; exact h⟩
theorem eStep_monoP {Er : World → World → Prop} {o : Oper} {a : Act} {w : World} {K K' : Act → World → Prop} (h : ∀ a' w', K a' w' → K' a' w') (hh : eStep P o a Er w K) : eStep P o a Er w K' := by
  unfold eStep at *
  generalize (execOp a.eval o).run P w = r at *
  cases r with
  | ok n w' =>
    cases n <;> simp only [eUpon] at hh ⊢
    case value u => exact ⟨hh.1, h _ _ hh.2⟩
    case skip => exact ⟨hh.1, h _ _ hh.2⟩
    case enter f args => exact ⟨hh.1, hh.2.mono fun e w'' ⟨u, h1, h2, h3⟩ => ⟨u, h1, h2, h _ _ h3⟩⟩
  | halt x w' => simp only [eUpon] at hh
theorem eOpX_monoP {Ls : List Nat} {i : Nat} {a : Act} {w : World} {K K' : Act → World → Prop} (h : ∀ a' w', K a' w' → K' a' w') (hh : eOpX P ops E Ls i K a w) : eOpX P ops E Ls i K' a w := by
  unfold eOpX at *
  split
  · rename_i ho; simp only [ho] at hh; exact h _ _ hh
  · rename_i o ho
    simp only [ho] at hh
    split
    · rename_i hw; simp only [hw, if_true] at hh; exact eStep_monoP h hh
    · rename_i hw; simp only [hw] at hh; exact h _ _ hh
theorem wpMX_firstP (hE : Pre E) {Ls : List Nat} {md : Region.Mode} {Q : Act → World → Prop} {i : Nat} {oi : Oper} {v : Value} (hi : ops[i]? = some oi) (hsel : ∀ (j : Nat) (o : Oper) cs b, ops[j]? = some o → o.op ≠ .select cs b) :
    ∀ (fuel : Nat) (listed : Array Bool) (a : Act) (w : World),
      (∀ j oj, ops[j]? = some oj → j ≠ i → listed.getD j true = false → (∀ e ∈ oj.after, Region.binds md e = true → e.on ≠ i) → oi.apart ops oj = true) →
      i ∈ Region.ready md ops listed → YP P ops E oi v a →
      wpMX P md ops E Ls Q fuel (listed.setIfInBounds i true) (a.put oi.dst v) w → wpMX P md ops E Ls Q (fuel + 1) listed a w := by
  intro fuel
  induction fuel with
  | zero =>
    intro listed a w _ hr hy H w' hw'
    refine ⟨fun h => (by rw [h] at hr; cases hr), fun j hj => ?_⟩
    by_cases hji : j = i
    · subst hji; exact hy.eOpX hi (hE.refl _) (fun w2 h2 => wpMX_later hE H (hE.and hw' h2))
    · have := ready_mono hj hji
      rw [(H w' hw').1] at this
      cases this
  | succ fuel ih =>
    intro listed a w hfree hr hy H w' hw'
    refine ⟨fun h => (by rw [h] at hr; cases hr), fun j hj => ?_⟩
    by_cases hji : j = i
    · subst hji; exact hy.eOpX hi (hE.refl _) (fun w2 h2 => wpMX_later hE H (hE.and hw' h2))
    · have h1 := (H w' hw').2 j (ready_mono hj hji)
      obtain ⟨hjun, oj, hoj, hall⟩ := mem_ready.1 hj
      have hnot : ∀ e ∈ oj.after, Region.binds md e = true → e.on ≠ i := fun e he hb heq => by
        have h1 := hall e he hb
        rw [heq, unlisted (mem_ready.1 hr).1] at h1
        cases h1
      have h2 := eOpX_putP hoj (hfree j oj hoj hji hjun hnot) (fun cs b => hsel i oi cs b hi) (fun cs b => hsel j oj cs b hoj) hy h1
      have hfree' : ∀ k ok, ops[k]? = some ok → k ≠ i → (listed.setIfInBounds j true).getD k true = false →
          (∀ e ∈ ok.after, Region.binds md e = true → e.on ≠ i) → oi.apart ops ok = true := fun k ok hk hki hun hno => by
        refine hfree k ok hk hki ?_ hno
        by_cases hjk : j = k
        · subst hjk; exact hjun
        · rw [getD_set_ne true hjk] at hun; exact hun
      refine eOpX_monoP (fun a' w2 h3 => ih (listed.setIfInBounds j true) a' w2 hfree' (ready_mono hr (Ne.symm hji)) h3.1 ?_) h2
      rw [Array.setIfInBounds_comm _ _ hji]
      exact h3.2

/-- What a pure operation does. -/
def pStep (P : Program) (o : Oper) (a : Act) (E : World → World → Prop) (next : Act → Prop) : Prop := ∃ v, (∀ w, qAt P o a E w v) ∧ next (a.put o.dst v)
/-- An order: operations one behind the other (mark: 0: it looks, 1: it does more, 2: it doesn't even look); two that do more, either of which may come first. -/
inductive OT where
  | fin
  | op (i m : Nat) (rest : OT)
  | alt (i : Nat) (x : OT) (j : Nat) (y : OT)
/-- .. with the operations themselves. -/
inductive OTR where
  | fin
  | op (i : Nat) (o : Oper) (m : Nat) (rest : OTR)
  | alt (i : Nat) (o : Oper) (x : OTR) (j : Nat) (p : Oper) (y : OTR)
def OT.len : OT → Nat
  | .fin => 0
  | .op _ _ rest => rest.len + 1
  | .alt _ x _ _ => x.len + 1
def OT.way : OT → List Nat
  | .fin => []
  | .op i _ rest => i :: rest.way
  | .alt i x _ _ => i :: x.way
def pickX (ops : List Oper) : OT → OTR
  | .fin => .fin
  | .op i m rest => match ops[i]? with | some o => .op i o m (pickX ops rest) | none => .fin
  | .alt i x j y => match ops[i]?, ops[j]? with | some o, some p => .alt i o (pickX ops x) j p (pickX ops y) | _, _ => .fin
def wpX (P : Program) (ops : Array Oper) (E : World → World → Prop) (Q : Act → World → Prop) (Ls : List Nat) : OTR → Act → World → Prop
  | .fin, a, w => ∀ w', E w w' → Q a w'
  | .op _ o 0 rest, a, w => if Region.wanted o (yielded ops a.tmps) then qStep P o a E w (fun a' => wpX P ops E Q Ls rest a' w) else wpX P ops E Q Ls rest (a.put o.dst undef) w
  | .op i o 1 rest, a, w => if Region.wanted o (yielded ops a.tmps) then ∀ w', E w w' → eStep P o a (if Ls.contains i = true then fun _ _ => True else E) w' (wpX P ops E Q Ls rest) else wpX P ops E Q Ls rest (a.put o.dst undef) w
  | .op _ o (_ + 2) rest, a, w => if Region.wanted o (yielded ops a.tmps) then pStep P o a E (fun a' => wpX P ops E Q Ls rest a' w) else wpX P ops E Q Ls rest (a.put o.dst undef) w
  | .alt i o x j p y, a, w =>
    (if Region.wanted o (yielded ops a.tmps) then ∀ w', E w w' → eStep P o a (if Ls.contains i = true then fun _ _ => True else E) w' (wpX P ops E Q Ls x) else wpX P ops E Q Ls x (a.put o.dst undef) w) ∧
    (if Region.wanted p (yielded ops a.tmps) then ∀ w', E w w' → eStep P p a (if Ls.contains j = true then fun _ _ => True else E) w' (wpX P ops E Q Ls y) else wpX P ops E Q Ls y (a.put p.dst undef) w)

theorem Needs.trans {md : Region.Mode} {L i x : Nat} (h : Needs md ops L i) : Needs md ops i x → Needs md ops L x := by
  induction h with
  | direct ho he hb => exact fun k => .step ho he hb k
  | step ho he hb _ ih => exact fun k => .step ho he hb (ih k)
/-- What the numbers of a list wait for. -/
def needS (md : Region.Mode) (ops : Array Oper) : List Nat → List Nat → List Nat
  | [], s => s
  | i :: rest, s => needS md ops rest (if s.contains i then s ++ (match ops[i]? with | some o => (o.after.toList.filter (Region.binds md)).map (·.on) | none => []) else s)
theorem needS_spec {md : Region.Mode} {L : Nat} : ∀ (ord s : List Nat), (∀ x ∈ s, x = L ∨ Needs md ops L x) → ∀ x ∈ needS md ops ord s, x = L ∨ Needs md ops L x
  | [], s, hs, x, hx => hs x hx
  | i :: rest, s, hs, x, hx => by
    refine needS_spec rest _ (fun y hy => ?_) x hx
    split at hy
    · rename_i hi
      rw [List.contains_iff_mem] at hi
      rcases List.mem_append.1 hy with hy | hy
      · exact hs y hy
      · cases ho : ops[i]? with
        | none => rw [ho] at hy; simp at hy
        | some o =>
          rw [ho] at hy
          obtain ⟨e, he, rfl⟩ := List.mem_map.1 hy
          rw [List.mem_filter] at he
          have h1 : Needs md ops i e.on := .direct ho (by simpa using he.1) he.2
          rcases hs i hi with rfl | h2
          · exact .inr h1
          · exact .inr (h2.trans h1)
    · exact hs y hy

/-- Does the order serve? W: what each of Ls waits for; done: which of Ls are behind. -/
def okT (md : Region.Mode) (ops : Array Oper) (W : List (Nat × List Nat)) : OT → Array Bool → List Nat → Bool
  | .fin, listed, _ => (Region.ready md ops listed).isEmpty
  | .op i m rest, listed, done => decide (i < ops.size) && (if m == 1 then Region.ready md ops listed == [i] else (Region.ready md ops listed).contains i && Region.free md ops listed i) &&
    (m != 0 || (W.all fun p => p.1 != i && (done.contains p.1 || p.2.contains i))) && okT md ops W rest (listed.setIfInBounds i true) (if m == 1 then i :: done else done)
  | .alt i x j y, listed, done => decide (i < ops.size) && decide (j < ops.size) && (x.len == y.len) && (Region.ready md ops listed == [i, j]) &&
    okT md ops W x (listed.setIfInBounds i true) (i :: done) && okT md ops W y (listed.setIfInBounds j true) (j :: done)

theorem done_set {listed : Array Bool} {done : List Nat} {j : Nat} (hd : ∀ x ∈ done, listed.getD x false = true) (hj : j < listed.size) : ∀ x ∈ j :: done, (listed.setIfInBounds j true).getD x false = true := by
  intro x hx
  rcases List.mem_cons.1 hx with rfl | hx
  · simp [hj]
  · exact getD_set_true (hd x hx)
theorem eOpX_of {Ls : List Nat} {j : Nat} {o : Oper} {K K' : Act → World → Prop} {a : Act} {w w' : World} (hg : ops[j]? = some o) (hw' : E w w')
    (h : if Region.wanted o (yielded ops a.tmps) then ∀ w', E w w' → eStep P o a (if Ls.contains j = true then fun _ _ => True else E) w' K else K (a.put o.dst undef) w)
    (hK : ∀ a' w2, K a' w2 → K' a' w2) (hl : ∀ a', K' a' w → K' a' w') : eOpX P ops E Ls j K' a w' := by
  unfold eOpX
  simp only [hg]
  split
  · rename_i hw
    simp only [hw, if_true] at h
    exact eStep_monoP hK (h w' hw')
  · rename_i hw
    simp only [hw] at h
    exact hl _ (hK _ _ h)

theorem wpMX_of_wpX (hE : Pre E) {Ls : List Nat} {W : List (Nat × List Nat)} (hW1 : W.map (·.1) = Ls) {md : Region.Mode} (hW2 : ∀ p ∈ W, ∀ x ∈ p.2, x = p.1 ∨ Needs md ops p.1 x) {Q : Act → World → Prop} (hs : Region.noSelect ops = true) : ∀ (ord : OT) (done : List Nat) (listed : Array Bool) (a : Act) (w : World),
    okT md ops W ord listed done = true → (∀ x ∈ done, listed.getD x false = true) → Cl md ops listed → listed.size = ops.size →
    wpX P ops E Q Ls (pickX ops.toList ord) a w → wpMX P md ops E Ls Q ord.len listed a w
  | .fin, done, listed, a, w, hB, _, _, _, h => fun w' hw' => ⟨by simpa [okT] using hB, h w' hw'⟩
  | .alt i x j y, done, listed, a, w, hB, hd, hcl, hsz, h => by
    simp only [okT, Bool.and_eq_true, decide_eq_true_eq, beq_iff_eq] at hB
    obtain ⟨⟨⟨⟨⟨hi, hj⟩, hxy⟩, hr⟩, hB1⟩, hB2⟩ := hB
    have hgi : ops[i]? = some (ops[i]'hi) := by simp [hi]
    have hgj : ops[j]? = some (ops[j]'hj) := by simp [hj]
    have hp : pickX ops.toList (.alt i x j y) = .alt i (ops[i]'hi) (pickX ops.toList x) j (ops[j]'hj) (pickX ops.toList y) := by
      rw [pickX]; simp [hi, hj]
    rw [hp] at h
    simp only [wpX] at h
    intro w' hw'
    refine ⟨fun h0 => (by rw [hr] at h0; cases h0), fun q hq => ?_⟩
    have hq' := hq
    rw [hr] at hq
    rcases List.mem_cons.1 hq with rfl | hq
    · exact eOpX_of hgi hw' h.1 (fun a' w2 hk => wpMX_of_wpX hE hW1 hW2 hs x (q :: done) _ _ w2 hB1 (done_set hd (by omega)) (hcl.set hq') (by simpa using hsz) hk) (fun a' hk => wpMX_later hE hk hw')
    · obtain rfl : q = j := by simpa using hq
      have e : (OT.alt i x q y).len = y.len + 1 := by rw [OT.len, hxy]
      exact eOpX_of hgj hw' h.2 (fun a' w2 hk => hxy ▸ wpMX_of_wpX hE hW1 hW2 hs y (q :: done) _ _ w2 hB2 (done_set hd (by omega)) (hcl.set hq') (by simpa using hsz) hk) (fun a' hk => wpMX_later hE hk hw')
  | .op i m rest, done, listed, a, w, hB, hd, hcl, hsz, h => by
    simp only [okT, Bool.and_eq_true, decide_eq_true_eq] at hB
    obtain ⟨⟨⟨hi, hB1⟩, hwt⟩, hB2⟩ := hB
    have hg' : ops[i]? = some (ops[i]'hi) := by simp [hi]
    have hp : pickX ops.toList (.op i m rest) = .op i (ops[i]'hi) m (pickX ops.toList rest) := by
      rw [pickX]; simp [hi]
    rw [hp] at h
    match m, hB1, hB2, hwt, h with
    | 0, hB1, hB2, hwt, h =>
      have h01 : ((0 : Nat) == 1) = false := rfl
      simp only [h01, Bool.false_eq_true, if_false, Bool.and_eq_true] at hB1
      simp only [h01, Bool.false_eq_true, if_false] at hB2
      simp only [bne_self_eq_false, Bool.false_or] at hwt
      have hready : i ∈ Region.ready md ops listed := by simpa using hB1.1
      have hwaits : Waits md ops Ls listed i := by
        intro L hL
        rw [← hW1] at hL
        obtain ⟨p, hp, rfl⟩ := List.mem_map.1 hL
        have h1 := List.all_eq_true.1 hwt p hp
        simp only [Bool.and_eq_true, bne_iff_ne, Bool.or_eq_true, List.contains_iff_mem] at h1
        rcases h1.2 with h2 | h2
        · exact .inl (hd _ h2)
        · rcases hW2 p hp i h2 with h3 | h3
          · exact absurd h3.symm h1.1
          · exact .inr h3
      have key : ∃ v, YE P ops E (ops[i]'hi) v a w ∧ wpX P ops E Q Ls (pickX ops.toList rest) (a.put (ops[i]'hi).dst v) w := by
        simp only [wpX] at h
        by_cases hw : Region.wanted (ops[i]'hi) (yielded ops a.tmps) = true
        · simp only [hw, if_true] at h
          obtain ⟨v, h1, h2⟩ := h
          exact ⟨v, .inl ⟨hw, h1⟩, h2⟩
        · simp only [hw] at h
          exact ⟨undef, .inr ⟨by simpa using hw, rfl⟩, h⟩
      obtain ⟨v, hy, hK⟩ := key
      exact wpMX_first hE hg' (Region.noSelect_spec hs) rest.len listed a w hcl hwaits (Region.free_spec hg' hB1.2) hready hy (wpMX_of_wpX hE hW1 hW2 hs rest done _ _ w hB2 (fun x hx => getD_set_true (hd x hx)) (hcl.set hready) (by simpa using hsz) hK)
    | 1, hB1, hB2, hwt, h =>
      have h11 : ((1 : Nat) == 1) = true := rfl
      simp only [h11, if_true] at hB1
      simp only [h11, if_true] at hB2
      have hready : Region.ready md ops listed = [i] := by simpa using hB1
      intro w' hw'
      refine ⟨fun h0 => (by rw [hready] at h0; cases h0), fun j hj => ?_⟩
      have hj' := hj
      rw [hready] at hj
      obtain rfl : j = i := by simpa using hj
      simp only [wpX] at h
      exact eOpX_of hg' hw' h (fun a' w2 hk => wpMX_of_wpX hE hW1 hW2 hs rest (j :: done) _ _ w2 hB2 (done_set hd (by omega)) (hcl.set hj') (by simpa using hsz) hk) (fun a' hk => wpMX_later hE hk hw')
    | m + 2, hB1, hB2, hwt, h =>
      have h21 : ((m + 2 : Nat) == 1) = false := by simp
      simp only [h21, Bool.false_eq_true, if_false, Bool.and_eq_true] at hB1
      simp only [h21, Bool.false_eq_true, if_false] at hB2
      have hready : i ∈ Region.ready md ops listed := by simpa using hB1.1
      have key : ∃ v, YP P ops E (ops[i]'hi) v a ∧ wpX P ops E Q Ls (pickX ops.toList rest) (a.put (ops[i]'hi).dst v) w := by
        simp only [wpX] at h
        by_cases hw : Region.wanted (ops[i]'hi) (yielded ops a.tmps) = true
        · simp only [hw, if_true] at h
          obtain ⟨v, h1, h2⟩ := h
          exact ⟨v, .inl ⟨hw, h1⟩, h2⟩
        · simp only [hw] at h
          exact ⟨undef, .inr ⟨by simpa using hw, rfl⟩, h⟩
      obtain ⟨v, hy, hK⟩ := key
      exact wpMX_firstP hE hg' (Region.noSelect_spec hs) rest.len listed a w (Region.free_spec hg' hB1.2) hready hy (wpMX_of_wpX hE hW1 hW2 hs rest done _ _ w hB2 (fun x hx => getD_set_true (hd x hx)) (hcl.set hready) (by simpa using hsz) hK)

def needW (l : List Oper) (ord : OT) (Ls : List Nat) : List (Nat × List Nat) := Ls.map fun L => (L, needS .any l.toArray ord.way.reverse [L])
def okX (Ls : List Nat) (l : List Oper) (ord : OT) : Bool :=
  Region.noSelect l.toArray && (ord.len == l.length) && okT .any l.toArray (needW l ord Ls) ord (Array.replicate l.length false) []
/-- The region's law. -/
theorem wp_region_ordX (hE : Pre E) {id : Nat} {Q : Exit → Act → World → Prop} {a : Act} {w : World} {l : List Oper} (Ls : List Nat) (ord : OT) (ls : OTR) (hm : P.follows .mixedOrders = true)
    (hB : okX Ls l ord = true) (hls : pickX l ord = ls)
    (h : wpX P l.toArray E (fun a' w' => Q .normal a' w') Ls ls a w.drew) : (Code.region id l.toArray true).wp P Q a w := by
  simp only [okX, Bool.and_eq_true, beq_iff_eq] at hB
  obtain ⟨⟨h1, h2⟩, h5⟩ := hB
  subst hls
  refine wp_region_any hm (wpAny_of_wpMX hE (Ls := Ls) (Q := fun a' w' => Q .normal a' w') (fun _ _ h => h) _ _ _ _ ?_)
  have hW1 : (needW l ord Ls).map (·.1) = Ls := by simp [needW, Function.comp_def]
  have hW2 : ∀ p ∈ needW l ord Ls, ∀ x ∈ p.2, x = p.1 ∨ Needs .any l.toArray p.1 x := by
    intro p hp x hx
    obtain ⟨L, hL, rfl⟩ := List.mem_map.1 hp
    exact needS_spec _ _ (fun y hy => .inl (by simpa using hy)) x hx
  have := wpMX_of_wpX hE (P := P) (ops := l.toArray) hW1 hW2 (Q := fun a' w' => Q .normal a' w') h1 ord [] (Array.replicate l.length false) a w.drew h5 (by simp) (fun k o ho hk => by
    rcases Nat.lt_or_ge k l.length with h' | h'
    · simp [h'] at hk
    · simp [h'] at hk) (by simp) (by simpa using h)
  rw [h2] at this
  simpa using this

theorem wpX_q {Ls : List Nat} {Q : Act → World → Prop} {i : Nat} {o : Oper} {rest : OTR} {a : Act} {w : World}
    (h : ∀ K : Act → Prop, (∀ a', wpX P ops E Q Ls rest a' w → K a') → if Region.wanted o (yielded ops a.tmps) then qStep P o a E w K else K (a.put o.dst undef)) : wpX P ops E Q Ls (.op i o 0 rest) a w := by
  rw [wpX]; exact h _ (fun _ h => h)
theorem wpX_p {Ls : List Nat} {Q : Act → World → Prop} {i : Nat} {o : Oper} {rest : OTR} {a : Act} {w : World}
    (h : ∀ K : Act → Prop, (∀ a', wpX P ops E Q Ls rest a' w → K a') → if Region.wanted o (yielded ops a.tmps) then pStep P o a E K else K (a.put o.dst undef)) : wpX P ops E Q Ls (.op i o 2 rest) a w := by
  rw [wpX]; exact h _ (fun _ h => h)
theorem wpX_e {Ls : List Nat} {Q : Act → World → Prop} {i : Nat} {o : Oper} {rest : OTR} {a : Act} {w : World}
    (h : ∀ K : Act → World → Prop, (∀ a' w', wpX P ops E Q Ls rest a' w' → K a' w') → if Region.wanted o (yielded ops a.tmps) then ∀ w', E w w' → eStep P o a (if Ls.contains i = true then fun _ _ => True else E) w' K else K (a.put o.dst undef) w) : wpX P ops E Q Ls (.op i o 1 rest) a w := by
  rw [wpX]; exact h _ (fun _ _ h => h)
theorem wpX_alt {Ls : List Nat} {Q : Act → World → Prop} {i j : Nat} {o p : Oper} {x y : OTR} {a : Act} {w : World}
    (h1 : ∀ K : Act → World → Prop, (∀ a' w', wpX P ops E Q Ls x a' w' → K a' w') → if Region.wanted o (yielded ops a.tmps) then ∀ w', E w w' → eStep P o a (if Ls.contains i = true then fun _ _ => True else E) w' K else K (a.put o.dst undef) w)
    (h2 : ∀ K : Act → World → Prop, (∀ a' w', wpX P ops E Q Ls y a' w' → K a' w') → if Region.wanted p (yielded ops a.tmps) then ∀ w', E w w' → eStep P p a (if Ls.contains j = true then fun _ _ => True else E) w' K else K (a.put p.dst undef) w) : wpX P ops E Q Ls (.alt i o x j p y) a w := by
  rw [wpX]; exact ⟨h1 _ (fun _ _ h => h), h2 _ (fun _ _ h => h)⟩
theorem wpX_nil {Ls : List Nat} {Q : Act → World → Prop} {a : Act} {w : World} (h : ∀ w', E w w' → Q a w') : wpX P ops E Q Ls .fin a w := by rw [wpX]; exact h
end
instance worldNonempty : Nonempty World := ⟨default⟩
attribute [go_sem] pStep
/-- A guard that was itself passed over. -/
theorem yield_undef : (match some undef with | some (Value.bool b) => some b | _ => none) = none := rfl
attribute [go_sem] yield_undef
end Go.Proofs.YtppgjglfoibfcaaGreat
