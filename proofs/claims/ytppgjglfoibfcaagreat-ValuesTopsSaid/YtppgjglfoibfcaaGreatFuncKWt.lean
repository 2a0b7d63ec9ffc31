import Derived.Test.YtppgjglfoibfcaaGreatReg1
import Derived.Lib.SliceRun
import Derived.Laws.IdiomCopy
set_option linter.unusedSimpArgs false
set_option linter.unusedVariables false
/-
  slices.IndexFunc, ContainsFunc, Clone, DeleteFunc on []values.write, at whatever predicate.
-/
namespace Go.Proofs.YtppgjglfoibfcaaGreat
open Go.RowKit

def IdxPWt (p : Wr → Bool) (xs : List Wr) (r : Int) : Prop := (r = -1 ∧ ∀ x ∈ xs, p x = false) ∨ ∃ (i : Nat) (x : Wr), r = i ∧ xs[i]? = some x ∧ p x = true ∧ ∀ y ∈ xs.take i, p y = false

set_option maxRecDepth 100000 in
set_option maxHeartbeats 1000000 in
theorem indexWt (k : FuncId) (bd caps : Array Value) (eg : ∀ args w, (callFunc k args).run Tryz.prog w = .ok (.enter k args) w) (p : Wr → Bool) (pv : Value) (xs : List Wr) (w : World) (hs : Recs 2 encWt w pv xs)
    (hp : ∀ x w1, x ∈ xs → Fr [] w w1 → Calls Tryz.prog k (bd.push (agWt x) ++ caps) w1 fun e w' => e = .returned (.bool (p x)) ∧ Fr [] w1 w') :
    Calls Tryz.prog 157 #[pv, .func (.func k) bd caps] w fun e w' => ∃ r : Int, e = .returned (.int .i64 r) ∧ IdxPWt p xs r ∧ Fr [] w w' := by
  obtain ⟨a, c, rfl, hc', hm, hn⟩ := hs.form
  obtain ⟨n, hnx⟩ : ∃ n, n = xs.length := ⟨_, rfl⟩
  rw [← hnx] at hs hc' hn ⊢
  have Hn := Lib.hid hnx; clear hnx
  have Hp := Lib.hid hp; clear hp
  go_enter Tryz.func157, Tryz.ntmps157
  go_wp2
  go_loopw [8] (fun i wr => ∃ k : Nat, k ≤ n ∧ i = .int .i64 k ∧ (∀ x ∈ xs.take k, p x = false) ∧ Fr [] w wr) (fun i _ => n - (intOf i).toNat)
  case atStart => exact ⟨0, Nat.zero_le _, rfl, by simp, .refl w⟩
  case round =>
    obtain ⟨q, hk, rfl, hno, hf⟩ := hrel
    have hs := hs.fr hf
    have Hno := Lib.hid hno; clear hno
    by_cases hlt : q < n
    · obtain ⟨s, hx⟩ : ∃ s, xs[q]? = some s := ⟨_, List.getElem?_eq_getElem (Hn.out ▸ hlt)⟩
      obtain ⟨b', o, hidx, hcell⟩ := hs.at_ lenWt Hn.out 134 132 Tryz.underlying134 Tryz.sizeOf132 q s hx
      obtain ⟨c1, c2⟩ := cellsWt hcell
      have Hx := Lib.hid hx; clear hx hcell
      have R := Hp.out s wr (List.mem_of_getElem? Hx.out) hf
      cases hps : p s with
      | false =>
        rw [hps] at R
        have Hps := Lib.hid hps; clear hps
        have R := Lib.hid R
        go_wp2_with (go_at_fn k; refine R.out.mono ?_; rintro e w' ⟨rfl, hf2⟩)
        go_roundw
        case rel =>
          refine ⟨q + 1, by omega, by go_num, fun y hy => ?_, hf.then hf2⟩
          rw [take_snoc Hx.out, List.mem_append, List.mem_singleton] at hy
          rcases hy with hy | rfl
          · exact Hno.out y hy
          · exact Hps.out
        case measure => simp [intOf]; omega
      | true =>
        rw [hps] at R
        have Hps := Lib.hid hps; clear hps
        have R := Lib.hid R
        go_wp2_with (go_at_fn k; refine R.out.mono ?_; rintro e w' ⟨rfl, hf2⟩)
        go_ret
        exact ⟨q, rfl, .inr ⟨q, s, rfl, Hx.out, Hps.out, Hno.out⟩, hf.then hf2⟩
    · go_wp2
      go_ret
      refine ⟨-1, rfl, .inl ⟨rfl, ?_⟩, hf⟩
      have h1 := Hno.out
      rwa [List.take_of_length_le (by have := Hn.out; omega)] at h1
theorem idxAnyWt {p : Wr → Bool} {xs : List Wr} {r : Int} (h : IdxPWt p xs r) : decide (0 ≤ r) = xs.any p := by
  rcases h with ⟨rfl, h⟩ | ⟨i, x, rfl, hx, hp, _⟩
  · have : xs.any p = false := by rw [List.any_eq_false]; intro x hx; simp [h x hx]
    rw [this]; rfl
  · have : xs.any p = true := List.any_eq_true.2 ⟨x, List.mem_of_getElem? hx, hp⟩
    rw [this]; simp
set_option maxRecDepth 100000 in
theorem containsWt (k : FuncId) (bd caps : Array Value) (eg : ∀ args w, (callFunc k args).run Tryz.prog w = .ok (.enter k args) w) (p : Wr → Bool) (pv : Value) (xs : List Wr) (w : World) (hs : Recs 2 encWt w pv xs)
    (hp : ∀ x w1, x ∈ xs → Fr [] w w1 → Calls Tryz.prog k (bd.push (agWt x) ++ caps) w1 fun e w' => e = .returned (.bool (p x)) ∧ Fr [] w1 w') :
    Calls Tryz.prog 69 #[pv, .func (.func k) bd caps] w fun e w' => e = .returned (.bool (xs.any p)) ∧ Fr [] w w' := by
  have Hp := Lib.hid hp; clear hp
  have Hg := Lib.hid eg; clear eg
  go_enter Tryz.func69, Tryz.ntmps69
  go_wp2_with (go_at_call 157; refine (indexWt k bd caps Hg.out p _ _ _ hs Hp.out).mono ?_; rintro e w1 ⟨r, rfl, hr, h1⟩)
  go_ret
  exact ⟨ret_bool (idxAnyWt hr), h1⟩

theorem infoWt : (Tryz.prog.info? 132).map (fun i => (i.zero, i.size, i.bytes)) = some (some (.agg [.string ⟨#[]⟩, .string ⟨#[]⟩].toArray), 2, 32) := by kernel_rfl
theorem wpList_appWt {w : World} {ops : Array Oper} {rest : List Oper} {o : Oper} {a : Act} {Q : Exit → Act → World → Prop} (hgd : o.guard = none) (s x : Operand)
    (ho : o.op = .call { callee := .builtin .append, args := #[s, x], argTypes := #[134, 134] })
    (base : Nat) (v : Value) (xs : List Wr) (hs : a.eval s = v) (hown : w.ownsRow base 132 2 v xs.length (xs.flatMap encWt))
    (xv : Value) (ys : List Wr) (hx : a.eval x = xv) (hsl : Recs 2 encWt w xv ys) (hbytes : xs.length + ys.length ≤ 100000000) (hbase : base ≤ w.heap.size)
    (h : ∀ v' w', w'.ownsRow base 132 2 v' (xs ++ ys).length ((xs ++ ys).flatMap encWt) → w.grownBy w' v.ownBlock → (v'.ownBlock = v.ownBlock ∨ v'.ownBlock = some w.heap.size) → wpList Tryz.prog ops Q rest (a.put o.dst v') w') :
    wpList Tryz.prog ops Q (o :: rest) a w :=
  wpList_appR lenWt oneWt hgd s x 134 ho 132 _ 32 Tryz.underlying134 infoWt rfl (by decide) (by decide) base v xs hs hown xv ys hx hsl (by omega) hbase h

set_option maxRecDepth 100000 in
theorem cloneWt (v : Value) (xs : List Wr) (w : World) (hs : Recs 2 encWt w v xs) (hl : xs.length ≤ 1000000) :
    Calls Tryz.prog 74 #[v] w fun e w' => ∃ u, e = .returned u ∧ w'.ownsRow w.heap.size 132 2 u xs.length (xs.flatMap encWt) ∧ Fr [] w w' := by
  obtain ⟨a, c, rfl, hc, hm, hn⟩ := hs.form
  obtain ⟨n, hnx⟩ : ∃ n, n = xs.length := ⟨_, rfl⟩
  rw [← hnx] at hs hc hn hl ⊢
  have hq : ∀ (w : World) (a : Option Addr) (n c n' c' : Nat), (binOp .eql 134 (.slice a n c) (.slice none n' c')).run Tryz.prog w = .ok (.bool a.isNone) w := fun w a n c n' c' => Lib.run_eql_slice_nil w _ _ a n c n' c' Tryz.underlying134
  cases a with
  | none =>
    have h0 : n = 0 := by
      obtain ⟨_, _, a', c', h5, _, _, h8, h9⟩ := hs
      injection h5 with e1
      subst e1
      rcases Nat.eq_zero_or_pos n with h | h
      · exact h
      · obtain ⟨b, o, e, _⟩ := h9 (hnx ▸ h); cases e
    subst h0
    obtain rfl : xs = [] := List.eq_nil_of_length_eq_zero hnx.symm
    clear hnx hs hc hn hl hm
    have hq1 : ∀ w : World, (binOp .eql 134 (.slice none 0 c) (.slice none 0 0)).run Tryz.prog w = .ok (.bool true) w := fun w => hq w none 0 c 0 0
    clear hq
    go_enter Tryz.func74, Tryz.ntmps74
    go_wp2
    go_ret
    exact ⟨_, rfl, World.ownsRow_nil _ _ _ _, .refl _⟩
  | some a =>
    have Hn := Lib.hid hnx; clear hnx
    have f0 := (Fr.refl w).alloc (.cells #[] 132)
    go_enter Tryz.func74, Tryz.ntmps74
    go_wp2_with (at_builtin; refine wpList_appWt rfl _ _ rfl _ _ [] rfl (own_emptyR w 2 132 encWt) _ _ rfl (hs.fr f0) (by have := Hn.out; simp; omega) (by simp) ?_; intro v1 w1 hown1 hg1 hat1; have f1 := f0.grown hg1 (fun j hj => by cases hj; exact Nat.le_refl _))
    go_ret
    refine ⟨_, rfl, ?_, f1⟩
    rw [Hn.out]
    simpa using hown1
end Go.Proofs.YtppgjglfoibfcaaGreat
