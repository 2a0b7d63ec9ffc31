import Derived.Test.YtoaebladjdnfjaaGreatRef04
/-
  Lists that the references make.
-/
set_option linter.unusedSimpArgs false
set_option linter.unusedVariables false
namespace Go.Proofs.YtoaebladjdnfjaaGreat
open Go.RowKit

theorem infoStr : (Tryz.prog.info? 9).map (fun i => (i.zero, i.size, i.bytes)) = some (some (.string ⟨#[]⟩), 1, 16) := by kernel_rfl

/-- append of texts onto a row of the call's own. -/
theorem wpList_appS {w : World} {ops : Array Oper} {rest : List Oper} {o : Oper} {a : Act} {Q : Exit → Act → World → Prop} (hgd : o.guard = none) (s x : Operand)
    (ho : o.op = .call { callee := .builtin .append, args := #[s, x], argTypes := #[23, 23] })
    (base : Nat) (v : Value) (xs : List BS) (hs : a.eval s = v) (hown : w.ownsRow base 9 1 v xs.length (xs.map .string))
    (xv : Value) (ys : List BS) (hx : a.eval x = xv) (hsl : Strs w xv ys)
    (hbytes : xs.length + ys.length ≤ 8796093022208) (hbase : base ≤ w.heap.size)
    (h : ∀ v' w', w'.ownsRow base 9 1 v' (xs ++ ys).length ((xs ++ ys).map .string) → w.grownBy w' v.ownBlock → (v'.ownBlock = v.ownBlock ∨ v'.ownBlock = some w.heap.size) → wpList Tryz.prog ops Q rest (a.put o.dst v') w') :
    wpList Tryz.prog ops Q (o :: rest) a w :=
  wpList_app hgd s x 23 ho 9 (.string ⟨#[]⟩) 1 16 Tryz.underlying23 infoStr rfl (by decide) (by decide) v base xs.length _ hs hown xv ys.length _ hx hsl (strs_oneCell ys) (by omega) hbase
    (fun v' w' h1 h2 h3 => h v' w' (by rw [List.length_append, List.map_append]; exact h1) h2 h3)

theorem strs_new (w : World) (x : BS) : Strs (w.alloc (.cells #[.string x] 9)) (.slice (some ⟨w.heap.size, 0, none⟩) 1 1) [x] := Sl.new w #[.string x] 9 1 1 rfl (by omega)
theorem own_empty (w : World) : (w.alloc (.cells #[] 9)).ownsRow w.heap.size 9 1 (.slice (some ⟨w.heap.size, 0, none⟩) 0 0) ([] : List BS).length (([] : List BS).map .string) := own_new w #[] 9 1 0 rfl (by decide)

set_option maxHeartbeats 1000000 in
theorem with04 (v : Value) (xs : List BS) (id : BS) (w : World) (hs : Strs w v xs) (hl : xs.length ≤ 1000000) :
    Calls Tryz.prog 79 #[v, .string id] w fun e w' => ∃ u, e = .returned u ∧ Strs w' u (withL xs id) ∧ Fr [] w w' := by
  obtain ⟨a, c, rfl, hc, hm, hn⟩ := hs.form
  obtain ⟨n, hnx⟩ : ∃ n, n = xs.length := ⟨_, rfl⟩
  rw [← hnx] at hs hc hn hl ⊢
  have Hn := Lib.hid hnx; clear hnx
  go_enter Tryz.func79, Tryz.ntmps79
  go_wp2
  go_loop [5] (fun i => ∃ k : Nat, k ≤ n ∧ i = .int .i64 k ∧ ∀ y ∈ xs.take k, BLt y id) (fun i => n - (intOf i).toNat)
  case atStart => exact ⟨0, Nat.zero_le _, rfl, by simp⟩
  case round =>
    obtain ⟨k, hk, rfl, hno⟩ := hrel
    have Hno := Lib.hid hno; clear hno
    obtain ⟨a1, hs1, _, hr1, _⟩ := hs.cut Hn.out 23 9 Tryz.underlying23 Tryz.sizeOf9 0 k (Nat.zero_le _) hk
    have hr1 := hr1 rfl
    obtain ⟨a2, hs2, _, _, hr2⟩ := hs.cut Hn.out 23 9 Tryz.underlying23 Tryz.sizeOf9 k n hk (Nat.le_refl _)
    have hr2 := hr2 rfl
    simp only [Nat.sub_zero, List.drop_zero] at hs1 hr1
    have fin : (∀ y, xs[k]? = some y → BLt id y) → (xs.take k ++ [id]) ++ (xs.drop k).take (n - k) = withL xs id := by
      intro h
      rw [withL_split Hno.out h, List.take_of_length_le (l := xs.drop k) (by have := Hn.out; simp; omega)]
    have Fin := Lib.hid fin; clear fin
    by_cases hlt : k < n
    · obtain ⟨s, hx⟩ : ∃ s, xs[k]? = some s := ⟨_, List.getElem?_eq_getElem (Hn.out ▸ hlt)⟩
      obtain ⟨b, o, hidx, hcell⟩ := hs.at_ Hn.out 23 9 Tryz.underlying23 Tryz.sizeOf9 k s hx
      have Hx := Lib.hid hx; clear hx
      by_cases hq : BLt s id
      · have hb := less_tt hq
        have Hq := Lib.hid hq; clear hq
        clear hr1 hr2
        go_wp2
        go_round
        case rel => exact ⟨k + 1, by omega, by go_num, fun y hy => by rcases (mem_take_succ Hx.out).1 hy with h | h; exact Hno.out y h; subst h; exact Hq.out⟩
        case measure => simp [intOf]; omega
      · have hb := less_ff hq
        have Hq := Lib.hid hq; clear hq
        by_cases he : s = id
        · have hb2 := beq_tt he
          have He := Lib.hid he; clear he
          clear hr1 hr2
          go_wp2
          go_ret
          exact ⟨_, rfl, by rw [withL_same Hno.out (He.out ▸ Hx.out)]; exact Hn.out ▸ hs, .refl w⟩
        · have hb2 := beq_ff he
          have He := Lib.hid he; clear he
          have lk : (xs.take k).length ≤ 1000000 := by have := Hn.out; simp; omega
          have ld : ((xs.drop k).take (n - k)).length ≤ 1000000 := by have := Hn.out; simp; omega
          have f0 := (Fr.refl w).alloc (.cells #[] 9)
          go_wp2_with (first
            | (at_builtin; refine wpList_appS rfl (.tmp 34) (.tmp 37) rfl _ _ [] rfl (own_empty w) _ _ rfl (hs1.fr f0) (by simp; omega) (by simp) ?_; intro v1 w1 hown1 hg1 hat1; have f1 := f0.grown hg1 (fun j hj => by cases hj; exact Nat.le_refl _); have f2 := f1.alloc (.cells #[.string id] 9))
            | (at_builtin; refine wpList_appS rfl (.tmp 39) (.tmp 41) rfl _ _ _ rfl (own_fr hown1 ((Fr.refl w1).alloc _)) _ _ rfl (strs_new w1 id) (by simp; omega) (f2.size) ?_; intro v2 w2 hown2 hg2 hat2; have f3 := f2.grown hg2 (own_base0 hown1))
            | (at_builtin; refine wpList_appS rfl (.tmp 43) (.tmp 46) rfl _ _ _ rfl hown2 _ _ rfl (hs2.fr f3) (by simp; omega) (f3.size) ?_; intro v3 w3 hown3 hg3 hat3; have f4 := f3.grown hg3 (own_base0 hown2)))
          go_ret
          refine ⟨_, rfl, ?_, f4⟩
          have h := Strs.of_own hown3 (by simp; omega)
          rw [List.nil_append, Fin.out (fun y hy => by have h1 := Hx.out; rw [hy] at h1; injection h1 with h1; subst h1; rcases blt_total id y with h | h | h; exact h; exact absurd h.symm He.out; exact absurd h Hq.out)] at h
          exact h
    · have lk : (xs.take k).length ≤ 1000000 := by have := Hn.out; simp; omega
      have ld : ((xs.drop k).take (n - k)).length ≤ 1000000 := by have := Hn.out; simp; omega
      have f0 := (Fr.refl w).alloc (.cells #[] 9)
      go_wp2_with (first
        | (at_builtin; refine wpList_appS rfl (.tmp 34) (.tmp 37) rfl _ _ [] rfl (own_empty w) _ _ rfl (hs1.fr f0) (by simp; omega) (by simp) ?_; intro v1 w1 hown1 hg1 hat1; have f1 := f0.grown hg1 (fun j hj => by cases hj; exact Nat.le_refl _); have f2 := f1.alloc (.cells #[.string id] 9))
        | (at_builtin; refine wpList_appS rfl (.tmp 39) (.tmp 41) rfl _ _ _ rfl (own_fr hown1 ((Fr.refl w1).alloc _)) _ _ rfl (strs_new w1 id) (by simp; omega) (f2.size) ?_; intro v2 w2 hown2 hg2 hat2; have f3 := f2.grown hg2 (own_base0 hown1))
        | (at_builtin; refine wpList_appS rfl (.tmp 43) (.tmp 46) rfl _ _ _ rfl hown2 _ _ rfl (hs2.fr f3) (by simp; omega) (f3.size) ?_; intro v3 w3 hown3 hg3 hat3; have f4 := f3.grown hg3 (own_base0 hown2)))
      go_ret
      refine ⟨_, rfl, ?_, f4⟩
      have h := Strs.of_own hown3 (by simp; omega)
      rw [List.nil_append, Fin.out (fun y hy => by have h1 := lt_of_getElem? hy; have := Hn.out; omega)] at h
      exact h

set_option maxHeartbeats 1000000 in
theorem of04 (v : Value) (xs : List BS) (w : World) (hs : Strs w v xs) (hl : xs.length ≤ 1000000) :
    Calls Tryz.prog 43 #[v] w fun e w' => ∃ u, e = .returned u ∧ Strs w' u (ofL xs) ∧ Fr [] w w' := by
  obtain ⟨a, c, rfl, hc, hm, hn⟩ := hs.form
  obtain ⟨n, hnx⟩ : ∃ n, n = xs.length := ⟨_, rfl⟩
  rw [← hnx] at hs hc hn hl ⊢
  have Hn := Lib.hid hnx; clear hnx
  go_enter Tryz.func43, Tryz.ntmps43
  go_wp2
  go_loopw [3, 4] (fun u i wr => ∃ k : Nat, k ≤ n ∧ i = .int .i64 k ∧ Strs wr u (ofL (xs.take k)) ∧ Fr [] w wr) (fun _ i _ => n - (intOf i).toNat)
  case atStart => exact ⟨0, Nat.zero_le _, rfl, Strs.nil w, .refl w⟩
  case round =>
    obtain ⟨k, hk, rfl, hsu, hf⟩ := hrel
    have hs := hs.fr hf
    by_cases hlt : k < n
    · obtain ⟨s, hx⟩ : ∃ s, xs[k]? = some s := ⟨_, List.getElem?_eq_getElem (Hn.out ▸ hlt)⟩
      obtain ⟨b, o, hidx, hcell⟩ := hs.at_ Hn.out 23 9 Tryz.underlying23 Tryz.sizeOf9 k s hx
      have Hx := Lib.hid hx; clear hx
      by_cases hr : s.size = 32
      · have hr' : decide (s.size = 32) = true := decide_eq_true hr
        have Hr := Lib.hid hr; clear hr
        have hlu : (ofL (xs.take k)).length ≤ 1000000 := by have := length_ofL (xs.take k); simp at this; omega
        go_wp2_with (first
          | (go_at_call 70; refine (right04 _ _).mono ?_; rintro e w' ⟨rfl, rfl⟩)
          | (go_at_call 79; refine (with04 _ _ _ _ hsu hlu).mono ?_; rintro e w' ⟨u', rfl, hsu', hf'⟩))
        go_roundw
        case rel => exact ⟨k + 1, by omega, by go_num, by rw [take_snoc Hx.out, ofL_snoc Hr.out]; exact hsu', hf.then hf'⟩
        case measure => simp [intOf]; omega
      · have hr' : decide (s.size = 32) = false := decide_eq_false hr
        have Hr := Lib.hid hr; clear hr
        go_wp2_with (first
          | (go_at_call 70; refine (right04 _ _).mono ?_; rintro e w' ⟨rfl, rfl⟩))
        go_roundw
        case rel => exact ⟨k + 1, by omega, by go_num, by rw [take_snoc Hx.out, ofL_snoc_no Hr.out]; exact hsu, hf⟩
        case measure => simp [intOf]; omega
    · go_wp2
      go_ret
      exact ⟨_, rfl, by rw [List.take_of_length_le (by have := Hn.out; omega)] at hsu; exact hsu, hf⟩

set_option maxHeartbeats 1000000 in
theorem less04 (v v2 : Value) (xs ys : List BS) (w : World) (hs : Strs w v xs) (hs2 : Strs w v2 ys) (hl : xs.length ≤ 1000000) :
    Calls Tryz.prog 52 #[v, v2] w fun e w' => ∃ u, e = .returned u ∧ Strs w' u (ofL (xs.filter fun x => decide (x ∉ ys))) ∧ Fr [] w w' := by
  obtain ⟨a, c, rfl, hc, hm, hn⟩ := hs.form
  obtain ⟨n, hnx⟩ : ∃ n, n = xs.length := ⟨_, rfl⟩
  rw [← hnx] at hs hc hn hl ⊢
  have Hn := Lib.hid hnx; clear hnx
  go_enter Tryz.func52, Tryz.ntmps52
  go_wp2
  go_loopw [5, 6] (fun u i wr => ∃ k : Nat, k ≤ n ∧ i = .int .i64 k ∧ wr.ownsRow w.heap.size 9 1 u ((xs.take k).filter fun x => decide (x ∉ ys)).length (((xs.take k).filter fun x => decide (x ∉ ys)).map .string) ∧ Fr [] w wr) (fun _ i _ => n - (intOf i).toNat)
  case atStart => exact ⟨0, Nat.zero_le _, rfl, World.ownsRow_nil _ _ _ _, .refl w⟩
  case round =>
    obtain ⟨k, hk, rfl, hsu, hf⟩ := hrel
    have hs := hs.fr hf
    have hs2 := hs2.fr hf
    have hlu : ((xs.take k).filter fun x => decide (x ∉ ys)).length ≤ 1000000 := by have := List.length_filter_le (fun x => decide (x ∉ ys)) (xs.take k); simp only [List.length_take] at this; omega
    by_cases hlt : k < n
    · obtain ⟨s, hx⟩ : ∃ s, xs[k]? = some s := ⟨_, List.getElem?_eq_getElem (Hn.out ▸ hlt)⟩
      obtain ⟨b, o, hidx, hcell⟩ := hs.at_ Hn.out 23 9 Tryz.underlying23 Tryz.sizeOf9 k s hx
      have hcell1 := ((Fr.refl wr).alloc (.cells #[.string s] 9)).cell hcell
      have Hx := Lib.hid hx; clear hx
      by_cases hr : s ∈ ys
      · have hr' : decide (s ∈ ys) = true := decide_eq_true hr
        have Hr := Lib.hid hr; clear hr
        go_wp2_with (first
          | (go_at_call 28; refine (has04 _ _ _ _ hs2).mono ?_; rintro e w' ⟨rfl, rfl⟩))
        go_roundw
        case rel => exact ⟨k + 1, by omega, by go_num, by rw [take_snoc Hx.out, List.filter_append]; simp only [List.filter_cons, Hr.out, not_true_eq_false, decide_false, Bool.false_eq_true, if_false, List.filter_nil, List.append_nil]; exact hsu, hf⟩
        case measure => simp [intOf]; omega
      · have hr' : decide (s ∈ ys) = false := decide_eq_false hr
        have Hr := Lib.hid hr; clear hr
        go_wp2_with (first
          | (go_at_call 28; refine (has04 _ _ _ _ hs2).mono ?_; rintro e w' ⟨rfl, rfl⟩)
          | (at_builtin; refine wpList_appS rfl _ _ rfl _ _ _ rfl (own_fr hsu ((Fr.refl _).alloc _)) _ _ rfl (strs_new _ s) (by simp only [List.length_cons, List.length_nil]; omega) (hf.alloc _).size ?_; intro v1 w1 hown1 hg1 hat1; have f1 := (hf.alloc (.cells #[.string s] 9)).grown hg1 (own_base0 hsu)))
        go_roundw
        case rel => exact ⟨k + 1, by omega, by go_num, by rw [take_snoc Hx.out, List.filter_append]; simp only [List.filter_cons, Hr.out, not_false_eq_true, decide_true, if_true, List.filter_nil]; exact hown1, f1⟩
        case measure => simp [intOf]; omega
    · have hsu' := Strs.of_own hsu (by omega)
      go_wp2_with (first
          | (go_at_call 43; refine (of04 _ _ _ hsu' hlu).mono ?_; rintro e w' ⟨u', rfl, hsu', hf'⟩))
      go_ret
      exact ⟨_, rfl, by rw [List.take_of_length_le (by have := Hn.out; omega)] at hsu'; exact hsu', hf.then hf'⟩

end Go.Proofs.YtoaebladjdnfjaaGreat
