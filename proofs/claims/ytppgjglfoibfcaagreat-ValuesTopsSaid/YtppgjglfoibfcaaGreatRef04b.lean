import Derived.Test.YtppgjglfoibfcaaGreatPure
import Derived.Test.YtppgjglfoibfcaaGreatLaws
import Derived.Deep.QuietTactic
import Derived.BigQuiet
/-
  What the references' functions on lists of IDs come to.
-/
set_option linter.unusedSimpArgs false
set_option linter.unusedVariables false
namespace Go.Proofs.YtppgjglfoibfcaaGreat
open Go.RowKit

theorem right04 (s : BS) (w : World) : Calls Tryz.prog 122 #[.string s] w fun e w' => e = .returned (.bool (decide (s.size = 32))) ∧ w = w' := by
  go_enter Tryz.func122, Tryz.ntmps122
  go_wp2
  go_ret
  refine ⟨ret_bool ?_, rfl⟩
  rw [Bool.eq_iff_iff]; simp; omega

set_option maxHeartbeats 400000 in
theorem has04 (v : Value) (xs : List BS) (id : BS) (w : World) (hs : Strs w v xs) :
    Calls Tryz.prog 55 #[v, .string id] w fun e w' => e = .returned (.bool (decide (id ∈ xs))) ∧ w = w' := by
  obtain ⟨a, c, rfl, hc, hm, hn⟩ := hs.form
  obtain ⟨n, hnx⟩ : ∃ n, n = xs.length := ⟨_, rfl⟩
  rw [← hnx] at hs hc hn ⊢
  have Hn := Lib.hid hnx; clear hnx
  go_enter Tryz.func55, Tryz.ntmps55
  go_wp2
  go_loop [5] (fun i => ∃ k : Nat, k ≤ n ∧ i = .int .i64 k ∧ id ∉ xs.take k) (fun i => n - (intOf i).toNat)
  case atStart => exact ⟨0, Nat.zero_le _, rfl, by simp⟩
  case round =>
    obtain ⟨k, hk, rfl, hno⟩ := hrel
    by_cases hlt : k < n
    · obtain ⟨s, hx⟩ : ∃ s, xs[k]? = some s := ⟨_, List.getElem?_eq_getElem (Hn.out ▸ hlt)⟩
      obtain ⟨b, o, hidx, hcell⟩ := hs.at_ Hn.out 51 9 Tryz.underlying51 Tryz.sizeOf9 k s hx
      have Hx := Lib.hid hx; clear hx
      by_cases hq : s = id
      · have hb := beq_tt hq
        have Hq := Lib.hid hq; clear hq
        go_wp2
        go_ret
        exact ⟨ret_bool (decide_eq_true (List.mem_of_mem_take ((mem_take_succ Hx.out).2 (.inr Hq.out.symm)))).symm, rfl⟩
      · have hb := beq_ff hq
        go_wp2
        go_round
        case rel => exact ⟨k + 1, by omega, by go_num, fun h => by rcases (mem_take_succ Hx.out).1 h with h | h; exact hno h; exact hq h.symm⟩
        case measure => simp [intOf]; omega
    · go_wp2
      go_ret
      exact ⟨ret_bool (decide_eq_false (by rwa [List.take_of_length_le (by have := Hn.out; omega)] at hno)).symm, rfl⟩

set_option maxHeartbeats 400000 in
theorem texts01 (v u : Value) (xs ys : List BS) (w : World) (hs : Strs w v xs) (hu : Strs w u ys) :
    Calls Tryz.prog 26 #[v, u] w fun e w' => e = .returned (.bool (decide (xs = ys))) ∧ Dr w w' := by
  obtain ⟨a, c, rfl, hc, hm, hn⟩ := hs.form
  obtain ⟨a', c', rfl, hc', hm', hn'⟩ := hu.form
  obtain ⟨n, hnx⟩ : ∃ n, n = xs.length := ⟨_, rfl⟩
  obtain ⟨m, hmx⟩ : ∃ n, n = ys.length := ⟨_, rfl⟩
  rw [← hnx] at hs hc hn ⊢
  rw [← hmx] at hu hc' hn' ⊢
  have Hn := Lib.hid hnx; clear hnx
  have Hm := Lib.hid hmx; clear hmx
  by_cases hnm : n = m
  · subst hnm
    go_enter Tryz.func26, Tryz.ntmps26
    go_wp2
    go_loopw [5] (fun i wr => ∃ k : Nat, k ≤ n ∧ i = .int .i64 k ∧ xs.take k = ys.take k ∧ Dr w wr) (fun i _ => n - (intOf i).toNat)
    case atStart => exact ⟨0, Nat.zero_le _, rfl, by simp, .refl w⟩
    case round =>
      obtain ⟨k, hk, rfl, hno, hd⟩ := hrel
      have hs := hs.fr hd.fr
      have hu := hu.fr hd.fr
      have Hno := Lib.hid hno; clear hno
      by_cases hlt : k < n
      · obtain ⟨s, hx⟩ : ∃ s, xs[k]? = some s := ⟨_, List.getElem?_eq_getElem (Hn.out ▸ hlt)⟩
        obtain ⟨r, hy⟩ : ∃ s, ys[k]? = some s := ⟨_, List.getElem?_eq_getElem (Hm.out ▸ hlt)⟩
        obtain ⟨b, o, hidx, hcell⟩ := hs.at_ Hn.out 51 9 Tryz.underlying51 Tryz.sizeOf9 k s hx
        obtain ⟨b', o', hidx', hcell'⟩ := hu.at_ Hm.out 51 9 Tryz.underlying51 Tryz.sizeOf9 k r hy
        have Hx := Lib.hid hx; clear hx
        have Hy := Lib.hid hy; clear hy
        by_cases hq : s = r
        · have hb := beq_tt hq
          have Hq := Lib.hid hq; clear hq
          go_wp2
          go_quiet (fail)
          go_wp2
          go_roundw
          case rel => exact ⟨k + 1, by omega, by go_num, by rw [take_snoc Hx.out, take_snoc Hy.out, Hno.out, Hq.out], hd.drewN _⟩
          case measure => simp [intOf]; omega
        · have hb := beq_ff hq
          go_wp2
          go_quiet (fail)
          go_wp2
          go_ret
          refine ⟨ret_bool (decide_eq_false ?_).symm, hd.drewN _⟩
          intro e
          have h1 := Hx.out; have h2 := Hy.out
          rw [e, h2] at h1
          exact hq (by injection h1 with h1; exact h1.symm)
      · go_wp2
        go_ret
        have h1 := Hno.out
        rw [List.take_of_length_le (by have := Hn.out; omega), List.take_of_length_le (by have := Hm.out; omega)] at h1
        exact ⟨ret_bool (decide_eq_true h1).symm, hd⟩
  · have hne : ((n : Int) == (m : Int)) = false := by rw [beq_eq_false_iff_ne]; omega
    have hne' : ((n : Int) != (m : Int)) = true := by rw [bne_iff_ne]; omega
    go_enter Tryz.func26, Tryz.ntmps26
    go_wp2
    go_ret
    exact ⟨ret_bool (decide_eq_false (fun e => hnm (by rw [Hn.out, Hm.out, e]))).symm, .refl w⟩

theorem rising_take_succ {xs : List BS} {k : Nat} {x : BS} (hx : xs[k]? = some x) (h : Rising (xs.take k)) (h1 : x.size = 32) (h2 : ∀ y, 0 < k → xs[k - 1]? = some y → BLt y x) : Rising (xs.take (k + 1)) := by
  rw [take_snoc hx]
  refine ⟨fun y hy => ?_, List.pairwise_append.2 ⟨h.2, by simp, fun y hy z hz => ?_⟩⟩
  · rcases List.mem_append.1 hy with hy | hy
    · exact h.1 y hy
    · simp at hy; subst hy; exact h1
  · simp at hz; subst hz
    obtain ⟨i, hi, rfl⟩ := List.mem_iff_getElem.1 hy
    have hik : i < k := by simp at hi; omega
    have hlen : k < xs.length := lt_of_getElem? hx
    have hl : xs[k - 1]? = some (xs[k - 1]'(by omega)) := List.getElem?_eq_getElem _
    have h3 := h2 _ (by omega) hl
    by_cases hik' : i = k - 1
    · subst hik'; simpa using h3
    · refine blt_trans ?_ h3
      have := List.pairwise_iff_getElem.1 h.2 i (k - 1) hi (by simp; omega) (by omega)
      simpa using this

set_option maxHeartbeats 1000000 in
theorem rising04 (v : Value) (xs : List BS) (w : World) (hs : Strs w v xs) :
    Calls Tryz.prog 123 #[v] w fun e w' => e = .returned (.bool (decide (Rising xs))) ∧ Dr w w' := by
  obtain ⟨a, c, rfl, hc, hm, hn⟩ := hs.form
  obtain ⟨n, hnx⟩ : ∃ n, n = xs.length := ⟨_, rfl⟩
  rw [← hnx] at hs hc hn ⊢
  have Hn := Lib.hid hnx; clear hnx
  go_enter Tryz.func123, Tryz.ntmps123
  go_wp2
  go_loopw [3] (fun i wr => ∃ k : Nat, k ≤ n ∧ i = .int .i64 k ∧ Rising (xs.take k) ∧ Dr w wr) (fun i _ => n - (intOf i).toNat)
  case atStart => exact ⟨0, Nat.zero_le _, rfl, by simp [Rising], .refl w⟩
  case round =>
    obtain ⟨k, hk, rfl, hno, hd⟩ := hrel
    have hs := hs.fr hd.fr
    have Hno := Lib.hid hno; clear hno
    by_cases hlt : k < n
    · obtain ⟨s, hx⟩ : ∃ s, xs[k]? = some s := ⟨_, List.getElem?_eq_getElem (Hn.out ▸ hlt)⟩
      obtain ⟨b, o, hidx, hcell⟩ := hs.at_ Hn.out 51 9 Tryz.underlying51 Tryz.sizeOf9 k s hx
      have Hx := Lib.hid hx; clear hx
      by_cases hr : s.size = 32
      · have hr' : decide (s.size = 32) = true := decide_eq_true hr
        have Hr := Lib.hid hr; clear hr
        by_cases h0 : k = 0
        · have hg : decide ((0 : Int) < (k : Int)) = false := by simp; omega
          have hg2 : decide (0 < k) = false := by simp; omega
          have H0 := Lib.hid h0; clear h0
          go_wp2
          go_quiet ((go_at_call 122; exact quiet_same (right04 _ _)))
          go_wp2
          go_roundw
          case rel => exact ⟨k + 1, by omega, by go_num, rising_take_succ Hx.out Hno.out Hr.out (fun y h => by have := H0.out; omega), hd.drewN _⟩
          case measure => simp [intOf]; omega
        · have hk1 : 0 < k := by omega
          have hg : decide ((0 : Int) < (k : Int)) = true := by simp; omega
          have hg2 : decide (0 < k) = true := by simp; omega
          obtain ⟨r, hy⟩ : ∃ s, xs[k - 1]? = some s := ⟨_, List.getElem?_eq_getElem (by have := Hn.out; omega)⟩
          obtain ⟨b', o', hidx0, hcell'⟩ := hs.at_ Hn.out 51 9 Tryz.underlying51 Tryz.sizeOf9 (k - 1) r hy
          have hidx' : ∀ W, (Instr.indexAt 51 (.slice a n c) (.int .i64 ((k : Int) - 1))).run Tryz.prog W = .ok (.pointer (some ⟨b', o', none⟩)) W := by
            have e : ((k : Int) - 1) = ((k - 1 : Nat) : Int) := by omega
            rw [e]; exact hidx0
          clear hidx0
          have hw : IntKind.i64.wrap ((k : Int) - 1) = (k : Int) - 1 := IntWalk.i64_in _ (by omega)
          have Hy := Lib.hid hy; clear hy h0
          by_cases hq : BLt r s
          · have hb := less_tt hq
            have Hq := Lib.hid hq; clear hq
            go_wp2
            go_quiet ((go_at_call 122; exact quiet_same (right04 _ _)))
            go_wp2
            go_roundw
            case rel => exact ⟨k + 1, by omega, by go_num, rising_take_succ Hx.out Hno.out Hr.out (fun y _ h => by have h1 := Hy.out; rw [h] at h1; injection h1 with h1; rw [h1]; exact Hq.out), hd.drewN _⟩
            case measure => simp [intOf]; omega
          · have hb := less_ff hq
            have Hq := Lib.hid hq; clear hq
            go_wp2
            go_quiet ((go_at_call 122; exact quiet_same (right04 _ _)))
            go_wp2
            go_ret
            refine ⟨ret_bool (decide_eq_false ?_).symm, hd.drewN _⟩
            intro hR
            have h1 := List.getElem?_eq_some_iff.1 Hy.out
            have h2 := List.getElem?_eq_some_iff.1 Hx.out
            have := List.pairwise_iff_getElem.1 hR.2 (k - 1) k h1.1 h2.1 (by omega)
            rw [h1.2, h2.2] at this
            exact Hq.out this
      · have hr' : decide (s.size = 32) = false := decide_eq_false hr
        have Hr := Lib.hid hr; clear hr
        go_wp2
        go_quiet ((go_at_call 122; exact quiet_same (right04 _ _)))
        go_wp2
        go_ret
        exact ⟨ret_bool (decide_eq_false (fun hR => Hr.out (hR.1 s (List.mem_of_getElem? Hx.out)))).symm, hd.drewN _⟩
    · go_wp2
      go_ret
      have h1 := Hno.out
      rw [List.take_of_length_le (by have := Hn.out; omega)] at h1
      exact ⟨ret_bool (decide_eq_true h1).symm, hd⟩

end Go.Proofs.YtppgjglfoibfcaaGreat

/-
  Lists that the references make.
-/
set_option linter.unusedSimpArgs false
set_option linter.unusedVariables false
namespace Go.Proofs.YtppgjglfoibfcaaGreat
open Go.RowKit

theorem infoStr : (Tryz.prog.info? 9).map (fun i => (i.zero, i.size, i.bytes)) = some (some (.string ⟨#[]⟩), 1, 16) := by kernel_rfl

/-- append of texts onto a row of the call's own. -/
theorem wpList_appS {w : World} {ops : Array Oper} {rest : List Oper} {o : Oper} {a : Act} {Q : Exit → Act → World → Prop} (hgd : o.guard = none) (s x : Operand)
    (ho : o.op = .call { callee := .builtin .append, args := #[s, x], argTypes := #[51, 51] })
    (base : Nat) (v : Value) (xs : List BS) (hs : a.eval s = v) (hown : w.ownsRow base 9 1 v xs.length (xs.map .string))
    (xv : Value) (ys : List BS) (hx : a.eval x = xv) (hsl : Strs w xv ys)
    (hbytes : xs.length + ys.length ≤ 8796093022208) (hbase : base ≤ w.heap.size)
    (h : ∀ v' w', w'.ownsRow base 9 1 v' (xs ++ ys).length ((xs ++ ys).map .string) → w.grownBy w' v.ownBlock → (v'.ownBlock = v.ownBlock ∨ v'.ownBlock = some w.heap.size) → wpList Tryz.prog ops Q rest (a.put o.dst v') w') :
    wpList Tryz.prog ops Q (o :: rest) a w :=
  wpList_app hgd s x 51 ho 9 (.string ⟨#[]⟩) 1 16 Tryz.underlying51 infoStr rfl (by decide) (by decide) v base xs.length _ hs hown xv ys.length _ hx hsl (strs_oneCell ys) (by omega) hbase
    (fun v' w' h1 h2 h3 => h v' w' (by rw [List.length_append, List.map_append]; exact h1) h2 h3)

theorem strs_new (w : World) (x : BS) : Strs (w.alloc (.cells #[.string x] 9)) (.slice (some ⟨w.heap.size, 0, none⟩) 1 1) [x] := Sl.new w #[.string x] 9 1 1 rfl (by omega)
theorem own_empty (w : World) : (w.alloc (.cells #[] 9)).ownsRow w.heap.size 9 1 (.slice (some ⟨w.heap.size, 0, none⟩) 0 0) ([] : List BS).length (([] : List BS).map .string) := own_new w #[] 9 1 0 rfl (by decide)

set_option maxHeartbeats 1000000 in
theorem with04 (v : Value) (xs : List BS) (id : BS) (w : World) (hs : Strs w v xs) (hl : xs.length ≤ 1000000) :
    Calls Tryz.prog 210 #[v, .string id] w fun e w' => ∃ u, e = .returned u ∧ Strs w' u (withL xs id) ∧ Fr [] w w' := by
  obtain ⟨a, c, rfl, hc, hm, hn⟩ := hs.form
  obtain ⟨n, hnx⟩ : ∃ n, n = xs.length := ⟨_, rfl⟩
  rw [← hnx] at hs hc hn hl ⊢
  have Hn := Lib.hid hnx; clear hnx
  go_enter Tryz.func210, Tryz.ntmps210
  go_wp2
  go_loop [5] (fun i => ∃ k : Nat, k ≤ n ∧ i = .int .i64 k ∧ ∀ y ∈ xs.take k, BLt y id) (fun i => n - (intOf i).toNat)
  case atStart => exact ⟨0, Nat.zero_le _, rfl, by simp⟩
  case round =>
    obtain ⟨k, hk, rfl, hno⟩ := hrel
    have Hno := Lib.hid hno; clear hno
    obtain ⟨a1, hs1, _, hr1, _⟩ := hs.cut Hn.out 51 9 Tryz.underlying51 Tryz.sizeOf9 0 k (Nat.zero_le _) hk
    have hr1 := hr1 rfl
    obtain ⟨a2, hs2, _, _, hr2⟩ := hs.cut Hn.out 51 9 Tryz.underlying51 Tryz.sizeOf9 k n hk (Nat.le_refl _)
    have hr2 := hr2 rfl
    simp only [Nat.sub_zero, List.drop_zero] at hs1 hr1
    have fin : (∀ y, xs[k]? = some y → BLt id y) → (xs.take k ++ [id]) ++ (xs.drop k).take (n - k) = withL xs id := by
      intro h
      rw [withL_split Hno.out h, List.take_of_length_le (l := xs.drop k) (by have := Hn.out; simp; omega)]
    have Fin := Lib.hid fin; clear fin
    by_cases hlt : k < n
    · obtain ⟨s, hx⟩ : ∃ s, xs[k]? = some s := ⟨_, List.getElem?_eq_getElem (Hn.out ▸ hlt)⟩
      obtain ⟨b, o, hidx, hcell⟩ := hs.at_ Hn.out 51 9 Tryz.underlying51 Tryz.sizeOf9 k s hx
      have Hx := Lib.hid hx; clear hx
      by_cases hq : BLt s id
      · have hb := less_tt hq
        have Hq := Lib.hid hq; clear hq
        clear hr1 hr2
        go_wp2
        go_round
        case rel => exact ⟨k + 1, by omega, by go_num, fun y hy => by rcases (mem_take_succ Hx.out).1 hy with h | h; exact Hno.out y h; subst h; exact Hq.out⟩
        case measure => simp [intOf]; omega
      · have hb := less_ff hq
        have Hq := Lib.hid hq; clear hq
        by_cases he : s = id
        · have hb2 := beq_tt he
          have He := Lib.hid he; clear he
          clear hr1 hr2
          go_wp2
          go_ret
          exact ⟨_, rfl, by rw [withL_same Hno.out (He.out ▸ Hx.out)]; exact Hn.out ▸ hs, .refl w⟩
        · have hb2 := beq_ff he
          have He := Lib.hid he; clear he
          have lk : (xs.take k).length ≤ 1000000 := by have := Hn.out; simp; omega
          have ld : ((xs.drop k).take (n - k)).length ≤ 1000000 := by have := Hn.out; simp; omega
          have f0 := (Fr.refl w).alloc (.cells #[] 9)
          go_wp2_with (first
            | (at_builtin; refine wpList_appS rfl (.tmp 34) (.tmp 37) rfl _ _ [] rfl (own_empty w) _ _ rfl (hs1.fr f0) (by simp; omega) (by simp) ?_; intro v1 w1 hown1 hg1 hat1; have f1 := f0.grown hg1 (fun j hj => by cases hj; exact Nat.le_refl _); have f2 := f1.alloc (.cells #[.string id] 9))
            | (at_builtin; refine wpList_appS rfl (.tmp 39) (.tmp 41) rfl _ _ _ rfl (own_fr hown1 ((Fr.refl w1).alloc _)) _ _ rfl (strs_new w1 id) (by simp; omega) (f2.size) ?_; intro v2 w2 hown2 hg2 hat2; have f3 := f2.grown hg2 (own_base0 hown1))
            | (at_builtin; refine wpList_appS rfl (.tmp 43) (.tmp 46) rfl _ _ _ rfl hown2 _ _ rfl (hs2.fr f3) (by simp; omega) (f3.size) ?_; intro v3 w3 hown3 hg3 hat3; have f4 := f3.grown hg3 (own_base0 hown2)))
          go_ret
          refine ⟨_, rfl, ?_, f4⟩
          have h := Strs.of_own hown3 (by simp; omega)
          rw [List.nil_append, Fin.out (fun y hy => by have h1 := Hx.out; rw [hy] at h1; injection h1 with h1; subst h1; rcases blt_total id y with h | h | h; exact h; exact absurd h.symm He.out; exact absurd h Hq.out)] at h
          exact h
    · have lk : (xs.take k).length ≤ 1000000 := by have := Hn.out; simp; omega
      have ld : ((xs.drop k).take (n - k)).length ≤ 1000000 := by have := Hn.out; simp; omega
      have f0 := (Fr.refl w).alloc (.cells #[] 9)
      go_wp2_with (first
        | (at_builtin; refine wpList_appS rfl (.tmp 34) (.tmp 37) rfl _ _ [] rfl (own_empty w) _ _ rfl (hs1.fr f0) (by simp; omega) (by simp) ?_; intro v1 w1 hown1 hg1 hat1; have f1 := f0.grown hg1 (fun j hj => by cases hj; exact Nat.le_refl _); have f2 := f1.alloc (.cells #[.string id] 9))
        | (at_builtin; refine wpList_appS rfl (.tmp 39) (.tmp 41) rfl _ _ _ rfl (own_fr hown1 ((Fr.refl w1).alloc _)) _ _ rfl (strs_new w1 id) (by simp; omega) (f2.size) ?_; intro v2 w2 hown2 hg2 hat2; have f3 := f2.grown hg2 (own_base0 hown1))
        | (at_builtin; refine wpList_appS rfl (.tmp 43) (.tmp 46) rfl _ _ _ rfl hown2 _ _ rfl (hs2.fr f3) (by simp; omega) (f3.size) ?_; intro v3 w3 hown3 hg3 hat3; have f4 := f3.grown hg3 (own_base0 hown2)))
      go_ret
      refine ⟨_, rfl, ?_, f4⟩
      have h := Strs.of_own hown3 (by simp; omega)
      rw [List.nil_append, Fin.out (fun y hy => by have h1 := lt_of_getElem? hy; have := Hn.out; omega)] at h
      exact h

set_option maxHeartbeats 1000000 in
theorem of04 (v : Value) (xs : List BS) (w : World) (hs : Strs w v xs) (hl : xs.length ≤ 1000000) :
    Calls Tryz.prog 138 #[v] w fun e w' => ∃ u, e = .returned u ∧ Strs w' u (ofL xs) ∧ Fr [] w w' := by
  obtain ⟨a, c, rfl, hc, hm, hn⟩ := hs.form
  obtain ⟨n, hnx⟩ : ∃ n, n = xs.length := ⟨_, rfl⟩
  rw [← hnx] at hs hc hn hl ⊢
  have Hn := Lib.hid hnx; clear hnx
  go_enter Tryz.func138, Tryz.ntmps138
  go_wp2
  go_loopw [3, 4] (fun u i wr => ∃ k : Nat, k ≤ n ∧ i = .int .i64 k ∧ Strs wr u (ofL (xs.take k)) ∧ Fr [] w wr) (fun _ i _ => n - (intOf i).toNat)
  case atStart => exact ⟨0, Nat.zero_le _, rfl, Strs.nil w, .refl w⟩
  case round =>
    obtain ⟨k, hk, rfl, hsu, hf⟩ := hrel
    have hs := hs.fr hf
    by_cases hlt : k < n
    · obtain ⟨s, hx⟩ : ∃ s, xs[k]? = some s := ⟨_, List.getElem?_eq_getElem (Hn.out ▸ hlt)⟩
      obtain ⟨b, o, hidx, hcell⟩ := hs.at_ Hn.out 51 9 Tryz.underlying51 Tryz.sizeOf9 k s hx
      have Hx := Lib.hid hx; clear hx
      by_cases hr : s.size = 32
      · have hr' : decide (s.size = 32) = true := decide_eq_true hr
        have Hr := Lib.hid hr; clear hr
        have hlu : (ofL (xs.take k)).length ≤ 1000000 := by have := length_ofL (xs.take k); simp at this; omega
        go_wp2_with (first
          | (go_at_call 122; refine (right04 _ _).mono ?_; rintro e w' ⟨rfl, rfl⟩)
          | (go_at_call 210; refine (with04 _ _ _ _ hsu hlu).mono ?_; rintro e w' ⟨u', rfl, hsu', hf'⟩))
        go_roundw
        case rel => exact ⟨k + 1, by omega, by go_num, by rw [take_snoc Hx.out, ofL_snoc Hr.out]; exact hsu', hf.then hf'⟩
        case measure => simp [intOf]; omega
      · have hr' : decide (s.size = 32) = false := decide_eq_false hr
        have Hr := Lib.hid hr; clear hr
        go_wp2_with (first
          | (go_at_call 122; refine (right04 _ _).mono ?_; rintro e w' ⟨rfl, rfl⟩))
        go_roundw
        case rel => exact ⟨k + 1, by omega, by go_num, by rw [take_snoc Hx.out, ofL_snoc_no Hr.out]; exact hsu, hf⟩
        case measure => simp [intOf]; omega
    · go_wp2
      go_ret
      exact ⟨_, rfl, by rw [List.take_of_length_le (by have := Hn.out; omega)] at hsu; exact hsu, hf⟩


end Go.Proofs.YtppgjglfoibfcaaGreat
