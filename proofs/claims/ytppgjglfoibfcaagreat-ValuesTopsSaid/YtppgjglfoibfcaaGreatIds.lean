import Derived.Test.YtppgjglfoibfcaaGreatRef04b
set_option linter.unusedSimpArgs false
set_option linter.unusedVariables false
/-
  Package ids.
-/
namespace Go.Proofs.YtppgjglfoibfcaaGreat
open Go.RowKit

set_option maxRecDepth 100000 in
theorem right58 (s : BS) (w : World) : Calls Tryz.prog 156 #[.string s] w fun e w' => e = .returned (.bool (decide (s.size = 32))) ∧ w = w' := by
  go_enter Tryz.func156, Tryz.ntmps156
  go_wp2
  go_ret
  refine ⟨ret_bool ?_, rfl⟩
  rw [Bool.eq_iff_iff]; simp; omega

set_option maxHeartbeats 1000000 in
set_option maxRecDepth 100000 in
theorem rising59 (v : Value) (xs : List BS) (w : World) (hs : Strs w v xs) :
    Calls Tryz.prog 181 #[v] w fun e w' => e = .returned (.bool (decide (Rising xs))) ∧ Dr w w' := by
  obtain ⟨a, c, rfl, hc, hm, hn⟩ := hs.form
  obtain ⟨n, hnx⟩ : ∃ n, n = xs.length := ⟨_, rfl⟩
  rw [← hnx] at hs hc hn ⊢
  have Hn := Lib.hid hnx; clear hnx
  go_enter Tryz.func181, Tryz.ntmps181
  go_wp2
  go_loopw [7] (fun i wr => ∃ k : Nat, k ≤ n ∧ i = .int .i64 k ∧ Rising (xs.take k) ∧ Dr w wr) (fun i _ => n - (intOf i).toNat)
  case atStart => exact ⟨0, Nat.zero_le _, rfl, by simp [Rising], .refl w⟩
  case round =>
    obtain ⟨k, hk, rfl, hno, hd⟩ := hrel
    have hs := hs.fr hd.fr
    have Hno := Lib.hid hno; clear hno
    by_cases hlt : k < n
    · obtain ⟨s, hx⟩ : ∃ s, xs[k]? = some s := ⟨_, List.getElem?_eq_getElem (Hn.out ▸ hlt)⟩
      obtain ⟨b, o, hidx, hcell⟩ := hs.at_ Hn.out 51 9 Tryz.underlying51 Tryz.sizeOf9 k s hx
      have Hx := Lib.hid hx; clear hx
      by_cases hr : s.size = 32
      · have hr' : decide (s.size = 32) = true := decide_eq_true hr
        have Hr := Lib.hid hr; clear hr
        by_cases h0 : k = 0
        · have hg : decide ((0 : Int) < (k : Int)) = false := by simp; omega
          have hg2 : decide (0 < k) = false := by simp; omega
          have H0 := Lib.hid h0; clear h0
          go_wp2_with (go_at_call 156; refine (right58 _ _).mono ?_; rintro e w' ⟨rfl, rfl⟩)
          go_roundw
          case rel => exact ⟨k + 1, by omega, by go_num, rising_take_succ Hx.out Hno.out Hr.out (fun y h => by have := H0.out; omega), hd⟩
          case measure => simp [intOf]; omega
        · have hk1 : 0 < k := by omega
          have hg : decide ((0 : Int) < (k : Int)) = true := by simp; omega
          have hg2 : decide (0 < k) = true := by simp; omega
          obtain ⟨r, hy⟩ : ∃ s, xs[k - 1]? = some s := ⟨_, List.getElem?_eq_getElem (by have := Hn.out; omega)⟩
          obtain ⟨b', o', hidx0, hcell'⟩ := hs.at_ Hn.out 51 9 Tryz.underlying51 Tryz.sizeOf9 (k - 1) r hy
          have hidx' : ∀ W, (Instr.indexAt 51 (.slice a n c) (.int .i64 ((k : Int) - 1))).run Tryz.prog W = .ok (.pointer (some ⟨b', o', none⟩)) W := by
            have e : ((k : Int) - 1) = ((k - 1 : Nat) : Int) := by omega
            rw [e]; exact hidx0
          clear hidx0
          have hw : IntKind.i64.wrap ((k : Int) - 1) = (k : Int) - 1 := IntWalk.i64_in _ (by omega)
          have Hy := Lib.hid hy; clear hy h0
          by_cases hq : BLt r s
          · have hb := less_tt hq
            have Hq := Lib.hid hq; clear hq
            go_wp2_with (go_at_call 156; refine (right58 _ _).mono ?_; rintro e w' ⟨rfl, rfl⟩)
            go_roundw
            case rel => exact ⟨k + 1, by omega, by go_num, rising_take_succ Hx.out Hno.out Hr.out (fun y _ h => by have h1 := Hy.out; rw [h] at h1; injection h1 with h1; rw [h1]; exact Hq.out), hd⟩
            case measure => simp [intOf]; omega
          · have hb := less_ff hq
            have Hq := Lib.hid hq; clear hq
            go_wp2_with (go_at_call 156; refine (right58 _ _).mono ?_; rintro e w' ⟨rfl, rfl⟩)
            go_ret
            refine ⟨ret_bool (decide_eq_false ?_).symm, hd⟩
            intro hR
            have h1 := List.getElem?_eq_some_iff.1 Hy.out
            have h2 := List.getElem?_eq_some_iff.1 Hx.out
            have := List.pairwise_iff_getElem.1 hR.2 (k - 1) k h1.1 h2.1 (by omega)
            rw [h1.2, h2.2] at this
            exact Hq.out this
      · have hr' : decide (s.size = 32) = false := decide_eq_false hr
        have Hr := Lib.hid hr; clear hr
        go_wp2_with (go_at_call 156; refine (right58 _ _).mono ?_; rintro e w' ⟨rfl, rfl⟩)
        go_ret
        exact ⟨ret_bool (decide_eq_false (fun hR => Hr.out (hR.1 s (List.mem_of_getElem? Hx.out)))).symm, hd⟩
    · go_wp2
      go_ret
      have h1 := Hno.out
      rw [List.take_of_length_le (by have := Hn.out; omega)] at h1
      exact ⟨ret_bool (decide_eq_true h1).symm, hd⟩

end Go.Proofs.YtppgjglfoibfcaaGreat
