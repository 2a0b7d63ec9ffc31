import Derived.Test.YtppgjglfoibfcaaGreatDagAdd
import Derived.Test.YtppgjglfoibfcaaGreatKeys
set_option linter.unusedSimpArgs false
set_option linter.unusedVariables false
/-
  Heads, Clone.
-/
namespace Go.Proofs.YtppgjglfoibfcaaGreat
open Go.RowKit

theorem sorted_heads (g : G) : (heads g).Pairwise BLt := sorted_ofL _

set_option maxRecDepth 100000 in
theorem heads34 (v : Value) (g : G) (w : World) (hd : DagR w v g) (hw : Wf g) (hl : g.length ≤ 1000000) :
    Calls Tryz.prog 62 #[v] w fun e w' => ∃ u, e = .returned u ∧ Strs w' u (heads g) ∧ Fr [] w w' := by
  rcases hd with ⟨rfl, rfl⟩ | ⟨mN, mH, bD, lN, lH, rfl, h⟩
  · go_enter Tryz.func62, Tryz.ntmps62
    go_wp2
    go_ret
    exact ⟨_, rfl, Strs.nil _, .refl _⟩
  · have c0 := h.c1
    have hkey : ∀ x ∈ keysL lH, x ∈ ids g := fun x hx => ((mem_heads hw x).1 ((h.keysH x).1 hx)).1
    have hlen : lH.length ≤ 1000000 := by
      have := nodup_len (keysL lH) (ids g) h.mapH.nodup hkey
      rw [length_ids] at this
      simp [keysL] at this; omega
    have cS := sorted45 mH lH w h.mapH (fun x hx => by rw [hw.right (hkey x hx)]; omega) hlen
    have cK := keys46 mH w
    have hiff := h.keysH
    clear hkey hlen h
    have H := Lib.hid hiff; clear hiff
    go_enter Tryz.func62, Tryz.ntmps62
    go_wp2_with (first
      | (go_at_call 149; refine cK.mono ?_; rintro e w' ⟨rfl, rfl⟩)
      | (go_at_call 148; refine cS.mono ?_; rintro e w' ⟨u, xs, rfl, hs, hx, hm, hf⟩))
    go_ret
    have : xs = heads g := sorted_ext hx (sorted_heads g) fun x => (hm x).trans (H.out x)
    subst this
    exact ⟨_, rfl, hs, ((Fr.refl w).alloc _).then hf⟩

end Go.Proofs.YtppgjglfoibfcaaGreat

set_option linter.unusedSimpArgs false
set_option linter.unusedVariables false
/-
  Package cmp, and what Order sorts by.
-/
namespace Go.Proofs.YtppgjglfoibfcaaGreat
open Go.RowKit

set_option maxRecDepth 100000 in
theorem nan72 (a : Int) (w : World) : Calls Tryz.prog 278 #[.int .i64 a] w fun e w' => e = .returned (.bool false) ∧ w = w' := by
  go_enter Tryz.func278, Tryz.ntmps278
  go_wp2
  go_ret
  exact ⟨ret_bool (by simp), rfl⟩
set_option maxRecDepth 100000 in
theorem nan73 (a : BS) (w : World) : Calls Tryz.prog 162 #[.string a] w fun e w' => e = .returned (.bool false) ∧ w = w' := by
  have hb := beq_tt (rfl : a = a)
  go_enter Tryz.func162, Tryz.ntmps162
  go_wp2
  go_ret
  exact ⟨ret_bool (by simp), rfl⟩

def cmpI (a b : Int) : Int := if a < b then -1 else if b < a then 1 else 0
def cmpS (a b : BS) : Int := if BLt a b then -1 else if BLt b a then 1 else 0

set_option maxRecDepth 100000 in
theorem compare54 (a b : Int) (w : World) : Calls Tryz.prog 216 #[.int .i64 a, .int .i64 b] w fun e w' => e = .returned (.int .i64 (cmpI a b)) ∧ w = w' := by
  by_cases h1 : a < b
  · have e : cmpI a b = -1 := by simp [cmpI, h1]
    rw [e]
    have hd : decide (a < b) = true := decide_eq_true h1
    clear e
    go_enter Tryz.func216, Tryz.ntmps216
    go_wp2_with (go_at_call 278; refine (nan72 _ _).mono ?_; rintro e w' ⟨rfl, rfl⟩)
    go_ret
    exact ⟨rfl, rfl⟩
  · have hd : decide (a < b) = false := decide_eq_false h1
    by_cases h2 : b < a
    · have e : cmpI a b = 1 := by simp [cmpI, h1, h2]
      rw [e]
      have hd2 : decide (b < a) = true := decide_eq_true h2
      clear e
      go_enter Tryz.func216, Tryz.ntmps216
      go_wp2_with (go_at_call 278; refine (nan72 _ _).mono ?_; rintro e w' ⟨rfl, rfl⟩)
      go_ret
      exact ⟨rfl, rfl⟩
    · have e : cmpI a b = 0 := by simp [cmpI, h1, h2]
      rw [e]
      have hd2 : decide (b < a) = false := decide_eq_false h2
      clear e
      go_enter Tryz.func216, Tryz.ntmps216
      go_wp2_with (go_at_call 278; refine (nan72 _ _).mono ?_; rintro e w' ⟨rfl, rfl⟩)
      go_ret
      exact ⟨rfl, rfl⟩

set_option maxRecDepth 100000 in
theorem compare55 (a b : BS) (w : World) : Calls Tryz.prog 78 #[.string a, .string b] w fun e w' => e = .returned (.int .i64 (cmpS a b)) ∧ w = w' := by
  by_cases h1 : BLt a b
  · have e : cmpS a b = -1 := by simp [cmpS, h1]
    rw [e]
    have hd := less_tt h1
    clear e
    go_enter Tryz.func78, Tryz.ntmps78
    go_wp2_with (go_at_call 162; refine (nan73 _ _).mono ?_; rintro e w' ⟨rfl, rfl⟩)
    go_ret
    exact ⟨rfl, rfl⟩
  · have hd := less_ff h1
    by_cases h2 : BLt b a
    · have e : cmpS a b = 1 := by simp [cmpS, h1, h2]
      rw [e]
      have hd2 : (a.toList == b.toList) = false := beq_ff (fun e => by subst e; exact blt_irrefl _ h2)
      clear e
      go_enter Tryz.func78, Tryz.ntmps78
      go_wp2_with (go_at_call 162; refine (nan73 _ _).mono ?_; rintro e w' ⟨rfl, rfl⟩)
      go_ret
      exact ⟨rfl, rfl⟩
    · have e : cmpS a b = 0 := by simp [cmpS, h1, h2]
      rw [e]
      have hd2 : (a.toList == b.toList) = true := beq_tt ((blt_total a b).elim (fun h => absurd h h1) fun h => h.elim _root_.id fun h => absurd h h2)
      clear e
      go_enter Tryz.func78, Tryz.ntmps78
      go_wp2_with (go_at_call 162; refine (nan73 _ _).mono ?_; rintro e w' ⟨rfl, rfl⟩)
      go_ret
      exact ⟨rfl, rfl⟩

set_option maxRecDepth 100000 in
set_option maxHeartbeats 1000000 in
/-- cmp.Or of two. -/
theorem or53 (a b : Int) (k : Nat) (w : World) (h0 : w.cell? ⟨k, 0, none⟩ = some (.int .i64 a)) (h1 : w.cell? ⟨k, 1, none⟩ = some (.int .i64 b)) :
    Calls Tryz.prog 82 #[.slice (some ⟨k, 0, none⟩) 2 2] w fun e w' => e = .returned (.int .i64 (if a = 0 then b else a)) ∧ w = w' := by
  have hs : Ints w (.slice (some ⟨k, 0, none⟩) 2 2) [a, b] := by
    have : Sl w (.slice (some ⟨k, 0, none⟩) 2 2) 2 1 [.int .i64 a, .int .i64 b] := ⟨rfl, by omega, some ⟨k, 0, none⟩, 2, rfl, by omega, by decide, fun h => (by cases h), fun _ => ⟨k, 0, rfl, fun i x hx => by
      have hlt := lt_of_getElem? hx
      match i, hx, hlt with
      | 0, hx, _ => simp at hx; subst hx; exact h0
      | 1, hx, _ => simp at hx; subst hx; exact h1
      | n + 2, _, h => simp at h; omega⟩⟩
    exact this
  go_enter Tryz.func82, Tryz.ntmps82
  go_wp2
  go_loopw [8] (fun i wr => w = wr ∧ (i = .int .i64 0 ∨ (i = .int .i64 1 ∧ a = 0) ∨ (i = .int .i64 2 ∧ a = 0 ∧ b = 0))) (fun i _ => 2 - (intOf i).toNat)
  case atStart => exact ⟨rfl, .inl rfl⟩
  case round =>
    obtain ⟨rfl, rfl | ⟨rfl, rfl⟩ | ⟨rfl, rfl, rfl⟩⟩ := hrel
    · obtain ⟨b1, o1, hidx, hcell⟩ := hs.at_ rfl 247 3 Tryz.underlying247 Tryz.sizeOf3 0 a rfl
      by_cases ha : a = 0
      · subst ha
        go_wp2
        go_roundw
        case rel => simp
        case measure => simp [intOf]
      · have hd : (a == 0) = false := by simpa using ha
        go_wp2
        go_ret
        exact ⟨rfl, rfl⟩
    · obtain ⟨b1, o1, hidx, hcell⟩ := hs.at_ rfl 247 3 Tryz.underlying247 Tryz.sizeOf3 1 b rfl
      by_cases ha : b = 0
      · subst ha
        go_wp2
        go_roundw
        case rel => simp
        case measure => simp [intOf]
      · have hd : (b == 0) = false := by simpa using ha
        go_wp2
        go_ret
        exact ⟨rfl, rfl⟩
    · go_wp2
      go_ret
      exact ⟨rfl, rfl⟩
end Go.Proofs.YtppgjglfoibfcaaGreat
