import Derived.Test.YtppgjglfoibfcaaGreatCmp
import Derived.Laws.EntriesVeiled
set_option linter.unusedSimpArgs false
set_option linter.unusedVariables false
/-
  Past.
-/
namespace Go.Proofs.YtppgjglfoibfcaaGreat
open Go.RowKit

/-- A map that marks. -/
def Marks (l : Ents) : Prop := ∀ x ∈ keysL l, lk l x = some (.int .i64 1)
theorem Marks.nil : Marks [] := fun x h => by simp [keysL] at h
theorem Marks.up {l : Ents} (h : Marks l) (x : BS) : Marks (up l x (.int .i64 1)) := fun y hy => by
  rw [lk_up]
  split
  · rfl
  · rename_i hn; exact h y (((keys_up _ _ _ _).1 hy).resolve_left hn)
theorem Marks.get {l : Ents} (h : Marks l) (x : BS) : (lk l x).getD (.int .i64 0) = .int .i64 (if x ∈ keysL l then 1 else 0) := by
  by_cases hx : x ∈ keysL l
  · rw [h x hx, if_pos hx]; rfl
  · rw [lk_none hx, if_neg hx]; rfl

theorem Mp.lookI {w : World} {b : Nat} {l : Ents} (h : Mp w b l) (x : BS) : (Instr.lookup 224 (.map (some b)) (.string x) false).run Tryz.prog w = .ok ((lk l x).getD (.int .i64 0)) w := by
  have := h.look Tryz.underlying224 Tryz.underlying9 (z := .int .i64 0) (Tryz.zeroValue3 w) x false
  simpa using this

/-- What a walk from x adds to what is marked. -/
structure Walked (g : G) (x : BS) (M M' : Ents) : Prop where
  marks : Marks M'
  more : ∀ z, z ∈ keysL M → z ∈ keysL M'
  here : x ∈ ids g → x ∈ keysL M'
  only : ∀ z, z ∈ keysL M' → z ∈ keysL M ∨ (x ∈ ids g ∧ Reach g x z)
  shut : ∀ z, z ∈ keysL M' → z ∉ keysL M → ∀ p ∈ preds g z, p ∈ keysL M'
/-- .. while it goes over the first of x's predecessors. -/
structure WalkQ (g : G) (x : BS) (M M' : Ents) (l : List BS) : Prop where
  marks : Marks M'
  more : ∀ z, z ∈ keysL M → z ∈ keysL M'
  here : x ∈ keysL M'
  only : ∀ z, z ∈ keysL M' → z ∈ keysL M ∨ Reach g x z
  shut : ∀ z, z ∈ keysL M' → z ∉ keysL M → z ≠ x → ∀ p ∈ preds g z, p ∈ keysL M'
  done : ∀ p ∈ l, p ∈ keysL M'
theorem WalkQ.start {g : G} {x : BS} {M : Ents} (hm : Marks M) : WalkQ g x M (up M x (.int .i64 1)) [] where
  marks := hm.up x
  more z h := (keys_up _ _ _ _).2 (.inr h)
  here := (keys_up _ _ _ _).2 (.inl rfl)
  only z h := by
    rcases (keys_up _ _ _ _).1 h with rfl | h
    · exact .inr (.refl _)
    · exact .inl h
  shut z h h1 h2 := by
    rcases (keys_up _ _ _ _).1 h with rfl | h
    · exact absurd rfl h2
    · exact absurd h h1
  done p h := by cases h
theorem WalkQ.step {g : G} (hw : Wf g) {x p : BS} {M M' M'' : Ents} {l : List BS} (h : WalkQ g x M M' l) (hp : p ∈ preds g x) (k : Walked g p M' M'') : WalkQ g x M M'' (l ++ [p]) where
  marks := k.marks
  more z hz := k.more z (h.more z hz)
  here := k.more x h.here
  only z hz := by
    rcases k.only z hz with h1 | ⟨_, h1⟩
    · exact h.only z h1
    · exact .inr (.step hp h1)
  shut z hz h1 h2 := by
    by_cases hm : z ∈ keysL M'
    · exact fun q hq => k.more q (h.shut z hm h1 h2 q hq)
    · exact k.shut z hz hm
  done q hq := by
    rw [List.mem_append, List.mem_singleton] at hq
    rcases hq with hq | rfl
    · exact k.more q (h.done q hq)
    · exact k.here (preds_in hw hp)
theorem WalkQ.finish {g : G} {x : BS} {M M' : Ents} (hx : x ∈ ids g) (h : WalkQ g x M M' (preds g x)) : Walked g x M M' where
  marks := h.marks
  more := h.more
  here _ := h.here
  only z hz := (h.only z hz).imp_right fun r => ⟨hx, r⟩
  shut z hz h1 := by
    by_cases e : z = x
    · rw [e]; exact h.done
    · exact h.shut z hz h1 e
theorem Walked.skip {g : G} {x : BS} {M : Ents} (hm : Marks M) (h : x ∈ ids g → x ∈ keysL M) : Walked g x M M := ⟨hm, fun _ h => h, h, fun _ h => .inl h, fun z h1 h2 => absurd h1 h2⟩

def WalkOk (g : G) (v : Value) (w0 : World) (mk p5 p2 p6 : Nat) (x : BS) : Prop := ∀ (w : World) (lM : Ents), Fr [] w0 w → Mp w mk lM → Marks lM → w.cell? ⟨p5, 0, none⟩ = some (.map (some mk)) → w.cell? ⟨p2, 0, none⟩ = some v →
  w.cell? ⟨p6, 0, none⟩ = some (.func (.func 212) #[] #[.pointer (some ⟨p5, 0, none⟩), .pointer (some ⟨p2, 0, none⟩), .pointer (some ⟨p6, 0, none⟩)]) →
  Calls Tryz.prog 212 #[.string x, .pointer (some ⟨p5, 0, none⟩), .pointer (some ⟨p2, 0, none⟩), .pointer (some ⟨p6, 0, none⟩)] w fun e w' => e = .returned (.tuple #[]) ∧ ∃ lM', Mp w' mk lM' ∧ Walked g x lM lM' ∧ Fr [mk] w w'

set_option maxRecDepth 100000 in
set_option maxHeartbeats 4000000 in
theorem walk43_step (g : G) (v : Value) (w0 : World) (mk p5 p2 p6 : Nat) (x : BS) (hw : Wf g) (hd : DagR w0 v g) (hmk : w0.heap.size ≤ mk) (IH : ∀ p ∈ preds g x, WalkOk g v w0 mk p5 p2 p6 p) : WalkOk g v w0 mk p5 p2 p6 x := by
  intro w lM hF hM hMs h5 h2 h6
  have hlk := hM.lookI x
  rw [hMs.get x] at hlk
  have R1 := has18 v x g w (hd.fr hF)
  have HIH := Lib.hid IH; clear IH
  have Hw := Lib.hid hw; clear hw
  by_cases hx : x ∈ keysL lM
  · rw [if_pos hx] at hlk
    have Hx := Lib.hid hx; clear hx
    clear R1
    go_enter Tryz.func212, Tryz.ntmps212
    go_wp2
    (try simp only [Exit.inBlock, Exit.then])
    refine bodyPost_ret (results_none rfl _ _ _) rfl ?_
    exact ⟨rfl, lM, hM, Walked.skip hMs (fun _ => Hx.out), Fr.reflS (fun k hk => by simp at hk; subst hk; exact hM.isMp)⟩
  · rw [if_neg hx] at hlk
    have Hx := Lib.hid hx; clear hx
    by_cases hg : x ∈ ids g
    · rw [decide_eq_true hg] at R1
      have Hg := Lib.hid hg; clear hg
      go_enter Tryz.func212, Tryz.ntmps212
      go_upto_region 1 with (go_at_call 105; refine R1.mono ?_; rintro e w1 ⟨rfl, f1⟩; have g5 := f1.cell h5; have g2 := f1.cell h2; have g6 := f1.cell h6; have hM1 := hM.fr f1 (by simp); have hlk1 := hM1.lookI x; rw [hMs.get x, if_neg Hx.out] at hlk1)
      clear hlk R1
      obtain ⟨w2, hput, hM2, f2⟩ := hM1.put Tryz.underlying224 Tryz.underlying9 x (.int .i64 1)
      have k2 := f2.cell g2
      have hmp : ∀ k, k ∈ [mk] → IsMp w k := fun k hk => by simp at hk; subst hk; exact hM.isMp
      have F2 : Fr [mk] w w2 := f1.before f2 (fun k hk => (hmp k hk).lt)
      have F02 : Fr [] w0 w2 := hF.drop F2 (fun k hk => by simp at hk; omega)
      have hfd := fld0
      go_upto_region 3 with (go_at_call 159; refine (of44 _ _ _ _ (hd.fr F02)).mono ?_; rintro e w3 ⟨u, rfl, hu, g3⟩; obtain ⟨pa, pc, ka, kc, rfl, hp, hq⟩ := hu.form; obtain ⟨n, hn⟩ : ∃ n, n = (preds g x).length := ⟨_, rfl⟩; rw [← hn] at hp ⊢; have Hn := Lib.hid hn; clear hn)
      have F3 : Fr [mk] w w3 := F2.then g3.fr
      have hnb : n ≤ 140737488355328 := by rw [Hn.out]; exact hp.2.1
      go_loopw [26] (fun i wr => ∃ (q : Nat) (lQ : Ents), i = .int .i64 q ∧ q ≤ n ∧ Mp wr mk lQ ∧ WalkQ g x lM lQ ((preds g x).take q) ∧ Fr [mk] w wr ∧ Strs wr (.slice pa n pc) (preds g x)) (fun i _ => n - (intOf i).toNat)
      case atStart => exact ⟨0, _, rfl, Nat.zero_le _, hM2.fr g3.fr (by simp), WalkQ.start hMs, F3, hp⟩
      case round =>
        obtain ⟨q, lQ, rfl, hq, hMQ, hW, hfr, hp⟩ := hrel
        have HW := Lib.hid hW; clear hW
        have k6 := hfr.cell h6
        by_cases hlt : q < n
        · obtain ⟨y, hy⟩ : ∃ y, (preds g x)[q]? = some y := ⟨_, List.getElem?_eq_getElem (Hn.out ▸ hlt)⟩
          obtain ⟨b, o, hidx, hcell⟩ := hp.at_ Hn.out 51 9 Tryz.underlying51 Tryz.sizeOf9 q y hy
          have Hy := Lib.hid hy; clear hy
          have C := HIH.out y (List.mem_of_getElem? Hy.out) wr lQ (hF.drop hfr (fun k hk => by simp at hk; omega)) hMQ HW.out.marks (hfr.cell h5) (hfr.cell h2) k6
          go_wp2_with (go_at_call 212; refine C.mono ?_; rintro e w5 ⟨rfl, lR, hMR, hWR, f5⟩)
          go_roundw
          case rel =>
            refine ⟨q + 1, lR, by go_num, by omega, hMR, ?_, hfr.and f5, hp.fr f5⟩
            rw [take_snoc Hy.out]
            exact HW.out.step Hw.out (List.mem_of_getElem? Hy.out) hWR
          case measure => simp [intOf]; omega
        · go_wp2
          go_end0
          refine ⟨rfl, lQ, hMQ, WalkQ.finish Hg.out ?_, hfr⟩
          have := HW.out
          rw [List.take_of_length_le (by have := Hn.out; omega)] at this
          exact this
    · rw [decide_eq_false hg] at R1
      have Hg := Lib.hid hg; clear hg
      go_enter Tryz.func212, Tryz.ntmps212
      go_wp2_with (go_at_call 105; refine R1.mono ?_; rintro e w1 ⟨rfl, f1⟩)
      (try simp only [Exit.inBlock, Exit.then])
      refine bodyPost_ret (results_none rfl _ _ _) rfl ?_
      exact ⟨rfl, lM, hM.fr f1 (by simp), Walked.skip hMs (fun h => absurd h Hg.out), f1.more (by simp) (fun k hk => by simp at hk; subst hk; exact hM.isMp)⟩

theorem walk43 (g : G) (v : Value) (w0 : World) (mk p5 p2 p6 : Nat) (hw : Wf g) (hd : DagR w0 v g) (hmk : w0.heap.size ≤ mk) : ∀ (n : Nat) (x : BS), x ∈ ids (g.take n) ∨ x ∉ ids g → WalkOk g v w0 mk p5 p2 p6 x
  | 0, x, h => walk43_step g v w0 mk p5 p2 p6 x hw hd hmk fun p hp => by
      rcases h with h | h
      · simp [ids] at h
      · rw [preds_none h] at hp; cases hp
  | n + 1, x, h => walk43_step g v w0 mk p5 p2 p6 x hw hd hmk fun p hp => by
      refine walk43 g v w0 mk p5 p2 p6 hw hd hmk n p (.inl ?_)
      rcases h with h | h
      · obtain ⟨i, m, h1, h2, h3, h4⟩ := mem_preds hw hp
        obtain ⟨j, m', h5, h6, h7⟩ := mem_ids_take_iff.1 h
        have := at_uniq hw h1 h6 (h2.trans h7.symm)
        subst this
        obtain ⟨j', m'', e1, e2, e3⟩ := mem_ids_take_iff.1 h4
        exact mem_ids_take_iff.2 ⟨j', m'', by omega, e2, e3⟩
      · rw [preds_none h] at hp; cases hp

/-- What is marked when the first of the list have been walked from. -/
structure PastQ (g : G) (l : List BS) (M : Ents) : Prop where
  marks : Marks M
  here : ∀ x ∈ l, x ∈ ids g → x ∈ keysL M
  only : ∀ z, z ∈ keysL M → ∃ y ∈ l, y ∈ ids g ∧ Reach g y z
  shut : ∀ z, z ∈ keysL M → ∀ p ∈ preds g z, p ∈ keysL M
theorem PastQ.nil (g : G) : PastQ g [] [] := ⟨Marks.nil, by simp, by simp [keysL], by simp [keysL]⟩
theorem PastQ.step {g : G} {l : List BS} {x : BS} {M M' : Ents} (h : PastQ g l M) (k : Walked g x M M') : PastQ g (l ++ [x]) M' where
  marks := k.marks
  here y hy hg := by
    rw [List.mem_append, List.mem_singleton] at hy
    rcases hy with hy | rfl
    · exact k.more y (h.here y hy hg)
    · exact k.here hg
  only z hz := by
    rcases k.only z hz with h1 | ⟨h1, h2⟩
    · obtain ⟨y, hy, r⟩ := h.only z h1
      exact ⟨y, by simp [hy], r⟩
    · exact ⟨x, by simp, h1, h2⟩
  shut z hz := by
    by_cases hm : z ∈ keysL M
    · exact fun p hp => k.more p (h.shut z hm p hp)
    · exact k.shut z hz hm
theorem PastQ.all {g : G} {l : List BS} {M : Ents} (h : PastQ g l M) (x : BS) : x ∈ keysL M ↔ ∃ y ∈ l, y ∈ ids g ∧ Reach g y x := by
  refine ⟨h.only x, fun ⟨y, hy, hg, hr⟩ => ?_⟩
  have key : ∀ {a b : BS}, Reach g a b → a ∈ keysL M → b ∈ keysL M := by
    intro a b r
    induction r with
    | refl => exact _root_.id
    | step hp _ ih => exact fun ha => ih (h.shut _ ha _ hp)
  exact key hr (h.here y hy hg)

set_option maxRecDepth 100000 in
set_option maxHeartbeats 4000000 in
theorem past16d (v lv : Value) (l : List BS) (g : G) (w : World) (hd : DagR w v g) (hw : Wf g) (hlv : Strs w lv l) (hl : g.length ≤ 1000000) :
    Calls Tryz.prog 144 #[v, lv] w fun e w' => ∃ u out, e = .returned u ∧ Strs w' u out ∧ IsPast g l out ∧ Fr [] w w' := by
  obtain ⟨la, lc, rfl, hlc, hlm, hln⟩ := hlv.form
  obtain ⟨m, hm⟩ : ∃ m, m = l.length := ⟨_, rfl⟩
  rw [← hm] at hlv hlc hln ⊢
  have Hm := Lib.hid hm; clear hm
  have Hw := Lib.hid hw; clear hw
  obtain ⟨ad, rfl⟩ : ∃ ad, v = .pointer ad := by
    rcases hd with ⟨rfl, _⟩ | ⟨mN, mH, bD, lN, lH, rfl, _⟩ <;> exact ⟨_, rfl⟩
  have hmm := @run_makeMap Tryz.prog
  go_enter Tryz.func144, Tryz.ntmps144
  go_upto_region 5 with fail
  have f1 := (Fr.refl w).alloc (.cells #[.pointer ad] 27)
  have f2 := (Fr.refl (w.alloc (.cells #[.pointer ad] 27))).alloc (.map #[] 0)
  have f3 := (Fr.refl ((w.alloc (.cells #[.pointer ad] 27)).alloc (.map #[] 0))).alloc (.cells #[.map (some (w.heap.size + 1))] 224)
  have f4 := (Fr.refl (((w.alloc (.cells #[.pointer ad] 27)).alloc (.map #[] 0)).alloc (.cells #[.map (some (w.heap.size + 1))] 224))).alloc (.cells #[.func (.func 212) #[] #[.pointer (some ⟨w.heap.size + 1 + 1, 0, none⟩), .pointer (some ⟨w.heap.size, 0, none⟩), .pointer (some ⟨w.heap.size + 1 + 1 + 1, 0, none⟩)]] 304)
  have hM := (((Mp.made (w.alloc (.cells #[.pointer ad] 27))).fr f3 (by simp)).fr f4 (by simp))
  rw [World.size_alloc] at hM
  have F4 := ((f1.then f2).then f3).then f4
  have h2 := ((f2.then f3).then f4).cell (World.cell?_alloc_new w #[.pointer ad] 27 0)
  have h5 := f4.cell (World.cell?_alloc_at (w := (w.alloc (.cells #[.pointer ad] 27)).alloc (.map #[] 0)) #[.map (some (w.heap.size + 1))] 224 (w.heap.size + 1 + 1) 0 (by simp))
  have h6 := World.cell?_alloc_at (w := ((w.alloc (.cells #[.pointer ad] 27)).alloc (.map #[] 0)).alloc (.cells #[.map (some (w.heap.size + 1))] 224)) #[.func (.func 212) #[] #[.pointer (some ⟨w.heap.size + 1 + 1, 0, none⟩), .pointer (some ⟨w.heap.size, 0, none⟩), .pointer (some ⟨w.heap.size + 1 + 1 + 1, 0, none⟩)]] 304 (w.heap.size + 1 + 1 + 1) 0 (by simp)
  have hs4 : w.heap.size + 1 < ((((w.alloc (.cells #[.pointer ad] 27)).alloc (.map #[] 0)).alloc (.cells #[.map (some (w.heap.size + 1))] 224)).alloc (.cells #[.func (.func 212) #[] #[.pointer (some ⟨w.heap.size + 1 + 1, 0, none⟩), .pointer (some ⟨w.heap.size, 0, none⟩), .pointer (some ⟨w.heap.size + 1 + 1 + 1, 0, none⟩)]] 304)).heap.size := by simp
  generalize (((w.alloc (.cells #[.pointer ad] 27)).alloc (.map #[] 0)).alloc (.cells #[.map (some (w.heap.size + 1))] 224)).alloc (.cells #[.func (.func 212) #[] #[.pointer (some ⟨w.heap.size + 1 + 1, 0, none⟩), .pointer (some ⟨w.heap.size, 0, none⟩), .pointer (some ⟨w.heap.size + 1 + 1 + 1, 0, none⟩)]] 304) = wS at hM F4 h2 h5 h6 hs4 ⊢
  clear f1 f2 f3 f4
  have hmp : ∀ k, k ∈ [w.heap.size + 1] → IsMp wS k := fun k hk => by simp at hk; subst hk; exact hM.isMp
  obtain ⟨mk, hmk⟩ : ∃ mk, mk = w.heap.size + 1 := ⟨_, rfl⟩
  obtain ⟨p5, hp5⟩ : ∃ mk, mk = w.heap.size + 1 + 1 := ⟨_, rfl⟩
  obtain ⟨p6, hp6⟩ : ∃ mk, mk = w.heap.size + 1 + 1 + 1 := ⟨_, rfl⟩
  rw [← hp6, ← hp5] at h6 ⊢
  rw [← hp5, ← hmk] at h5
  rw [← hmk] at hM hmp hs4 ⊢
  have Hmk := Lib.hid hmk; clear hmk hp5 hp6
  have ok := fun (x : BS) => walk43 g (.pointer ad) w mk p5 w.heap.size p6 Hw.out hd (by rw [Hmk.out]; omega) g.length x (by rw [List.take_length]; exact Decidable.em _)
  go_loopw [13] (fun i wr => ∃ (q : Nat) (lQ : Ents), i = .int .i64 q ∧ q ≤ m ∧ Mp wr mk lQ ∧ PastQ g (l.take q) lQ ∧ Fr [mk] wS wr) (fun i _ => m - (intOf i).toNat)
  case atStart => exact ⟨0, [], rfl, Nat.zero_le _, hM, PastQ.nil g, Fr.reflS hmp⟩
  case round =>
    obtain ⟨q, lQ, rfl, hq, hMQ, hP, hfr⟩ := hrel
    have HP := Lib.hid hP; clear hP
    have F0 : Fr [] w wr := F4.drop hfr (fun k hk => by simp at hk; rw [hk, Hmk.out]; omega)
    have k6 := hfr.cell h6
    have k5 := hfr.cell h5
    by_cases hlt : q < m
    · have hlr := hlv.fr F0
      obtain ⟨y, hy⟩ : ∃ y, l[q]? = some y := ⟨_, List.getElem?_eq_getElem (Hm.out ▸ hlt)⟩
      obtain ⟨b, o, hidx, hcell⟩ := hlr.at_ Hm.out 51 9 Tryz.underlying51 Tryz.sizeOf9 q y hy
      have Hy := Lib.hid hy; clear hy
      have C := ok y wr lQ F0 hMQ HP.out.marks k5 (hfr.cell h2) k6
      go_wp2_with (go_at_call 212; refine C.mono ?_; rintro e w5 ⟨rfl, lR, hMR, hWR, f5⟩)
      go_roundw
      case rel =>
        refine ⟨q + 1, lR, by go_num, by omega, hMR, ?_, hfr.and f5⟩
        rw [take_snoc Hy.out]
        exact HP.out.step hWR
      case measure => simp [intOf]; omega
    · have hall := HP.out
      rw [List.take_of_length_le (by have := Hm.out; omega)] at hall
      have hin : ∀ x ∈ keysL lQ, x ∈ ids g := fun x hx => by
        obtain ⟨y, _, hy, hr⟩ := hall.only x hx
        exact reach_in Hw.out hr hy
      have hlen : lQ.length ≤ 1000000 := by
        have := nodup_len (keysL lQ) (ids g) hMQ.nodup hin
        rw [length_ids] at this
        simp [keysL] at this; omega
      have cS := sorted45 mk lQ wr hMQ (fun x hx => by rw [Hw.out.right (hin x hx)]; omega) hlen
      have cK := keys46 mk wr
      have Hall := Lib.hid hall; clear hall
      have Hin := Lib.hid hin; clear hin
      go_wp2_with (first
        | (go_at_call 149; refine cK.mono ?_; rintro e w' ⟨rfl, rfl⟩)
        | (go_at_call 148; refine cS.mono ?_; rintro e w' ⟨u, xs, rfl, hs, hx, hm, hf⟩))
      go_ret
      refine ⟨_, xs, rfl, hs, ⟨⟨fun x hx => Hw.out.right (Hin.out x ((hm x).1 hx)), hx⟩, fun x => (hm x).trans (Hall.out.all x)⟩, (F0.alloc _).then hf⟩
end Go.Proofs.YtppgjglfoibfcaaGreat
