import Derived.Test.YtoaebladjdnfjaaGreatBehind2
import Derived.Maps.AppendAt
import Derived.Maps.OwnIn
import Derived.RangeFuncBox
set_option linter.unusedSimpArgs false
set_option linter.unusedVariables false
/-
  walk.behind, walk.Spread.
-/
namespace Go.Proofs.YtoaebladjdnfjaaGreat
open Go.RowKit
attribute [local go_sem] Oper.semAt_some

theorem behind54 (p la : Option Addr) (n lc : Nat) (w : World) : Calls Tryz.prog 54 #[.pointer p, .slice la n lc] w fun e w' => ∃ c1 c2, e = .returned (.func (.func 80) #[] #[.pointer (some ⟨c1, 0, none⟩), .pointer (some ⟨c2, 0, none⟩)]) ∧ w.heap.size ≤ c1 ∧ w.heap.size ≤ c2 ∧
    w'.cell? ⟨c1, 0, none⟩ = some (.slice la n lc) ∧ w'.cell? ⟨c2, 0, none⟩ = some (.pointer p) ∧ Fr [] w w' := by
  have f1 := (Fr.refl w).alloc (.cells #[.pointer p] 26)
  have f2 := (Fr.refl (w.alloc (.cells #[.pointer p] 26))).alloc (.cells #[.slice la n lc] 23)
  have h1 := f2.cell (World.cell?_alloc_new (w := w) #[.pointer p] 26 0)
  have h2 := World.cell?_alloc_new (w := w.alloc (.cells #[.pointer p] 26)) #[.slice la n lc] 23 0
  rw [World.size_alloc] at h2
  have F2 := f1.then f2
  have H1 := Lib.hid h1
  have H2 := Lib.hid h2
  clear h1 h2
  go_enter Tryz.func54, Tryz.ntmps54
  go_wp2
  go_ret
  exact ⟨_, _, rfl, by omega, by omega, H2.out, H1.out, F2⟩

variable {P : Program}
theorem range_wide {g : Operand} {ps : Array Tmp} {assign body : Code} {Q : Exit → Act → World → Prop} {a : Act} {w : World} {n gf : Nat} {lb : Array Value} (hg : a.eval g = .func (.func gf) #[] lb)
    (eg : ∀ args w, (callFunc gf args).run P w = .ok (.enter gf args) w)
    (h : ∀ (fn : FuncId) (rec : LoopState → Option Code → Loop), (∀ st pe, rec st pe = { state := st, pending := pe, fn, tmps := a.tmps, params := ps, assign, body, defers := w.heap.size }) →
      Calls P gf (#[.func (.yield (w.heap.size + 1)) #[] #[]] ++ lb) ((w.alloc (.deferred (some []))).alloc (.loop (rec .ready none))) fun e W2 => (∃ v, e = .returned v) ∧ W2.heap[w.heap.size + 1]? = some (.loop (rec .ready none)) ∧
        Q .normal { a with defers := { target := .collected w.heap.size, args := #[] } :: a.defers } (W2.putObj (w.heap.size + 1) (.loop { rec .ready none with state := .exhausted }))) :
    (Code.rangeFunc g ps assign body).wpIn Fence.wide n P Q a w := by
  refine wpIn_rangeFunc ?_
  intro fn hfn
  obtain ⟨rec, hrec⟩ : ∃ rec : LoopState → Option Code → Loop, rec = fun st pe => { state := st, pending := pe, fn, tmps := a.tmps, params := ps, assign, body, defers := w.heap.size } := ⟨_, rfl⟩
  have h := h fn rec (fun st pe => by rw [hrec])
  obtain ⟨W1, hW1⟩ : ∃ W1, (w.alloc (.deferred (some []))).alloc (.loop (rec .ready none)) = W1 := ⟨_, rfl⟩
  rw [hW1] at h
  refine ⟨w.heap.size + 1, [{ target := .collected w.heap.size, args := #[] }], W1, { target := .fn (.func gf) lb, args := #[.func (.yield (w.heap.size + 1)) #[] #[]] }, W1, gf,
    #[.func (.yield (w.heap.size + 1)) #[] #[]] ++ lb, W1, ?_, ?_, fun _ _ => trivial, ?_, fun h => by simp [Fence.wide] at h, ?_⟩
  · rw [← hW1, hrec]; exact run_enterLoop_outer _ _ _ _ _
  · simp only [resolve, hg]
    simp [go_sem]
  · simp [invoke, go_sem, eg]
  · refine (callsIn_wide.2 h).mono ?_
    rintro e W2 ⟨⟨v, rfl⟩, hl, hq⟩
    have := run_endLoop (P := P) hl (by rw [hrec]; simp)
    have e0 : (rec .ready none).pending = none := by rw [hrec]
    exact ⟨none, _, this.trans (congrArg (fun p => Result.ok p _) e0), hq⟩

theorem yield_round {l : Nat} {W : World} {rec : LoopState → Option Code → Loop} {fn : FuncId} {tmps : Array Value} {ps : Array Tmp} {assign body : Code} {D : Nat} (hrec : ∀ st pe, rec st pe = { state := st, pending := pe, fn, tmps, params := ps, assign, body, defers := D })
    (hl : W.heap[l]? = some (.loop (rec .ready none))) {args : Array Value} (hs : args.size = ps.size) (a1 : Act) {R : Ending → World → Prop}
    (hassign : ∀ K : Act → World → Prop, K a1 W → assign.wpIn (Fence.wide.inRound l) 0 P (Exit.then K (fun _ _ _ => False)) { tmps := (ps.zip args).foldl (fun t (p, v) => t.setIfInBounds p v) tmps, defers := [] } W)
    (hbody : body.wpIn (Fence.wide.inRound l) 0 P (fun e _ W3 => e = .normal ∧ W3.heap[l]? = some (.loop (rec .busy none)) ∧ R (.returned (.bool true)) (W3.putObj l (.loop (rec .ready none)))) a1 (W.putObj l (.loop (rec .busy none)))) :
    YieldAt Fence.wide 0 P l args W R := by
  have hy := run_yield (P := P) (args := args) hl (by rw [hrec]; exact hs)
  have hb := run_beginRound (P := P) hl (by rw [hrec])
  rw [hrec] at hy hb
  simp only [hrec] at hbody
  refine ⟨fn, _, assign, body, hy, roundIn_of_wpIn trivial (hassign _ ⟨_, hb, wpIn_mono hbody ?_⟩)⟩
  rintro e a3 W3 ⟨rfl, h1, h2⟩
  have he := run_endRound (P := P) none h1
  exact ⟨_, _, he, h2⟩

theorem Kp.of_grownO {w w' : World} {r : Option Nat} (hg : w.grownBy w' r) : Kp r.toList w w' :=
  ⟨hg.os, hg.tape, hg.output, hg.size, fun k hk hn => hg.block k hk (fun e => hn (by rw [← e]; simp))⟩
theorem Kp.sub {S T : List Nat} {w w' : World} (h : Kp S w w') (hS : ∀ k ∈ S, k ∈ T) : Kp T w w' := ⟨h.os, h.tape, h.output, h.size, fun k hk hn => h.block k hk (fun m => hn (hS k m))⟩
theorem unhid {p : Prop} (h : Hid p) : p := h.out
theorem Own.kp {w w' : World} {base e size n : Nat} {v : Value} {xs : List Value} (h : w.ownsRow base e size v n xs) {T : List Nat} (k : Kp T w w') (hT : ∀ g ∈ v.ownBlock.toList, g ∉ T) : w'.ownsRow base e size v n xs := by
  refine ⟨h.1, ?_⟩
  rcases h.2 with h | ⟨g, cap, cur, rfl, hb, hg, r⟩
  · exact .inl h
  · exact .inr ⟨g, cap, cur, rfl, hb, k.row hg (hT g (by simp [Value.ownBlock])), r⟩
theorem own_lt {w : World} {base e size n : Nat} {v : Value} {xs : List Value} (h : w.ownsRow base e size v n xs) : ∀ g ∈ v.ownBlock.toList, base ≤ g ∧ g < w.heap.size := by
  rcases h.2 with ⟨rfl, _⟩ | ⟨g, cap, cur, rfl, hb, hg, r⟩
  · simp [Value.ownBlock]
  · intro k hk
    simp [Value.ownBlock] at hk
    subst hk
    exact ⟨hb, row_lt hg⟩
theorem Kp.putObj {T : List Nat} (w : World) (b : Nat) (hb : b ∈ T) (o : Obj) : Kp T w (w.putObj b o) := ⟨rfl, rfl, rfl, by simp, fun k hk hn => World.putObj_heap_other (fun e => hn (e ▸ hb))⟩

def SpJ (B5 D : Nat) (ob : Obj) (pre : List BS) (T : List Nat) (W : World) : Prop := ∃ u, T = B5 :: D :: (D + 1) :: u.ownBlock.toList ∧ Boxed W B5 23 u ∧ W.ownsRow (D + 2) 9 1 u pre.length (pre.map .string) ∧
  W.heap[D + 1]? = some ob ∧ W.heap[D]? = some (.deferred (some []))
theorem SpJ.kept {B5 D : Nat} {ob : Obj} (pre : List BS) (T : List Nat) (W W' : World) (S : List Nat) (h : SpJ B5 D ob pre T W) (k : Kp S W W') (hS : ∀ x ∈ S, x ∉ T) : SpJ B5 D ob pre T W' := by
  obtain ⟨u, rfl, h1, h2, h3, h4⟩ := h
  exact ⟨u, rfl, k.row h1 (fun hm => hS _ hm (by simp)), Own.kp h2 k (fun g hg hm => hS _ hm (by simp at hg ⊢; simp [hg])), k.row h3 (fun hm => hS _ hm (by simp)), k.row h4 (fun hm => hS _ hm (by simp))⟩
theorem SpJ.lies {w0 : World} {B5 D : Nat} {ob : Obj} (h5 : w0.heap.size ≤ B5) (hD : w0.heap.size ≤ D) (pre : List BS) (T : List Nat) (W : World) (h : SpJ B5 D ob pre T W) : ∀ k ∈ T, k < W.heap.size ∧ w0.heap.size ≤ k := by
  obtain ⟨u, rfl, h1, h2, h3, h4⟩ := h
  intro k hk
  have l1 := h1.lt
  have l3 := (Array.getElem?_eq_some_iff.1 h3).1
  have l4 := (Array.getElem?_eq_some_iff.1 h4).1
  rcases List.mem_cons.1 hk with rfl | hk
  · omega
  rcases List.mem_cons.1 hk with rfl | hk
  · omega
  rcases List.mem_cons.1 hk with rfl | hk
  · omega
  · have := own_lt h2 k hk
    omega

set_option maxRecDepth 100000 in
set_option maxHeartbeats 4000000 in
theorem spreadD (v lv : Value) (g : G) (xs : List BS) (w : World) (hd : DagR w v g) (hs : Strs w lv xs) (hl : xs.length ≤ 1000000) (hw : Wf g) (hgl : g.length ≤ 1000) :
    Calls Tryz.prog 21 #[v, lv] w fun e w' => ∃ u, e = .returned u ∧ Strs w' u (spreadL g xs) ∧ Fr [] w w' := by
  obtain ⟨la, lc, rfl, _⟩ := hs.form
  have Hw := Lib.hid hw; clear hw
  have hx5 : Boxed (w.alloc (.cells #[.slice none 0 0] 23)) w.heap.size 23 (.slice none 0 0) := Boxed.new _ _ _
  have f1 := (Fr.refl w).alloc (.cells #[.slice none 0 0] 23)
  obtain ⟨vp, rfl⟩ := hd.ptr
  have CB := Lib.hid (fun w1 => behind54 vp la xs.length lc w1)
  refine (callsIn_wide (n := 0)).1 (callsIn_of_wp_marks Tryz.func21 rfl trivial ?_ rfl)
  simp only [Tryz.ntmps21, List.size_toArray, List.length_cons, List.length_nil, Nat.reduceAdd, Nat.reduceSub, Array.replicate_succ, Array.replicate_zero, List.push_toArray, List.append_toArray, List.nil_append, List.cons_append]
  gi_wp2_with (refine ⟨trivial, rfl, ?_⟩; gi_at_call 54; refine (callsIn_wide.2 (CB.out _)).mono ?_; rintro e w2 ⟨c1, c2, rfl, hc1, hc2, h1, h2, f2⟩)
  obtain ⟨B5, hB5⟩ : ∃ B5, B5 = w.heap.size := ⟨_, rfl⟩
  have F2 := f1.then f2
  have hx52 : Boxed w2 B5 23 (.slice none 0 0) := by rw [hB5]; exact f2.row hx5
  simp only [World.size_alloc, ← hB5] at hc1 hc2
  rw [← hB5]
  clear f1 f2 hx5 CB
  have k1 : c1 < w2.heap.size := cell_lt h1
  have k2 : c2 < w2.heap.size := cell_lt h2
  have HB5 := Lib.hid hB5
  clear hB5
  refine range_wide rfl (enters_of Tryz.func80 (by kernel_rfl) rfl) ?_
  intro fn rec hrec
  obtain ⟨D, hD⟩ : ∃ D, D = w2.heap.size := ⟨_, rfl⟩
  have e2 := F2.size
  have l5 := hx52.lt
  have g1 := (Fr.refl w2).alloc (.deferred (some []))
  have g2 := (Fr.refl (w2.alloc (.deferred (some [])))).alloc (.loop (rec .ready none))
  have hl0 := World.alloc_heap_new (w2.alloc (.deferred (some []))) (.loop (rec .ready none))
  have hk0 := g2.heap (World.alloc_heap_new w2 (.deferred (some [])))
  have hx0 : Boxed _ B5 23 (.slice none 0 0) := (g1.then g2).row hx52
  have F3 := F2.then (g1.then g2)
  have h1' := (g1.then g2).cell h1
  have h2' := (g1.then g2).cell h2
  rw [World.size_alloc] at hl0
  rw [← hD] at hl0 hk0 hrec ⊢
  generalize (w2.alloc (.deferred (some []))).alloc (.loop (rec .ready none)) = W0 at hl0 hk0 hx0 F3 h1' h2' ⊢
  have l3 := (Array.getElem?_eq_some_iff.1 hl0).1
  have Hrec := Lib.hid hrec
  clear hrec
  have HD := Lib.hid hD
  clear hD
  have HB : Body g w (D + 1) (SpJ B5 D (.loop (rec .ready none))) := by
    refine ⟨fun pre T W h => SpJ.lies (by have := HB5.out; omega) (by have := HD.out; omega) pre T W h, fun pre T W W' S h k hS => SpJ.kept pre T W W' S h k hS, ?_⟩
    rintro pre x T W ⟨u, rfl, hb, ho, hl, hk⟩ hlen
    refine yield_round Hrec.out hl rfl { tmps := #[.pointer vp, .slice la xs.length lc, undef, undef, .slice none 0 0, .pointer (some ⟨B5, 0, none⟩), .string x, .pointer vp, .slice la xs.length lc, .func (.func 80) #[] #[.pointer (some ⟨c1, 0, none⟩), .pointer (some ⟨c2, 0, none⟩)], .string x, undef, undef, undef, undef, undef, undef], defers := [] } ?_ ?_
    · intro K hK
      gi_wp2
      exact hK
    · have lB := hb.lt
      have lo := own_lt ho
      have kW : Kp [D + 1] W (W.putObj (D + 1) (.loop (rec .busy none))) := Kp.putObj W (D + 1) (by simp) _
      have hb1 : Boxed (W.putObj (D + 1) (.loop (rec .busy none))) B5 23 u := kW.row hb (by simp; have := HD.out; omega)
      have ho1 := Own.kp ho kW (fun k hk hm => by have := lo k hk; simp at hm; omega)
      have hk1 := kW.row hk (by simp)
      have hl1 : (W.putObj (D + 1) (.loop (rec .busy none))).heap[D + 1]? = some (.loop (rec .busy none)) := World.putObj_heap_same (Array.getElem?_eq_some_iff.1 hl).1
      generalize W.putObj (D + 1) (.loop (rec .busy none)) = Wb at kW hb1 ho1 hk1 hl1 ⊢
      have hcell := hb1.cell
      have hfroz := hb1.frozen
      obtain ⟨i0, hi, hz0, hz1, hz2⟩ := info_parts infoStr
      have hbs : D + 2 ≤ Wb.heap.size := (Array.getElem?_eq_some_iff.1 hl1).1
      have hpl : pre.length ≤ 1000 := by omega
      have lS := (Array.getElem?_eq_some_iff.1 hl1).1
      gi_wp2_with (gi_at_builtin; refine wpListIn_append_own_at _ rfl _ _ 23 rfl (D + 2) 9 i0 (.string ⟨#[]⟩) 1 16 Tryz.underlying23 hi hz0 hz1 hz2 rfl (by decide) _ _ _ rfl (ho1.alloc _) ⟨Wb.heap.size, 0, none⟩ 1 1 [.string x] rfl rfl (cell_one_new _ _ _) (by simp [Value.oneCell']) (by simp [maxLen]; omega) (by omega) (by simp; omega) ?_; intro v' w3 hown' hgrow _ hblk; obtain ⟨gx, capx, rfl⟩ := ownsRow_succ hown'; have kA : Kp u.ownBlock.toList Wb w3 := (Kp.of_fr ((Fr.refl Wb).alloc _)).trans (Kp.of_grownO hgrow); have hnB : B5 ∉ u.ownBlock.toList := (fun hm => by have := lo _ hm; have := HD.out; omega); have hb3 := kA.row hb1 hnB; have hc3 := Boxed.cell hb3; have hf3 := Boxed.frozen hb3)
      have hgx := own_lt hown' gx (by simp [Value.ownBlock])
      have kS : Kp [B5] w3 (w3.setCell ⟨B5, 0, none⟩ (.slice (some ⟨gx, 0, none⟩) (pre.length + 1) capx)) := (Kp.refl _ _).setCell (by simp) _
      have hb4 : Boxed (w3.setCell ⟨B5, 0, none⟩ (.slice (some ⟨gx, 0, none⟩) (pre.length + 1) capx)) B5 23 (.slice (some ⟨gx, 0, none⟩) (pre.length + 1) capx) := row_set hb3 _
      have hBD := HD.out
      have ho4 := Own.kp hown' kS (fun k hk hm => by simp [Value.ownBlock] at hk hm; omega)
      have hl3 := kA.row hl1 (fun hm => by have := lo _ hm; omega)
      have hk3 := kA.row hk1 (fun hm => by have := lo _ hm; omega)
      have hl4 := kS.row hl3 (by simp; omega)
      have hk4 := kS.row hk3 (by simp; omega)
      generalize w3.setCell ⟨B5, 0, none⟩ (.slice (some ⟨gx, 0, none⟩) (pre.length + 1) capx) = w4 at kS hb4 ho4 hl4 hk4 ⊢
      have kP : Kp [D + 1] w4 (w4.putObj (D + 1) (.loop (rec .ready none))) := Kp.putObj _ _ (by simp) _
      have hb5 : Boxed _ B5 23 _ := kP.row hb4 (by simp; omega)
      have ho5 := Own.kp ho4 kP (fun k hk hm => by simp [Value.ownBlock] at hk hm; omega)
      have hl5 : (w4.putObj (D + 1) (.loop (rec .ready none))).heap[D + 1]? = some (.loop (rec .ready none)) := World.putObj_heap_same (Array.getElem?_eq_some_iff.1 hl4).1
      have hk5 := kP.row hk4 (by simp)
      have hJ5 : SpJ B5 D (.loop (rec .ready none)) (pre ++ [x]) [B5, D, D + 1, gx] (w4.putObj (D + 1) (.loop (rec .ready none))) := ⟨_, by simp [Value.ownBlock], hb5, by simpa using ho5, hl5, hk5⟩
      have hK5 : Kp (B5 :: D :: (D + 1) :: u.ownBlock.toList) W (w4.putObj (D + 1) (.loop (rec .ready none))) :=
        (((kW.sub (by simp)).trans (kA.sub (fun k hk => by simp [hk]))).trans (kS.sub (by simp))).trans (kP.sub (by simp))
      have hT5 : ∀ k ∈ [B5, D, D + 1, gx], k ∈ B5 :: D :: (D + 1) :: u.ownBlock.toList ∨ W.heap.size ≤ k := by
        intro k hk
        have e1 := kW.size
        simp only [List.mem_cons, List.not_mem_nil, or_false] at hk ⊢
        rcases hk with hk | hk | hk | hk
        · simp [hk]
        · simp [hk]
        · simp [hk]
        · have hblk' : some gx = u.ownBlock ∨ some gx = some (Wb.alloc (.cells #[.string x] 9)).heap.size := hblk
          rcases hblk' with h | h
          · left; right; right; right; rw [← h, hk]; simp
          · right; simp at h; omega
      first
        | exact ⟨rfl, hl4, rfl, _, hJ5, hK5, hT5⟩
        | exact ⟨hl4, _, hJ5, hK5, fun k hk => by simpa using hT5 k hk⟩
        | exact ⟨rfl, hl4, rfl, _, hJ5, hK5, fun k hk => by simpa using hT5 k hk⟩
  have n1 : c1 ∉ [B5, D, D + 1] := by
    simp only [List.mem_cons, List.not_mem_nil, or_false, not_or]; have := HD.out; omega
  have n2 : c2 ∉ [B5, D, D + 1] := by
    simp only [List.mem_cons, List.not_mem_nil, or_false, not_or]; have := HD.out; omega
  refine (behind80 (D + 1) _ _ g xs c1 c2 w W0 [B5, D, D + 1] _ F3 hd hs Hw.out hgl hl h1' h2' n1 n2 HB ⟨.slice none 0 0, rfl, hx0, World.ownsRow_nil _ _ _ _, hl0, hk0⟩).mono ?_
  rintro e W1 ⟨⟨z, rfl⟩, pre, T, ⟨u, rfl, hb, ho, hl1, hk1⟩, hmem, hlen, F4⟩
  refine ⟨⟨_, rfl⟩, hl1, ?_⟩
  have hBD := HD.out
  have kE : Kp [D + 1] W1 (W1.putObj (D + 1) (.loop { rec .ready none with state := .exhausted })) := Kp.putObj _ _ (by simp) _
  have hbE : Boxed _ B5 23 u := kE.row hb (by simp; omega)
  have lo := own_lt ho
  have hoE := Own.kp ho kE (fun k hk hm => by have := lo k hk; simp at hm; omega)
  have hkE := kE.row hk1 (by simp)
  have F5 := kE.fr F4 (fun k hk => by simp at hk; have := HB5.out; omega)
  generalize W1.putObj (D + 1) (.loop { rec .ready none with state := .exhausted }) = We at kE hbE hoE hkE F5 ⊢
  have hc := hbE.cell
  have lE := (Array.getElem?_eq_some_iff.1 hkE).1
  have C := Lib.hid (ofD u pre We (Strs.of_own hoE (by omega)) (by omega))
  have HM := Lib.hid hmem
  clear hmem hoE hbE ho hb
  gi_wp2_with (refine ⟨trivial, rfl, ?_⟩; gi_at_call 40; refine (callsIn_wide.2 C.out).mono ?_; rintro e w6 ⟨z, rfl, hz, f6⟩)
  have hk6 := f6.heap hkE
  have kF : Kp [D] w6 (w6.putObj D (.deferred none)) := Kp.putObj _ _ (by simp) _
  have hz6 := Own.kp hz kF (fun k hk hm => by have := own_lt hz k hk; simp at hm; omega)
  have F6 := kF.fr (F5.then f6) (fun k hk => by simp at hk; have := HB5.out; omega)
  have hlp : (ofL pre).length ≤ pre.length := length_ofL _
  have hzs := Strs.of_own hz6 (by omega)
  have e : ofL pre = spreadL g xs := sorted_ext (sorted_ofL _) (sorted_ofL _) fun x => by
    rw [mem_ofL, HM.out]
    exact ⟨fun h => h.1, fun h => ⟨h, Hw.out.right ((mem_spreadL Hw.out xs x).1 h).1⟩⟩
  rw [e] at hzs
  have hDe := HD.out
  clear HD HB Hrec hk1 hl1 hkE lE l3
  rw [hDe] at hk6 hzs F6
  refine ⟨by simp, .inl ⟨_, _, rfl, run_takeDeferred hk6, ?_⟩⟩
  refine ⟨_, results_tmp rfl _ _ _, z, ?_, hzs, F6⟩
  first | rfl | simp
end Go.Proofs.YtoaebladjdnfjaaGreat
