import Derived.Test.YtppgjglfoibfcaaGreatFar
import Derived.Test.YtppgjglfoibfcaaGreatOf21
import Derived.Test.YtppgjglfoibfcaaGreatVAwake
import Derived.Test.YtppgjglfoibfcaaGreatMake
import Derived.Deep.DeepCutAuto
import Derived.Deep.CutBlock
set_option linter.unusedSimpArgs false
set_option linter.unusedVariables false
/-
  Chapter 21: ValuesDoes.
-/
namespace Go.Proofs.YtppgjglfoibfcaaGreat
open Go.RowKit

theorem fewLT {v : Value} {L : List Nd} {w : World} (hs : Nodes w v L) (h : Few L) : Calls Tryz.prog 14 #[v] w fun e w' => e = .returned (.bool true) ∧ w = w' := by
  have := few9 v L w hs
  rwa [decide_eq_true h] at this
theorem fewLF {v : Value} {L : List Nd} {w : World} (hs : Nodes w v L) (h : ¬ Few L) : Calls Tryz.prog 14 #[v] w fun e w' => e = .returned (.bool false) ∧ w = w' := by
  have := few9 v L w hs
  rwa [decide_eq_false h] at this
theorem fewDT {v : Value} {L : List Dd} {w : World} (hs : Deeds w v L) (h : FewD L) : Calls Tryz.prog 15 #[v] w fun e w' => e = .returned (.bool true) ∧ w = w' := by
  have := few20 v L w hs
  rwa [decide_eq_true h] at this
theorem fewDF {v : Value} {L : List Dd} {w : World} (hs : Deeds w v L) (h : ¬ FewD L) : Calls Tryz.prog 15 #[v] w fun e w' => e = .returned (.bool false) ∧ w = w' := by
  have := few20 v L w hs
  rwa [decide_eq_false h] at this
theorem Recs.formX {α : Type} {k : Nat} {enc : α → List Value} {w : World} {v : Value} {xs : List α} (h : Recs k enc w v xs) : ∃ a n c, v = .slice a n c := by obtain ⟨a, c, e, _⟩ := h.form; exact ⟨a, _, c, e⟩
theorem Strs.formX {w : World} {v : Value} {xs : List BS} (h : Strs w v xs) : ∃ a n c, v = .slice a n c := by obtain ⟨a, c, e, _⟩ := h.form; exact ⟨a, _, c, e⟩
structure ValsA (w : World) (vb bm : Nat) (p : Option Addr) (L : List Wr) (K : Nat) : Prop where
  out : ValsAt w vb bm (.pointer p) L K
theorem ValsA.fr {w w' : World} {vb bm : Nat} {p : Option Addr} {L : List Wr} {K : Nat} (h : ValsA w vb bm p L K) (f : Fr [] w w') : ValsA w' vb bm p L K := ⟨h.out.fr f List.not_mem_nil⟩
theorem ValsA.far {w w' : World} {R vb bm : Nat} {p : Option Addr} {L : List Wr} {K : Nat} (f : Far R w w') (h : ValsA w vb bm p L K) : ValsA w' vb bm p L K := ⟨h.out.far f⟩
structure DagA (S : List Nat) (w : World) (v : Value) (g : G) : Prop where
  out : DagN S w v g
theorem DagA.fr {S : List Nat} {w w' : World} {v : Value} {g : G} (h : DagA S w v g) (f : Fr [] w w') : DagA S w' v g := ⟨h.out.fr f (fun _ h => absurd h List.not_mem_nil)⟩
theorem DagA.far {S : List Nat} {w w' : World} {R : Nat} {v : Value} {g : G} (f : Far R w w') (h : DagA S w v g) : DagA S w' v g := ⟨h.out.far f⟩
def Dd.wr (d : Dd) : Wr := ⟨d.name, d.text, d.id⟩
def foldW (g : G) (l : List Dd) : List Wr := l.foldl (fun a d => writeL g a d.wr) []
theorem foldW_snoc {g : G} {l : List Dd} {k : Nat} {x : Dd} (hx : l[k]? = some x) : foldW g (l.take (k + 1)) = writeL g (foldW g (l.take k)) x.wr := by
  rw [List.take_add_one, hx]; simp [foldW, List.foldl_append]
theorem len_foldW_aux (g : G) : ∀ (l : List Dd) (a : List Wr), (l.foldl (fun a d => writeL g a d.wr) a).length ≤ a.length + l.length
  | [], a => by simp
  | d :: l, a => by
    have h1 := len_foldW_aux g l (writeL g a d.wr)
    have h2 := len_writeL g a d.wr
    simp only [List.foldl_cons, List.length_cons]; omega
theorem len_foldW (g : G) (l : List Dd) : (foldW g l).length ≤ l.length := by have := len_foldW_aux g l []; simpa [foldW] using this
theorem len_foldW_take (g : G) (l : List Dd) (k : Nat) : (foldW g (l.take k)).length ≤ k := by
  have := len_foldW g (l.take k); have := List.length_take_le k l; omega

section
variable {vb bm : Nat} {p : Option Addr} {w : World} {L : List Wr} {K : Nat}
theorem emptyA (p : Option Addr) (w : World) : Calls Tryz.prog 18 #[.pointer p] w fun e w' => ∃ vb, e = .returned (.pointer (some ⟨vb, 0, none⟩)) ∧ ValsA w' vb w.heap.size p [] 0 ∧ Fr [] w w' :=
  (emptyV p _ rfl w).mono fun _ _ ⟨vb, h1, h2, _, h3⟩ => ⟨vb, h1, ⟨h2⟩, h3⟩
theorem ofA (n : BS) (h : ValsA w vb bm p L K) (hL : L.length ≤ 40) : Calls Tryz.prog 27 #[.pointer (some ⟨vb, 0, none⟩), .string n] w fun e w' => ∃ u, e = .returned u ∧ Strs w' u (ofW L n) ∧ Fr [] w w' :=
  (ofV vb bm _ L K n w h.out (by omega)).mono fun _ _ ⟨u, h1, h2, h3⟩ => ⟨u, h1, Strs.of_own h2 (by have := len_ofW L n; omega), h3⟩
theorem tellA (h : ValsA w vb bm p L K) (hL : L.length ≤ 40) (hK : K ≤ 1000) : Calls Tryz.prog 22 #[.pointer (some ⟨vb, 0, none⟩)] w fun e w' => ∃ u, e = .returned u ∧ Words w' u (tellW L) ∧ Fr [] w w' :=
  tellV vb bm _ L K w h.out (by omega) (by omega)
theorem rowsA (h : ValsA w vb bm p L K) (hL : L.length ≤ 40) (hK : K ≤ 1000) : Calls Tryz.prog 25 #[.pointer (some ⟨vb, 0, none⟩)] w fun e w' => ∃ u, e = .returned u ∧ RowsR w' u (L.map Wr.rw) ∧ Fr [] w w' :=
  (rowsV vb bm _ L K w h.out (by omega) (by omega)).mono fun _ _ ⟨u, h1, h2, h3⟩ => ⟨u, h1, Recs.of_own h2 rfl (by simp; omega), h3⟩
theorem writeA {g : G} (x : Dd) (h : ValsA w vb bm p L K) (hd : DagA [bm] w (.pointer p) g) (hw : Wf g) (hgl : g.length ≤ 30) (hL : L.length ≤ 40) (hr : x.name.size ≤ 60) :
    Calls Tryz.prog 20 #[.pointer (some ⟨vb, 0, none⟩), .string x.name, .string x.text, .string x.id] w fun e w' => e = .returned (.int .i64 (writeE L x.wr)) ∧ ValsA w' vb bm p (writeL g L x.wr) (K + 1) ∧ Fr [bm] w w' :=
  (writeV vb bm p _ g L K x.wr w rfl h.out hd.out.r hw (by omega) (by omega) (by show x.name.size ≤ _; omega)).mono fun _ _ ⟨h1, h2, h3⟩ => ⟨h1, ⟨h2⟩, h3⟩
theorem write21A {g : G} {gv rv : Value} (x : Dd) (hg : Nodes w gv g) (hr : RowsR w rv (L.map Wr.rw)) (hn : x.name.size ≤ 60) (hw : Wf g) (hgl : g.length ≤ 30) (hl : L.length ≤ 40) (hL : WSorted L) :
    Calls Tryz.prog 19 #[.agg #[gv, rv], .string x.name, .string x.text, .string x.id] w fun e w' => ∃ u, e = .returned (.tuple #[.agg #[gv, u], .int .i64 (writeE L x.wr)]) ∧ RowsR w' u ((writeL g L x.wr).map Wr.rw) ∧ Fr [] w w' :=
  write21 gv rv g L x.wr w hg hr (by show x.name.size ≤ _; omega) hw (by omega) (by omega) hL
end

set_option maxRecDepth 100000 in
set_option maxHeartbeats 8000000 in
theorem valuesDoes3 (v lv : Value) (L : List Nd) (l : List Dd) (w : World) (hs : Nodes w v L) (hl : Deeds w lv l) :
    Calls Tryz.prog 3 #[v, lv] w fun e w' => e = .returned (.bool true) ∧ Fr [] w w' := by
  obtain ⟨a, c, rfl, hc, hm, hn⟩ := hs.form
  obtain ⟨la, lc, rfl, hlc, hlm, hln⟩ := hl.form
  by_cases hF : Few L
  case neg =>
    have HF := Lib.hid hF; clear hF
    go_enter Tryz.func3, Tryz.ntmps3
    go_wp2_with (first
      | (go_at_call 14; refine (fewLF hs HF.out).mono ?_; rintro e w0 ⟨rfl, rfl⟩)
      | (go_at_call 16; refine (awakeV _).mono ?_; rintro e w1 ⟨rfl, f1⟩))
    go_ret
    exact ⟨rfl, f1⟩
  have HF := Lib.hid hF; clear hF
  by_cases hD : FewD l
  case neg =>
    have HD := Lib.hid hD; clear hD
    go_enter Tryz.func3, Tryz.ntmps3
    go_wp2_with (first
      | (go_at_call 14; refine (fewLT hs HF.out).mono ?_; rintro e w0 ⟨rfl, rfl⟩)
      | (go_at_call 15; refine (fewDF hl HD.out).mono ?_; rintro e w0 ⟨rfl, rfl⟩)
      | (go_at_call 16; refine (awakeV _).mono ?_; rintro e w1 ⟨rfl, f1⟩))
    go_ret
    exact ⟨rfl, f1⟩
  have HD := Lib.hid hD; clear hD
  go_enter Tryz.func3, Tryz.ntmps3
  go_upto_region 4 with (first
    | (go_at_call 14; refine (fewLT hs HF.out).mono ?_; rintro e w0 ⟨rfl, rfl⟩)
    | (go_at_call 15; refine (fewDT hl HD.out).mono ?_; rintro e w0 ⟨rfl, rfl⟩)
    | (go_at_call 17; refine (make14 _ _ _ hs (Nat.le_trans HF.out.1 (by decide))).mono ?_; rintro e w1 ⟨dv, mN, mH, gv, rfl, hd, -, -, hg, f1⟩; obtain ⟨db, rfl⟩ := hd.ptr; obtain ⟨ga, gc, rfl, _⟩ := hg.form))
  have f2 := (Fr.refl w1).alloc (.cells #[.slice ga (makeG L).length gc] 30)
  have hRc := World.cell?_alloc_new (w := w1) #[.slice ga (makeG L).length gc] 30 0
  have hd := hd.fr f2 (by simp) (by simp)
  have hg := hg.fr f2
  have F := f1.then f2
  obtain ⟨R, hRR⟩ : ∃ R, R = w1.heap.size := ⟨_, rfl⟩
  rw [← hRR] at hRc ⊢
  clear hRR
  generalize w1.alloc (.cells #[.slice ga (makeG L).length gc] 30) = wS at hd hg hRc F ⊢
  clear f1 f2 hs hc hm hn
  have hlG := Lib.hid (Nat.le_trans (len_makeG L) HF.out.1 : (makeG L).length ≤ 30)
  have hwf := wf_makeG L
  have hRc : wS.cell? ⟨R, 0, none⟩ = some (.slice ga (makeG L).length gc) := hRc
  clear HF
  generalize makeG L = g at hd hg hRc hlG hwf ⊢
  have Hwf := Lib.hid hwf; clear hwf
  obtain ⟨p, hp⟩ : ∃ p : Option Addr, p = some ⟨db, 0, none⟩ := ⟨_, rfl⟩
  rw [← hp] at hd ⊢
  clear hp
  go_cut [7, 8] (fun s t wx => ∃ vb bm N : Nat, s = .pointer (some ⟨vb, 0, none⟩) ∧ t = .pointer (some ⟨N, 0, none⟩) ∧ wx.heap[N]? = some (.cells #[.slice ga g.length gc, .slice none 0 0] 37 (0, 0)) ∧ ValsA wx vb bm p [] 0 ∧ wS.heap.size ≤ bm ∧ wS.heap.size ≤ N ∧ Fr [] wS wx)
  case first =>
    refine wp_region_ordX Fr.pre [6] (.op 0 2 (.op 2 0 (.op 3 0 (.alt 1 (.op 4 1 (.op 5 2 (.op 6 1 .fin))) 4 (.op 1 1 (.op 5 2 (.op 6 1 .fin))))))) _ (by kernel_rfl) (by kernel_rfl) (by simp only [pickX, List.getElem?_cons_succ, List.getElem?_cons_zero]; rfl) ?_
    have F := (Fr.refl wS).drew
    have x_1 := Ext.cell (F.cell hRc)
    repeat (first | (with_reducible refine wpX_q (fun K hK => ?_); go_simp; refine hK _ ?_; clear hK K) | (with_reducible refine wpX_p (fun K hK => ?_); go_simp; refine hK _ ?_; clear hK K) | (with_reducible refine wpX_p (fun K hK => ?_); go_simp; rw [if_neg (by simp [undef])]; refine hK _ ?_; clear hK K) | (with_reducible refine wpX_q (fun K hK => ?_); go_simp; rw [if_neg (by simp [undef])]; refine hK _ ?_; clear hK K))
    clear x_1
    refine wpX_alt ?h1 ?h2
    case' h1 =>
      intro K hK
      (go_simp; intro wq hq; have F := F.then hq; refine (emptyA _ _).mono ?_; rintro e wp ⟨vb, rfl, hv, g1⟩; obtain ⟨bm, hbm⟩ : ∃ m, m = wq.heap.size := ⟨_, rfl⟩; rw [← hbm] at hv; have hbl : wS.heap.size ≤ bm := (by rw [hbm]; exact F.size); clear hbm; have F := F.then (g1); refine ⟨_, rfl, (g1), hK _ _ ?_⟩; clear hK K hq; skip)
      repeat (first | (with_reducible refine wpX_q (fun K hK => ?_); go_simp; refine hK _ ?_; clear hK K) | (with_reducible refine wpX_p (fun K hK => ?_); go_simp; refine hK _ ?_; clear hK K) | (with_reducible refine wpX_p (fun K hK => ?_); go_simp; rw [if_neg (by simp [undef])]; refine hK _ ?_; clear hK K) | (with_reducible refine wpX_q (fun K hK => ?_); go_simp; rw [if_neg (by simp [undef])]; refine hK _ ?_; clear hK K))
      (refine wpX_e (fun K hK => ?_); go_simp; intro wq hq; have F := F.then hq; have hv := hv.fr (hq); have hp_ := (Fr.refl wq).alloc (.cells #[.slice none 0 0, .slice none 0 0] 37); have hv := hv.fr (hp_); have hN := (MapKept.heap_alloc wq (.cells #[.slice none 0 0, .slice none 0 0] 37)).1; obtain ⟨N_hN, e_hN⟩ : ∃ N, N = wq.heap.size := ⟨_, rfl⟩; have l_hN := F.size; rw [← e_hN] at l_hN hN ⊢; have F := F.then hp_; refine ⟨hp_, hK _ _ ?_⟩; clear hK K hq hp_ e_hN; skip)
      repeat (first | (with_reducible refine wpX_q (fun K hK => ?_); go_simp; refine hK _ ?_; clear hK K) | (with_reducible refine wpX_p (fun K hK => ?_); go_simp; refine hK _ ?_; clear hK K) | (with_reducible refine wpX_p (fun K hK => ?_); go_simp; rw [if_neg (by simp [undef])]; refine hK _ ?_; clear hK K) | (with_reducible refine wpX_q (fun K hK => ?_); go_simp; rw [if_neg (by simp [undef])]; refine hK _ ?_; clear hK K))
    case' h2 =>
      intro K hK
      (go_simp; intro wq hq; have F := F.then hq; have hp_ := (Fr.refl wq).alloc (.cells #[.slice none 0 0, .slice none 0 0] 37); have hN := (MapKept.heap_alloc wq (.cells #[.slice none 0 0, .slice none 0 0] 37)).1; obtain ⟨N_hN, e_hN⟩ : ∃ N, N = wq.heap.size := ⟨_, rfl⟩; have l_hN := F.size; rw [← e_hN] at l_hN hN ⊢; have F := F.then hp_; refine ⟨hp_, hK _ _ ?_⟩; clear hK K hq hp_ e_hN; skip)
      repeat (first | (with_reducible refine wpX_q (fun K hK => ?_); go_simp; refine hK _ ?_; clear hK K) | (with_reducible refine wpX_p (fun K hK => ?_); go_simp; refine hK _ ?_; clear hK K) | (with_reducible refine wpX_p (fun K hK => ?_); go_simp; rw [if_neg (by simp [undef])]; refine hK _ ?_; clear hK K) | (with_reducible refine wpX_q (fun K hK => ?_); go_simp; rw [if_neg (by simp [undef])]; refine hK _ ?_; clear hK K))
      (refine wpX_e (fun K hK => ?_); go_simp; intro wq hq; have F := F.then hq; have hN := (hq).row hN; refine (emptyA _ _).mono ?_; rintro e wp ⟨vb, rfl, hv, g1⟩; have hN := (g1).row hN; obtain ⟨bm, hbm⟩ : ∃ m, m = wq.heap.size := ⟨_, rfl⟩; rw [← hbm] at hv; have hbl : wS.heap.size ≤ bm := (by rw [hbm]; exact F.size); clear hbm; have F := F.then (g1); refine ⟨_, rfl, (g1), hK _ _ ?_⟩; clear hK K hq; skip)
      repeat (first | (with_reducible refine wpX_q (fun K hK => ?_); go_simp; refine hK _ ?_; clear hK K) | (with_reducible refine wpX_p (fun K hK => ?_); go_simp; refine hK _ ?_; clear hK K) | (with_reducible refine wpX_p (fun K hK => ?_); go_simp; rw [if_neg (by simp [undef])]; refine hK _ ?_; clear hK K) | (with_reducible refine wpX_q (fun K hK => ?_); go_simp; rw [if_neg (by simp [undef])]; refine hK _ ?_; clear hK K))
    all_goals
      refine wpX_e (fun K hK => ?_)
      go_simp
      intro wq hq
      have F := F.then hq
      have hN := hq.row hN
      have hv := hv.fr hq
      have c0_ := rowAt hN (j := 0) rfl
      have c1_ := rowAt hN (j := 1) rfl
      have z0_ := rowFz hN 0
      have z1_ := rowFz hN 1
      go_simp
      refine hK _ _ ?_
      clear hK K
      refine wpX_nil (fun wz hwz => ?_)
      go_wp2_with fail
      go_meet
      exact ⟨vb, bm, _, rfl, rfl, hwz.row (row2 hN), (hv.far (Far.set2 hN _ _)).fr hwz, hbl, l_hN, (F.set2 l_hN _ _).then hwz⟩
  case rest =>
    obtain ⟨vb, bm, R8, rfl, rfl, hR8, hv, hbl, hRl, f1⟩ := hcut
    have hdn : DagA [bm] wc (.pointer p) g := by
      have x := isMp_lt (hd.maps mN (by simp))
      have y := isMp_lt (hd.maps mH (by simp))
      exact ⟨.inr ⟨mN, mH, hd.fr f1 List.not_mem_nil List.not_mem_nil, by simp; omega, by simp; omega⟩⟩
    have hg := hg.fr f1
    have Hb : Hid (∀ x, x ∈ [bm] → w.heap.size ≤ x) := Lib.hid (fun x hx => by simp at hx; subst hx; exact Nat.le_trans F.size hbl)
    have HR8 : Hid (w.heap.size ≤ R8) := Lib.hid (Nat.le_trans F.size hRl)
    have F := F.then f1
    have ls : ∀ x ∈ [bm], x ∈ [bm] := fun _ h => h
    clear hd f1 hRc hbl hRl
    obtain ⟨wA, rfl⟩ : ∃ wA : World, wA = wc := ⟨_, rfl⟩
    have hn40 : l.length ≤ 40 := HD.out.1
    obtain ⟨n, hnx⟩ : ∃ n, n = l.length := ⟨_, rfl⟩
    rw [← hnx] at hl hlc hln hn40 ⊢
    have Hn := Lib.hid hnx; clear hnx
    go_wp2
    go_loopw [9] (fun i wr => ∃ (k : Nat) (u : Value), k ≤ n ∧ i = .int .i64 k ∧ ValsA wr vb bm p (foldW g (l.take k)) k ∧ DagA [bm] wr (.pointer p) g ∧ Nodes wr (.slice ga g.length gc) g ∧ RowsR wr u ((foldW g (l.take k)).map Wr.rw) ∧ wr.heap[R8]? = some (.cells #[.slice ga g.length gc, u] 37 (0, 0)) ∧ Fr [] w wr) (fun i _ => n - (intOf i).toNat)
    case atStart => exact ⟨0, _, Nat.zero_le _, rfl, hv, hdn, hg, Recs.nil _, hR8, F⟩
    case round =>
      obtain ⟨k, u, hk, rfl, hv, hdn, hg, hr, hR8, F⟩ := hrel
      by_cases hlt : k < n
      · obtain ⟨x, hx⟩ : ∃ x, l[k]? = some x := ⟨_, List.getElem?_eq_getElem (Hn.out ▸ hlt)⟩
        obtain ⟨b, o, hidx, hcell⟩ := (hl.fr F).at_ lenDd Hn.out 23 42 Tryz.underlying23 Tryz.sizeOf42 k x hx
        have c1 : wr.cell? ⟨b, o + 1, none⟩ = some (.string x.name) := hcell 1 _ rfl
        have c2 : wr.cell? ⟨b, o + 2, none⟩ = some (.string x.text) := hcell 2 _ rfl
        have c3 : wr.cell? ⟨b, o + 3, none⟩ = some (.string x.id) := hcell 3 _ rfl
        have HN : Hid (x.name.size ≤ 60) := Lib.hid (HD.out.2 x (List.mem_of_getElem? hx)).1
        have Hs := Lib.hid (foldW_snoc (g := g) hx)
        have Hx := Lib.hid hx
        have HL : Hid ((foldW g (l.take k)).length ≤ 40) := Lib.hid (Nat.le_trans (len_foldW_take g l k) (by omega))
        have HL1 : Hid ((foldW g (l.take (k + 1))).length ≤ 40) := Lib.hid (Nat.le_trans (len_foldW_take g l (k + 1)) (by omega))
        obtain ⟨L0, hL0⟩ : ∃ L0, L0 = foldW g (l.take k) := ⟨_, rfl⟩
        rw [← hL0] at hv hr HL Hs
        clear hcell hx hL0
        have Hsrt := Lib.hid hv.out.srt
        obtain ⟨q, hqx⟩ : ∃ q, q = L0.length := ⟨_, rfl⟩
        have hqr : q = (L0.map Wr.rw).length := by rw [hqx]; simp
        obtain ⟨ua, uc, rfl⟩ := hr.formN q hqr.symm
        clear hqx hqr
        have d0 := rowAt hR8 (j := 0) rfl
        have d1 := rowAt hR8 (j := 1) rfl
        obtain ⟨wo, rfl⟩ : ∃ wo : World, wo = wr := ⟨_, rfl⟩
        go_upto_region 10 with fail
        go_cut [10, 11] (fun s t wx => ∃ (N q2 : Nat) (ua2 : Option Addr) (uc2 : Nat), s = .pointer (some ⟨N, 0, none⟩) ∧ t = .int .i64 (writeE L0 x.wr) ∧ wx.heap[N]? = some (.cells #[.slice ga g.length gc, .slice ua2 q2 uc2] 37 (0, 0)) ∧ RowsR wx (.slice ua2 q2 uc2) ((writeL g L0 x.wr).map Wr.rw) ∧ Fr [] wo wx)
        case first =>
          refine wp_region_ordX Fr.pre [21] (.op 0 0 (.op 1 2 (.op 2 2 (.op 3 2 (.op 4 2 (.op 5 0 (.op 6 2 (.op 7 2 (.op 8 2 (.op 9 2 (.op 10 0 (.op 11 2 (.op 12 2 (.op 13 2 (.op 14 2 (.op 15 0 (.alt 16 (.op 17 2 (.op 18 2 (.op 19 2 (.op 20 1 (.op 21 1 (.op 22 2 .fin)))))) 20 (.op 16 1 (.op 17 2 (.op 18 2 (.op 19 2 (.op 21 1 (.op 22 2 .fin))))))))))))))))))))))) _ (by kernel_rfl) (by kernel_rfl) (by simp only [pickX, List.getElem?_cons_succ, List.getElem?_cons_zero]; rfl) ?_
          have F := (Fr.refl wo).drew
          have hg := hg.fr F
          have hr := hr.fr F
          have x_1 := Ext.cell (F.cell d0)
          have x_2 := Ext.cell (F.cell d1)
          have x_3 := Ext.cell (F.cell c1)
          have x_4 := Ext.cell (F.cell c2)
          have x_5 := Ext.cell (F.cell c3)
          repeat (first | (with_reducible refine wpX_q (fun K hK => ?_); go_simp; refine hK _ ?_; clear hK K) | (with_reducible refine wpX_p (fun K hK => ?_); go_simp; refine hK _ ?_; clear hK K) | (with_reducible refine wpX_p (fun K hK => ?_); go_simp; rw [if_neg (by simp [undef])]; refine hK _ ?_; clear hK K) | (with_reducible refine wpX_q (fun K hK => ?_); go_simp; rw [if_neg (by simp [undef])]; refine hK _ ?_; clear hK K))
          clear x_1 x_2 x_3 x_4 x_5
          refine wpX_alt ?h3 ?h4
          case' h3 =>
            intro K hK
            (go_simp; intro wq hq; have F := F.then hq; have hg := hg.fr (hq); have hr := hr.fr (hq); refine (write21A x hg hr HN.out Hwf.out hlG.out HL.out Hsrt.out).mono ?_; rintro e wp ⟨u2, rfl, hu, g1⟩; have hg := hg.fr (g1); have hr := hr.fr (g1); obtain ⟨ua2, q2, uc2, rfl⟩ := hu.formX; have F := F.then (g1); refine ⟨_, rfl, (g1), hK _ _ ?_⟩; clear hK K hq; skip)
            repeat (first | (with_reducible refine wpX_q (fun K hK => ?_); go_simp; refine hK _ ?_; clear hK K) | (with_reducible refine wpX_p (fun K hK => ?_); go_simp; refine hK _ ?_; clear hK K) | (with_reducible refine wpX_p (fun K hK => ?_); go_simp; rw [if_neg (by simp [undef])]; refine hK _ ?_; clear hK K) | (with_reducible refine wpX_q (fun K hK => ?_); go_simp; rw [if_neg (by simp [undef])]; refine hK _ ?_; clear hK K))
            (refine wpX_e (fun K hK => ?_); go_simp; intro wq hq; have F := F.then hq; have hu := hu.fr (hq); have hp_ := (Fr.refl wq).alloc (.cells #[.slice none 0 0, .slice none 0 0] 37); have hu := hu.fr (hp_); have hN := (MapKept.heap_alloc wq (.cells #[.slice none 0 0, .slice none 0 0] 37)).1; obtain ⟨N_hN, e_hN⟩ : ∃ N, N = wq.heap.size := ⟨_, rfl⟩; have l_hN := F.size; rw [← e_hN] at l_hN hN ⊢; have F := F.then hp_; refine ⟨hp_, hK _ _ ?_⟩; clear hK K hq hp_ e_hN; skip)
            repeat (first | (with_reducible refine wpX_q (fun K hK => ?_); go_simp; refine hK _ ?_; clear hK K) | (with_reducible refine wpX_p (fun K hK => ?_); go_simp; refine hK _ ?_; clear hK K) | (with_reducible refine wpX_p (fun K hK => ?_); go_simp; rw [if_neg (by simp [undef])]; refine hK _ ?_; clear hK K) | (with_reducible refine wpX_q (fun K hK => ?_); go_simp; rw [if_neg (by simp [undef])]; refine hK _ ?_; clear hK K))
          case' h4 =>
            intro K hK
            (go_simp; intro wq hq; have F := F.then hq; have hg := hg.fr (hq); have hr := hr.fr (hq); have hp_ := (Fr.refl wq).alloc (.cells #[.slice none 0 0, .slice none 0 0] 37); have hg := hg.fr (hp_); have hr := hr.fr (hp_); have hN := (MapKept.heap_alloc wq (.cells #[.slice none 0 0, .slice none 0 0] 37)).1; obtain ⟨N_hN, e_hN⟩ : ∃ N, N = wq.heap.size := ⟨_, rfl⟩; have l_hN := F.size; rw [← e_hN] at l_hN hN ⊢; have F := F.then hp_; refine ⟨hp_, hK _ _ ?_⟩; clear hK K hq hp_ e_hN; skip)
            repeat (first | (with_reducible refine wpX_q (fun K hK => ?_); go_simp; refine hK _ ?_; clear hK K) | (with_reducible refine wpX_p (fun K hK => ?_); go_simp; refine hK _ ?_; clear hK K) | (with_reducible refine wpX_p (fun K hK => ?_); go_simp; rw [if_neg (by simp [undef])]; refine hK _ ?_; clear hK K) | (with_reducible refine wpX_q (fun K hK => ?_); go_simp; rw [if_neg (by simp [undef])]; refine hK _ ?_; clear hK K))
            (refine wpX_e (fun K hK => ?_); go_simp; intro wq hq; have F := F.then hq; have hN := (hq).row hN; have hg := hg.fr (hq); have hr := hr.fr (hq); refine (write21A x hg hr HN.out Hwf.out hlG.out HL.out Hsrt.out).mono ?_; rintro e wp ⟨u2, rfl, hu, g1⟩; have hN := (g1).row hN; have hg := hg.fr (g1); have hr := hr.fr (g1); obtain ⟨ua2, q2, uc2, rfl⟩ := hu.formX; have F := F.then (g1); refine ⟨_, rfl, (g1), hK _ _ ?_⟩; clear hK K hq; skip)
            repeat (first | (with_reducible refine wpX_q (fun K hK => ?_); go_simp; refine hK _ ?_; clear hK K) | (with_reducible refine wpX_p (fun K hK => ?_); go_simp; refine hK _ ?_; clear hK K) | (with_reducible refine wpX_p (fun K hK => ?_); go_simp; rw [if_neg (by simp [undef])]; refine hK _ ?_; clear hK K) | (with_reducible refine wpX_q (fun K hK => ?_); go_simp; rw [if_neg (by simp [undef])]; refine hK _ ?_; clear hK K))
          all_goals
            refine wpX_e (fun K hK => ?_)
            go_simp
            intro wq hq
            have F := F.then hq
            have hN := hq.row hN
            have hu := hu.fr hq
            have c0_ := rowAt hN (j := 0) rfl
            have c1_ := rowAt hN (j := 1) rfl
            have z0_ := rowFz hN 0
            have z1_ := rowFz hN 1
            go_simp
            refine hK _ _ ?_
            clear hK K
            repeat (first | (with_reducible refine wpX_q (fun K hK => ?_); go_simp; refine hK _ ?_; clear hK K) | (with_reducible refine wpX_p (fun K hK => ?_); go_simp; refine hK _ ?_; clear hK K) | (with_reducible refine wpX_p (fun K hK => ?_); go_simp; rw [if_neg (by simp [undef])]; refine hK _ ?_; clear hK K) | (with_reducible refine wpX_q (fun K hK => ?_); go_simp; rw [if_neg (by simp [undef])]; refine hK _ ?_; clear hK K))
            refine wpX_nil (fun wz hwz => ?_)
            go_wp2_with fail
            go_meet
            exact ⟨_, _, _, _, rfl, rfl, hwz.row (row2 hN), (RowsR.far (Far.set2 hN _ _) hu).fr hwz, (F.set2 l_hN _ _).then hwz⟩
        case rest =>
          obtain ⟨N, q2, ua2, uc2, rfl, rfl, hN, hu, f1⟩ := hcut
          have hv := hv.fr f1
          have hdn := hdn.fr f1
          have hg := hg.fr f1
          have hR8 := f1.row hR8
          have F := F.then f1
          have n0 := rowAt hN (j := 0) rfl
          have n1 := rowAt hN (j := 1) rfl
          have e0 := rowAt hR8 (j := 0) rfl
          have e1 := rowAt hR8 (j := 1) rfl
          have z0 := rowFz hR8 0
          have z1 := rowFz hR8 1
          clear hr d0 d1 c1 c2 c3 hidx f1
          obtain ⟨L1, hL1⟩ : ∃ L1, L1 = writeL g L0 x.wr := ⟨_, rfl⟩
          have HL1 : Hid (L1.length ≤ 40) := by rw [hL1, ← Hs.out]; exact HL1
          have HLb : Hid (L1.length ≤ 1000000) := Lib.hid (Nat.le_trans HL1.out (by decide))
          have HK : Hid (k + 1 ≤ 1000) := Lib.hid (by omega)
          have HE := Lib.hid hL1
          rw [← hL1] at hu
          clear hL1
          go_upto_region 12 with fail
          have hf8 := Far.set2 hR8 (.slice ga g.length gc) (.slice ua2 q2 uc2)
          have hv := hv.far hf8
          have hdn := hdn.far hf8
          have hg := Nodes.far hf8 hg
          have hu := RowsR.far hf8 hu
          have F := F.set2 HR8.out (.slice ga g.length gc) (.slice ua2 q2 uc2)
          have hR8 := row2 (x := .slice ga g.length gc) (y := .slice ua2 q2 uc2) hR8
          clear hf8 n0 n1 e0 e1 z0 z1 hN
          generalize (wc.setCell ⟨R8, 0, none⟩ (.slice ga g.length gc)).setCell ⟨R8, 1, none⟩ (.slice ua2 q2 uc2) = wB at hv hdn hg hu F hR8 ⊢
          obtain ⟨b, o, hidx, hcell⟩ := (hl.fr F).at_ lenDd Hn.out 23 42 Tryz.underlying23 Tryz.sizeOf42 k x Hx.out
          have c1 : wB.cell? ⟨b, o + 1, none⟩ = some (.string x.name) := hcell 1 _ rfl
          have c2 : wB.cell? ⟨b, o + 2, none⟩ = some (.string x.text) := hcell 2 _ rfl
          have c3 : wB.cell? ⟨b, o + 3, none⟩ = some (.string x.id) := hcell 3 _ rfl
          have d0 := rowAt hR8 (j := 0) rfl
          have d1 := rowAt hR8 (j := 1) rfl
          clear hcell
          refine wp_region_ordX Fr.pre [16] (.op 0 2 (.op 1 2 (.op 2 2 (.op 3 2 (.op 4 2 (.op 5 0 (.op 6 2 (.op 7 2 (.op 8 2 (.op 9 2 (.op 10 0 (.op 11 2 (.op 12 2 (.op 13 2 (.op 14 2 (.op 15 0 (.op 17 2 (.op 16 1 (.op 18 2 (.op 19 2 (.op 20 2 (.op 22 0 (.op 21 1 (.op 23 1 (.op 24 1 (.op 25 2 (.op 26 2 (.op 27 2 (.op 28 2 (.op 30 2 (.op 31 0 (.op 29 1 (.op 32 1 (.op 33 2 (.op 34 2 (.op 35 2 (.op 36 2 (.op 37 2 (.op 38 2 (.op 39 2 (.op 40 2 (.op 41 0 (.op 43 0 (.op 44 2 (.op 45 2 (.op 46 2 (.op 47 2 (.op 48 0 (.op 42 1 (.op 49 1 (.op 50 1 (.op 51 2 (.op 52 2 .fin))))))))))))))))))))))))))))))))))))))))))))))))))))) _ (by kernel_rfl) (by kernel_rfl) (by simp only [pickX, List.getElem?_cons_succ, List.getElem?_cons_zero]; rfl) ?_
          have F0 := F
          have F := (Fr.refl wB).drew
          have hv := hv.fr F
          have hdn := hdn.fr F
          have hg := hg.fr F
          have hu := hu.fr F
          have hR8 := F.row hR8
          have c1 := F.cell c1
          have x_1 := Ext.cell c1
          have x_2 := Ext.cell (F.cell c2)
          have x_3 := Ext.cell (F.cell c3)
          have d0 := F.cell d0
          have d1 := F.cell d1
          repeat (first | (with_reducible refine wpX_q (fun K hK => ?_); go_simp; refine hK _ ?_; clear hK K) | (with_reducible refine wpX_p (fun K hK => ?_); go_simp; refine hK _ ?_; clear hK K) | (with_reducible refine wpX_p (fun K hK => ?_); go_simp; rw [if_neg (by simp [undef])]; refine hK _ ?_; clear hK K) | (with_reducible refine wpX_q (fun K hK => ?_); go_simp; rw [if_neg (by simp [undef])]; refine hK _ ?_; clear hK K))
          clear x_1 x_2 x_3 c2 c3
          refine wpX_e (fun K hK => ?_)
          go_simp
          intro wq hq
          have F := F0.then (F.then hq)
          have hv := hv.fr hq
          have hdn := hdn.fr hq
          have hg := hg.fr hq
          have hu := hu.fr hq
          have hR8 := hq.row hR8
          have c1 := hq.cell c1
          have d0 := hq.cell d0
          have d1 := hq.cell d1
          refine (writeA x hv hdn Hwf.out hlG.out HL.out HN.out).mono ?_
          rintro e wp ⟨rfl, hv, g1⟩
          have F := F.drop g1 Hb.out
          have hdn : DagA [bm] wp (.pointer p) g := ⟨hdn.out.fr g1 ls⟩
          have hg := hg.fr g1
          have hu := hu.fr g1
          have hR8 := g1.row hR8
          have c1 := g1.cell c1
          have d0 := g1.cell d0
          have d1 := g1.cell d1
          rw [← HE.out] at hv
          refine ⟨_, rfl, hK _ _ ?_⟩
          clear hK K hq g1 F0
          have x_c1 := Ext.cell c1
          have x_d0 := Ext.cell d0
          have x_d1 := Ext.cell d1
          generalize writeE L0 x.wr = E0
          repeat (first | (with_reducible refine wpX_q (fun K hK => ?_); go_simp; refine hK _ ?_; clear hK K) | (with_reducible refine wpX_p (fun K hK => ?_); go_simp; refine hK _ ?_; clear hK K) | (with_reducible refine wpX_p (fun K hK => ?_); go_simp; rw [if_neg (by simp [undef])]; refine hK _ ?_; clear hK K) | (with_reducible refine wpX_q (fun K hK => ?_); go_simp; rw [if_neg (by simp [undef])]; refine hK _ ?_; clear hK K))
          (refine wpX_e (fun K hK => ?_); go_simp; intro wq hq; have F := F.then hq; (try clear x_c1 x_d0 x_d1); have hv := hv.fr (hq); have hdn := hdn.fr (hq); have hg := hg.fr (hq); have hu := hu.fr (hq); have hR8 := (hq).row hR8; have c1 := (hq).cell c1; have d0 := (hq).cell d0; have d1 := (hq).cell d1; refine (tellA hv HL1.out HK.out).mono ?_; rintro e wp ⟨u1, rfl, h1, g1⟩; have hv := hv.fr (g1); have hdn := hdn.fr (g1); have hg := hg.fr (g1); have hu := hu.fr (g1); have hR8 := (g1).row hR8; have c1 := (g1).cell c1; have d0 := (g1).cell d0; have d1 := (g1).cell d1; obtain ⟨a1, n1, k1, rfl⟩ := h1.formX; have F := F.then (g1); refine ⟨_, rfl, (g1), hK _ _ ?_⟩; clear hK K hq; have x_c1 := Ext.cell c1; have x_d0 := Ext.cell d0; have x_d1 := Ext.cell d1; )
          repeat (first | (with_reducible refine wpX_q (fun K hK => ?_); go_simp; refine hK _ ?_; clear hK K) | (with_reducible refine wpX_p (fun K hK => ?_); go_simp; refine hK _ ?_; clear hK K) | (with_reducible refine wpX_p (fun K hK => ?_); go_simp; rw [if_neg (by simp [undef])]; refine hK _ ?_; clear hK K) | (with_reducible refine wpX_q (fun K hK => ?_); go_simp; rw [if_neg (by simp [undef])]; refine hK _ ?_; clear hK K))
          (refine wpX_e (fun K hK => ?_); go_simp; intro wq hq; have F := F.then hq; (try clear x_c1 x_d0 x_d1); have h1 := h1.fr (hq); have hv := hv.fr (hq); have hdn := hdn.fr (hq); have hg := hg.fr (hq); have hu := hu.fr (hq); have hR8 := (hq).row hR8; have c1 := (hq).cell c1; have d0 := (hq).cell d0; have d1 := (hq).cell d1; refine (tell21 _ _ _ _ _ hg hu HLb.out).mono ?_; rintro e wp ⟨u2, rfl, h2, g1⟩; have h1 := h1.fr (g1); have hv := hv.fr (g1); have hdn := hdn.fr (g1); have hg := hg.fr (g1); have hu := hu.fr (g1); have hR8 := (g1).row hR8; have c1 := (g1).cell c1; have d0 := (g1).cell d0; have d1 := (g1).cell d1; obtain ⟨a2, n2, k2, rfl⟩ := h2.formX; have F := F.then (g1); refine ⟨_, rfl, (g1), hK _ _ ?_⟩; clear hK K hq; have x_c1 := Ext.cell c1; have x_d0 := Ext.cell d0; have x_d1 := Ext.cell d1; )
          repeat (first | (with_reducible refine wpX_q (fun K hK => ?_); go_simp; refine hK _ ?_; clear hK K) | (with_reducible refine wpX_p (fun K hK => ?_); go_simp; refine hK _ ?_; clear hK K) | (with_reducible refine wpX_p (fun K hK => ?_); go_simp; rw [if_neg (by simp [undef])]; refine hK _ ?_; clear hK K) | (with_reducible refine wpX_q (fun K hK => ?_); go_simp; rw [if_neg (by simp [undef])]; refine hK _ ?_; clear hK K))
          (refine wpX_e (fun K hK => ?_); go_simp; intro wq hq; have F := F.then hq; (try clear x_c1 x_d0 x_d1); have h1 := h1.fr (hq); have h2 := h2.fr (hq); have hv := hv.fr (hq); have hdn := hdn.fr (hq); have hg := hg.fr (hq); have hu := hu.fr (hq); have hR8 := (hq).row hR8; have c1 := (hq).cell c1; have d0 := (hq).cell d0; have d1 := (hq).cell d1; refine (sameWords _ _ _ _ _ h1 h2 rfl).mono ?_; rintro e wp ⟨rfl, g1⟩; have h1 := h1.fr (g1); have h2 := h2.fr (g1); have hv := hv.fr (g1); have hdn := hdn.fr (g1); have hg := hg.fr (g1); have hu := hu.fr (g1); have hR8 := (g1).row hR8; have c1 := (g1).cell c1; have d0 := (g1).cell d0; have d1 := (g1).cell d1; clear h1 h2; have F := F.then (g1); refine ⟨_, rfl, (g1), hK _ _ ?_⟩; clear hK K hq; have x_c1 := Ext.cell c1; have x_d0 := Ext.cell d0; have x_d1 := Ext.cell d1; )
          repeat (first | (with_reducible refine wpX_q (fun K hK => ?_); go_simp; refine hK _ ?_; clear hK K) | (with_reducible refine wpX_p (fun K hK => ?_); go_simp; refine hK _ ?_; clear hK K) | (with_reducible refine wpX_p (fun K hK => ?_); go_simp; rw [if_neg (by simp [undef])]; refine hK _ ?_; clear hK K) | (with_reducible refine wpX_q (fun K hK => ?_); go_simp; rw [if_neg (by simp [undef])]; refine hK _ ?_; clear hK K))
          (refine wpX_e (fun K hK => ?_); go_simp; intro wq hq; have F := F.then hq; (try clear x_c1 x_d0 x_d1); have hv := hv.fr (hq); have hdn := hdn.fr (hq); have hg := hg.fr (hq); have hu := hu.fr (hq); have hR8 := (hq).row hR8; have c1 := (hq).cell c1; have d0 := (hq).cell d0; have d1 := (hq).cell d1; refine (rowsA hv HL1.out HK.out).mono ?_; rintro e wp ⟨u1, rfl, h1, g1⟩; have hv := hv.fr (g1); have hdn := hdn.fr (g1); have hg := hg.fr (g1); have hu := hu.fr (g1); have hR8 := (g1).row hR8; have c1 := (g1).cell c1; have d0 := (g1).cell d0; have d1 := (g1).cell d1; obtain ⟨a1, n1, k1, rfl⟩ := h1.formX; have F := F.then (g1); refine ⟨_, rfl, (g1), hK _ _ ?_⟩; clear hK K hq; have x_c1 := Ext.cell c1; have x_d0 := Ext.cell d0; have x_d1 := Ext.cell d1; )
          repeat (first | (with_reducible refine wpX_q (fun K hK => ?_); go_simp; refine hK _ ?_; clear hK K) | (with_reducible refine wpX_p (fun K hK => ?_); go_simp; refine hK _ ?_; clear hK K) | (with_reducible refine wpX_p (fun K hK => ?_); go_simp; rw [if_neg (by simp [undef])]; refine hK _ ?_; clear hK K) | (with_reducible refine wpX_q (fun K hK => ?_); go_simp; rw [if_neg (by simp [undef])]; refine hK _ ?_; clear hK K))
          (refine wpX_e (fun K hK => ?_); go_simp; intro wq hq; have F := F.then hq; (try clear x_c1 x_d0 x_d1); have h1 := h1.fr (hq); have hv := hv.fr (hq); have hdn := hdn.fr (hq); have hg := hg.fr (hq); have hu := hu.fr (hq); have hR8 := (hq).row hR8; have c1 := (hq).cell c1; have d0 := (hq).cell d0; have d1 := (hq).cell d1; refine (sameRows _ _ _ _ _ h1 hu rfl).mono ?_; rintro e wp ⟨rfl, g1⟩; have h1 := h1.fr (g1); have hv := hv.fr (g1); have hdn := hdn.fr (g1); have hg := hg.fr (g1); have hu := hu.fr (g1); have hR8 := (g1).row hR8; have c1 := (g1).cell c1; have d0 := (g1).cell d0; have d1 := (g1).cell d1; clear h1; have F := F.then (g1); refine ⟨_, rfl, (g1), hK _ _ ?_⟩; clear hK K hq; have x_c1 := Ext.cell c1; have x_d0 := Ext.cell d0; have x_d1 := Ext.cell d1; )
          repeat (first | (with_reducible refine wpX_q (fun K hK => ?_); go_simp; refine hK _ ?_; clear hK K) | (with_reducible refine wpX_p (fun K hK => ?_); go_simp; refine hK _ ?_; clear hK K) | (with_reducible refine wpX_p (fun K hK => ?_); go_simp; rw [if_neg (by simp [undef])]; refine hK _ ?_; clear hK K) | (with_reducible refine wpX_q (fun K hK => ?_); go_simp; rw [if_neg (by simp [undef])]; refine hK _ ?_; clear hK K))
          (refine wpX_e (fun K hK => ?_); go_simp; intro wq hq; have F := F.then hq; (try clear x_c1 x_d0 x_d1); have hv := hv.fr (hq); have hdn := hdn.fr (hq); have hg := hg.fr (hq); have hu := hu.fr (hq); have hR8 := (hq).row hR8; have c1 := (hq).cell c1; have d0 := (hq).cell d0; have d1 := (hq).cell d1; refine (ofA x.name hv HL1.out).mono ?_; rintro e wp ⟨u1, rfl, h1, g1⟩; have hv := hv.fr (g1); have hdn := hdn.fr (g1); have hg := hg.fr (g1); have hu := hu.fr (g1); have hR8 := (g1).row hR8; have c1 := (g1).cell c1; have d0 := (g1).cell d0; have d1 := (g1).cell d1; obtain ⟨a1, n1, k1, rfl⟩ := h1.formX; have F := F.then (g1); refine ⟨_, rfl, (g1), hK _ _ ?_⟩; clear hK K hq; have x_c1 := Ext.cell c1; have x_d0 := Ext.cell d0; have x_d1 := Ext.cell d1; )
          repeat (first | (with_reducible refine wpX_q (fun K hK => ?_); go_simp; refine hK _ ?_; clear hK K) | (with_reducible refine wpX_p (fun K hK => ?_); go_simp; refine hK _ ?_; clear hK K) | (with_reducible refine wpX_p (fun K hK => ?_); go_simp; rw [if_neg (by simp [undef])]; refine hK _ ?_; clear hK K) | (with_reducible refine wpX_q (fun K hK => ?_); go_simp; rw [if_neg (by simp [undef])]; refine hK _ ?_; clear hK K))
          (refine wpX_e (fun K hK => ?_); go_simp; intro wq hq; have F := F.then hq; (try clear x_c1 x_d0 x_d1); have h1 := h1.fr (hq); have hv := hv.fr (hq); have hdn := hdn.fr (hq); have hg := hg.fr (hq); have hu := hu.fr (hq); have hR8 := (hq).row hR8; have c1 := (hq).cell c1; have d0 := (hq).cell d0; have d1 := (hq).cell d1; refine (of21 _ _ g _ _ _ hg hu HLb.out).mono ?_; rintro e wp ⟨u2, rfl, h2, g1⟩; have h1 := h1.fr (g1); have hv := hv.fr (g1); have hdn := hdn.fr (g1); have hg := hg.fr (g1); have hu := hu.fr (g1); have hR8 := (g1).row hR8; have c1 := (g1).cell c1; have d0 := (g1).cell d0; have d1 := (g1).cell d1; obtain ⟨a2, n2, k2, rfl⟩ := h2.formX; have F := F.then (g1); refine ⟨_, rfl, (g1), hK _ _ ?_⟩; clear hK K hq; have x_c1 := Ext.cell c1; have x_d0 := Ext.cell d0; have x_d1 := Ext.cell d1; )
          repeat (first | (with_reducible refine wpX_q (fun K hK => ?_); go_simp; refine hK _ ?_; clear hK K) | (with_reducible refine wpX_p (fun K hK => ?_); go_simp; refine hK _ ?_; clear hK K) | (with_reducible refine wpX_p (fun K hK => ?_); go_simp; rw [if_neg (by simp [undef])]; refine hK _ ?_; clear hK K) | (with_reducible refine wpX_q (fun K hK => ?_); go_simp; rw [if_neg (by simp [undef])]; refine hK _ ?_; clear hK K))
          (refine wpX_e (fun K hK => ?_); go_simp; intro wq hq; have F := F.then hq; have h1 := h1.fr (hq); have h2 := h2.fr (hq); have hv := hv.fr (hq); have hdn := hdn.fr (hq); have hg := hg.fr (hq); have hu := hu.fr (hq); have hR8 := (hq).row hR8; refine (textsT _ _ _ _ _ h1 h2 rfl).mono ?_; rintro e wp ⟨rfl, g1⟩; have h1 := h1.fr (g1); have h2 := h2.fr (g1); have hv := hv.fr (g1); have hdn := hdn.fr (g1); have hg := hg.fr (g1); have hu := hu.fr (g1); have hR8 := (g1).row hR8; clear h1 h2; have F := F.then (g1); refine ⟨_, rfl, (g1), hK _ _ ?_⟩; clear hK K hq; skip)
          repeat (first | (with_reducible refine wpX_q (fun K hK => ?_); go_simp; refine hK _ ?_; clear hK K) | (with_reducible refine wpX_p (fun K hK => ?_); go_simp; refine hK _ ?_; clear hK K) | (with_reducible refine wpX_p (fun K hK => ?_); go_simp; rw [if_neg (by simp [undef])]; refine hK _ ?_; clear hK K) | (with_reducible refine wpX_q (fun K hK => ?_); go_simp; rw [if_neg (by simp [undef])]; refine hK _ ?_; clear hK K))
          refine wpX_nil (fun wz hwz => ?_)
          have hv := hv.fr hwz
          have hdn := hdn.fr hwz
          have hg := hg.fr hwz
          have hu := hu.fr hwz
          have hR8 := hwz.row hR8
          have F := F.then hwz
          clear hwz hidx c1 d0 d1
          go_wp2
          go_roundw
          case rel => exact ⟨k + 1, _, by omega, by go_num, by rw [Hs.out, ← HE.out]; exact hv, hdn, hg, by rw [Hs.out, ← HE.out]; exact hu, hR8, F⟩
          case measure => simp [intOf]; omega
      · clear hR8 hdn hg hr hv
        go_wp2_with (go_at_call 16; refine (awakeV _).mono ?_; rintro e w1 ⟨rfl, f1⟩)
        go_ret
        exact ⟨rfl, F.then f1⟩
end Go.Proofs.YtppgjglfoibfcaaGreat
