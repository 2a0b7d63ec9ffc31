import Derived.Test.YtppgjglfoibfcaaGreatTopsP
set_option linter.unusedSimpArgs false
set_option linter.unusedVariables false
/-
  Chapter 21: deeds appended; what is told of two texts.
-/
namespace Go.Proofs.YtppgjglfoibfcaaGreat
open Go.RowKit

theorem oneDd (r : Dd) : ∀ v ∈ encDd r, v.oneCell' = true := by intro v hv; simp [encDd] at hv; rcases hv with rfl | rfl | rfl | rfl <;> rfl
theorem infoDd : (Tryz.prog.info? 42).map (fun i => (i.zero, i.size, i.bytes)) = some (some (.agg #[.bool false, .string ⟨#[]⟩, .string ⟨#[]⟩, .string ⟨#[]⟩]), 4, 56) := by kernel_rfl
theorem wpList_appDd {w : World} {ops : Array Oper} {rest : List Oper} {o : Oper} {a : Act} {Q : Exit → Act → World → Prop} (hgd : o.guard = none) (s x : Operand)
    (ho : o.op = .call { callee := .builtin .append, args := #[s, x], argTypes := #[23, 23] })
    (base : Nat) (v : Value) (xs : List Dd) (hs : a.eval s = v) (hown : w.ownsRow base 42 4 v xs.length (xs.flatMap encDd))
    (xv : Value) (ys : List Dd) (hx : a.eval x = xv) (hsl : Deeds w xv ys) (hbytes : xs.length + ys.length ≤ 100000000) (hbase : base ≤ w.heap.size)
    (h : ∀ v' w', w'.ownsRow base 42 4 v' (xs ++ ys).length ((xs ++ ys).flatMap encDd) → w.grownBy w' v.ownBlock → (v'.ownBlock = v.ownBlock ∨ v'.ownBlock = some w.heap.size) → wpList Tryz.prog ops Q rest (a.put o.dst v') w') :
    wpList Tryz.prog ops Q (o :: rest) a w :=
  wpList_appR lenDd oneDd hgd s x 23 ho 42 _ 56 Tryz.underlying23 infoDd rfl (by decide) (by decide) base v xs hs hown xv ys hx hsl (by omega) hbase h
theorem deed_new (w : World) (x : Dd) : Deeds (w.alloc (.cells #[.bool x.gone, .string x.name, .string x.text, .string x.id] 42)) (.slice (some ⟨w.heap.size, 0, none⟩) 1 1) [x] := by
  have := Recs.new lenDd w [x] 42 (by simp)
  simpa [encDd] using this
theorem ValsA.mono {w : World} {vb bm : Nat} {p : Option Addr} {L : List Wr} {K K' : Nat} (h : ValsA w vb bm p L K) (hK : K ≤ K') : ValsA w vb bm p L K' := by
  obtain ⟨l, h1, h2, h3⟩ := h.out.map
  exact ⟨⟨h.out.blk, ⟨l, h1, Nat.le_trans h2 hK, h3⟩, h.out.srt⟩⟩
theorem recs_grown {α : Type} {k : Nat} {enc : α → List Value} {w w' : World} {r : Option Nat} {u : Value} {xs : List α} (h : Recs k enc w u xs) (hg : w.grownBy w' r) (hs : ∀ b, u.ownBlock = some b → r ≠ some b) : Recs k enc w' u xs := by
  obtain ⟨h1, h2, a, c, e, h3, h4, h5, h6⟩ := h
  subst e
  refine ⟨h1, h2, a, c, rfl, h3, h4, h5, fun hp => ?_⟩
  obtain ⟨b, o, rfl, hc⟩ := h6 hp
  refine ⟨b, o, rfl, fun i x hx => ?_⟩
  have hcx := hc i x hx
  have hlt := World.block_lt_of_cell? w _ hcx
  rw [World.cell?_of_block (hg.block b hlt (fun e => hs b rfl e.symm))]
  exact hcx
theorem ValsA.grown {w w' : World} {vb bm : Nat} {p : Option Addr} {L : List Wr} {K : Nat} {r : Option Nat} (h : ValsA w vb bm p L K) (hA : Aw (fun b => r ≠ some b) w bm) (hv : r ≠ some vb) (hm : r ≠ some bm) (hg : w.grownBy w' r) : ValsA w' vb bm p L K := by
  obtain ⟨l, h1, h2, h3, h4⟩ := h.out.map
  exact ⟨⟨(hg.block vb (row_lt h.out.blk) (fun e => hv e.symm)).trans h.out.blk, ⟨l, mp_grown h1 hg hm, h2, h3, fun n => (h4 n).imp (fun ⟨u, a, b⟩ => ⟨u, a, recs_grown b hg (fun b hb => hA l h1 n u a b hb)⟩) _root_.id⟩, h.out.srt⟩⟩
theorem Aw.grown {P : Nat → Prop} {w w' : World} {bm : Nat} {r : Option Nat} (h : Aw P w bm) (hg : w.grownBy w' r) (hm : r ≠ some bm) (hb : bm < w.heap.size) : Aw P w' bm := by
  intro l hl
  obtain ⟨es, c, e, rr⟩ := hl
  exact h l ⟨es, c, (hg.block bm hb (fun e => hm e.symm)).symm.trans e, rr⟩
theorem ValsA.aw0 {P : Nat → Prop} {w : World} {vb bm : Nat} {p : Option Addr} {L : List Wr} (h : ValsA w vb bm p L 0) : Aw P w bm := by
  obtain ⟨l, h1, h2, _⟩ := h.out.map
  intro l' hl' n u hu
  obtain rfl := hl'.uniq h1
  cases l' with
  | nil => cases hu
  | cons a l => simp at h2
theorem writeA2 {vb bm : Nat} {p : Option Addr} {w : World} {L : List Wr} {K : Nat} {g : G} (x : Dd) (h : ValsA w vb bm p L K) (hd : DagA [bm] w (.pointer p) g) (hw : Wf g) (hgl : g.length ≤ 30) (hL : L.length ≤ 40) (hr : x.name.size ≤ 60) :
    Calls Tryz.prog 20 #[.pointer (some ⟨vb, 0, none⟩), .string x.name, .string x.text, .string x.id] w fun e w' => e = .returned (.int .i64 (writeE L x.wr)) ∧ ValsA w' vb bm p (writeL g L x.wr) (K + 1) ∧ Fr [bm] w w' ∧ ∀ P : Nat → Prop, (∀ b, w.heap.size ≤ b → b < w'.heap.size → P b) → Aw P w bm → Aw P w' bm :=
  (writeV2 vb bm p _ g L K x.wr w rfl h.out hd.out.r hw (by omega) (by omega) (by show x.name.size ≤ _; omega)).mono fun _ _ ⟨h1, h2, h3, h4⟩ => ⟨h1, ⟨h2⟩, h3, h4⟩
/-- What an append to a row does that lies apart. -/
theorem appTop {wE wc w4 : World} {vb bm n : Nat} {p : Option Addr} {L : List Wr} {K : Nat} {u v1 : Value} {xs : List Value} {o : Obj} {e : TypeId} {size : Nat}
    (hown : wc.ownsRow wE.heap.size e size u n xs) (hv : ValsA wc vb bm p L K) (HAw : Aw (fun b => u.ownBlock ≠ some b ∧ b < wc.heap.size) wc bm) (fE : Fr [bm] wE wc) (hvb : vb < wE.heap.size) (hbm : bm < wE.heap.size)
    (hg : (wc.alloc o).grownBy w4 u.ownBlock) (hat : v1.ownBlock = u.ownBlock ∨ v1.ownBlock = some (wc.alloc o).heap.size) :
    ValsA w4 vb bm p L K ∧ Aw (fun b => v1.ownBlock ≠ some b ∧ b < w4.heap.size) w4 bm ∧ Fr [bm] wE w4 := by
  have fa := (Fr.refl wc).alloc o
  have hs1 := fE.size
  have hs2 := fa.size
  have hs3 := hg.size
  have hnv : u.ownBlock ≠ some vb := fun e => by have := (own_in hown vb e).1; omega
  have hnm : u.ownBlock ≠ some bm := fun e => by have := (own_in hown bm e).1; omega
  have hA := HAw.fr fa List.not_mem_nil (by omega)
  refine ⟨(hv.fr fa).grown (hA.imp fun b h => h.1) hnv hnm hg, (hA.grown hg hnm (by omega)).imp fun b h => ⟨fun h2 => ?_, by have := h.2; omega⟩, (fE.then fa).grown hg (own_base0 hown)⟩
  rcases hat with e | e
  · exact h.1 (e ▸ h2)
  · rw [e] at h2
    injection h2 with h2
    have := h.2
    omega
def dupB (l : List Dd) (x : Dd) : Bool := l.any fun y => decide (y.name = x.name) && decide (y.id = x.id)
theorem dupB_snoc {l : List Dd} {k : Nat} {y : Dd} (x : Dd) (hy : l[k]? = some y) : dupB (l.take (k + 1)) x = (dupB (l.take k) x || (decide (y.name = x.name) && decide (y.id = x.id))) := by
  rw [List.take_add_one, hy]; simp [dupB, List.any_append]
theorem dupB_no {l : List Dd} {x : Dd} (h : dupB l x = false) : ∀ a ∈ l, ¬ (a.name = x.name ∧ a.id = x.id) := by
  intro a ha ⟨h1, h2⟩
  have : dupB l x = true := List.any_eq_true.2 ⟨a, ha, by simp [h1, h2]⟩
  rw [h] at this; cases this
def topQ (g : G) (A : List Dd) (q : Nat) (d : Dd) : Bool := topD g (A.take q) d
theorem topQ_snoc {g : G} {A : List Dd} {q : Nat} {b : Dd} (d : Dd) (hb : A[q]? = some b) : topQ g A (q + 1) d = (topQ g A q d && !(decide (b.name = d.name) && aheadB g d.id b.id)) := by
  unfold topQ
  rw [List.take_add_one, hb]; simp [topD, List.all_append]
def hereR (R : List Rw) (d : Dd) : Bool := R.any fun r => decide (r.name = d.name) && decide (r.id = d.id) && decide (r.text = d.text)
theorem hereR_snoc {R : List Rw} {q : Nat} {r : Rw} (d : Dd) (hr : R[q]? = some r) : hereR (R.take (q + 1)) d = (hereR (R.take q) d || (decide (r.name = d.name) && decide (r.id = d.id) && decide (r.text = d.text))) := by
  rw [List.take_add_one, hr]; simp [hereR, List.any_append]
theorem hereR_eq (L : List Wr) (d : Dd) : hereR (L.map Wr.rw) d = thereD L d := by
  rw [Bool.eq_iff_iff]
  simp only [hereR, thereD, List.any_eq_true, List.mem_map, Bool.and_eq_true, decide_eq_true_eq]
  constructor
  · rintro ⟨r, ⟨x, hx, rfl⟩, ⟨h1, h2⟩, h3⟩
    have e : x = d.wr := by
      obtain ⟨a, b, c⟩ := x
      have h1 : a = d.name := h1
      have h2 : c = d.id := h2
      have h3 : b = d.text := h3
      subst h1 h2 h3; rfl
    exact e ▸ hx
  · intro h
    exact ⟨_, ⟨d.wr, h, rfl⟩, ⟨rfl, rfl⟩, rfl⟩
/-- How many of the first are there. -/
def numT (L : List Wr) (A : List Dd) (k : Nat) : Nat := ((A.take k).filter (thereD L)).length
theorem numT_snoc {L : List Wr} {A : List Dd} {k : Nat} {d : Dd} (hd : A[k]? = some d) : numT L A (k + 1) = numT L A k + (if thereD L d = true then 1 else 0) := by
  unfold numT
  rw [List.take_add_one, hd]
  cases h : thereD L d <;> simp [List.filter_append, h]
theorem numT_le (L : List Wr) (A : List Dd) (k : Nat) : numT L A k ≤ k := by
  unfold numT
  exact Nat.le_trans (List.length_filter_le _ _) (List.length_take_le k A)
theorem numT_all {g : G} {L : List Wr} {A : List Dd} (h : TInv g L A) : numT L A A.length = L.length := by
  unfold numT; rw [List.take_length]; exact count_there h
end Go.Proofs.YtppgjglfoibfcaaGreat
