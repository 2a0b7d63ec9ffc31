import Derived.Test.YtppgjglfoibfcaaGreatRec
import Derived.Shelf.SlSortCmp.WholeK
import Derived.Sort.OwnSortedInts
import Derived.Test.YtppgjglfoibfcaaGreatDelK2Wt
import Derived.Test.YtppgjglfoibfcaaGreatCmp
import Derived.Test.YtppgjglfoibfcaaGreatLay3
set_option linter.unusedSimpArgs false
set_option linter.unusedVariables false
/-
  A sorted row of structs, in the words of a row that a call owns.
-/
namespace Go.Proofs.YtppgjglfoibfcaaGreat
open Go.Shelf Go.RowKit Go.Lib Go.Sort
section
variable {α : Type} [Inhabited α] {k : Nat} {enc : α → List Value}
theorem flatK_list (he : ∀ x, (enc x).length = k) (xs : List α) : flatK enc k xs.toArray = (xs.flatMap enc).toArray := by
  have hl := flat_len he xs
  apply Array.ext
  · simp [hl]
  · intro t h1 h2
    have ht : t < xs.length * k := by simpa using h1
    have hk : 0 < k := by rcases Nat.eq_zero_or_pos k with h | h; (subst h; simp at ht); exact h
    have hd : t / k < xs.length := Nat.div_lt_of_lt_mul (by rw [Nat.mul_comm]; exact ht)
    have hm : t % k < k := Nat.mod_lt _ hk
    have hte : t / k * k + t % k = t := by rw [Nat.mul_comm]; exact Nat.div_add_mod t k
    have h3 := get_flatK enc k xs.toArray t (by simpa using ht)
    rw [getElem!_pos _ t h1] at h3
    rw [h3]
    have hx : xs[t / k]? = some xs[t / k] := List.getElem?_eq_getElem hd
    have h4 := flat_get he hx hm
    rw [hte] at h4
    have e1 : xs.toArray[t / k]! = xs[t / k] := by rw [getElem!_pos _ _ (by simpa using hd)]; simp
    rw [e1, getElem!_pos _ _ (by rw [he]; exact hm)]
    have h5 : (xs.flatMap enc)[t]? = some (xs.flatMap enc)[t] := List.getElem?_eq_getElem (by rw [hl]; exact ht)
    have hm2 : t % k < (enc xs[t / k]).length := by rw [he]; exact hm
    have h6 : (enc xs[t / k])[t % k]? = some (enc xs[t / k])[t % k] := List.getElem?_eq_getElem hm2
    rw [h5, h6] at h4
    rw [List.getElem_toArray]
    exact (Option.some.inj h4).symm
theorem holdsK_of_row (he : ∀ x, (enc x).length = k) {w : World} {g : Nat} {cur : Array Value} {e : TypeId} {xs : List α} (hb : w.heap[g]? = some (.cells cur e (0, 0))) (ht : cur.toList.take (xs.length * k) = xs.flatMap enc) : HoldsK enc k w g 0 xs.toArray := by
  unfold HoldsK
  rw [flatK_list he]
  intro j hj
  have hj' : j < (xs.flatMap enc).length := by simpa using hj
  refine ⟨?_, by simp [World.frozen?, hb]⟩
  have hjk : j < xs.length * k := by rw [flat_len he] at hj'; exact hj'
  have h1 : (cur.toList.take (xs.length * k))[j]? = (xs.flatMap enc)[j]? := by rw [ht]
  rw [List.getElem?_take_of_lt hjk, Array.getElem?_toList] at h1
  rw [Nat.zero_add, rowAt hb (h1.trans (List.getElem?_eq_getElem hj'))]
  rw [getElem!_pos _ j hj]; simp
theorem grownBy_sortedK {w : World} {g n : Nat} {os : Array Obj} (d : Array α) : w.grownBy (sortWorldK enc k w g 0 n d os) (some g) := by
  refine ⟨rfl, rfl, rfl, by simp [sortWorldK, putRowK], fun j hk hne => ?_⟩
  unfold sortWorldK putRowK
  rw [heap_grow_old _ _ (by simpa using hk)]
  have : g ≠ j := fun e => hne (by rw [e])
  simp [putRow, mapBlock, Sort.ahead, Array.getElem?_modify, this]
theorem ownsRow_sortedK (he : ∀ x, (enc x).length = k) {w : World} {base g cap n : Nat} {e : TypeId} {os : Array Obj} {cur : Array Value} {ss ts : List α} (hl : ts.length = ss.length) (hbase : base ≤ g) (hb : w.heap[g]? = some (.cells cur e (0, 0)))
    (h1 : ss.length ≤ cap) (h2 : cap ≤ maxLen) (h3 : cur.size = cap * k) : (sortWorldK enc k w g 0 n ts.toArray os).ownsRow base e k (.slice (some ⟨g, 0, none⟩) ss.length cap) ss.length (ts.flatMap enc) := by
  have hm : ss.length * k ≤ cap * k := Nat.mul_le_mul_right _ h1
  refine ⟨by rw [flat_len he, hl], .inr ⟨g, cap, putCells id 0 (flatK enc k ts.toArray) cur, rfl, hbase, ?_, h1, h2, by simp [putCells, h3], ?_⟩⟩
  · unfold sortWorldK putRowK
    have hg : g < w.heap.size := (Array.getElem?_eq_some_iff.1 hb).1
    rw [heap_grow_old _ _ (by simpa using hg)]
    simp [putRow, mapBlock, Sort.ahead, Array.getElem?_modify, hb, onCells]
  · rw [flatK_list he, ← hl]
    have hlen := flat_len he ts
    rw [← hl] at hm
    apply List.ext_getElem?
    intro j
    by_cases hj : j < ts.length * k
    · rw [List.getElem?_take_of_lt hj, Array.getElem?_toList]
      have hj2 : j < (ts.flatMap enc).length := by rw [hlen]; exact hj
      have hj3 : j < (ts.flatMap enc).toArray.size := by simpa using hj2
      generalize ts.flatMap enc = F at hj2 hj3 hlen ⊢
      simp [putCells, hj2, show j < cur.size by omega]
    · rw [List.getElem?_take_eq_none (by omega), List.getElem?_eq_none (by rw [hlen]; omega)]
end
end Go.Proofs.YtppgjglfoibfcaaGreat

set_option linter.unusedSimpArgs false
set_option linter.unusedVariables false
/-
  Package values: the closures of Write, the sort by ID.
-/
namespace Go.Proofs.YtppgjglfoibfcaaGreat
open Go.Shelf Go.RowKit Go.Lib Go.Sort
instance wrInh : Inhabited Wr := ⟨⟨⟨#[]⟩, ⟨#[]⟩, ⟨#[]⟩⟩⟩

set_option maxRecDepth 100000 in
theorem wclos1 (x : Wr) (id : BS) (c : Nat) (w : World) (hc : w.cell? ⟨c, 0, none⟩ = some (.string id)) :
    Calls Tryz.prog 70 #[agWt x, .pointer (some ⟨c, 0, none⟩)] w fun e w' => e = .returned (.bool (decide (x.id = id))) ∧ Fr [] w w' := by
  have f0 := (Fr.refl w).alloc (.cells #[.string x.text, .string x.id] 132)
  have hcl := f0.cell hc
  rw [← beq_dec]
  unfold agWt
  go_enter Tryz.func70, Tryz.ntmps70
  go_wp2
  go_ret
  exact ⟨rfl, f0⟩
set_option maxRecDepth 100000 in
theorem wclos2 (x : Wr) (id : BS) (dv : Value) (g : G) (c cv vb : Nat) (w : World) (hc : w.cell? ⟨c, 0, none⟩ = some (.string id)) (hcv : w.cell? ⟨cv, 0, none⟩ = some (.pointer (some ⟨vb, 0, none⟩))) (hvb : w.cell? ⟨vb, 0, none⟩ = some dv) (hd : DagR w dv g) (hw : Wf g) (hl : g.length ≤ 10000) :
    Calls Tryz.prog 71 #[agWt x, .pointer (some ⟨cv, 0, none⟩), .pointer (some ⟨c, 0, none⟩)] w fun e w' => e = .returned (.bool (aheadB g id x.id)) ∧ Fr [] w w' := by
  have f0 := (Fr.refl w).alloc (.cells #[.string x.text, .string x.id] 132)
  have CA := Lib.hid (fun (W : World) (h : Fr [] w W) => aheadD dv id x.id g W (hd.fr h) hw hl)
  have hcl := f0.cell hc
  have hcv := f0.cell hcv
  have hvb := f0.cell hvb
  have hn := rowNew w (.cells #[.string x.text, .string x.id] 132)
  have hn1 := rowAt hn (j := 1) rfl
  clear hd hw hl hc hn
  unfold agWt
  go_enter Tryz.func71, Tryz.ntmps71
  go_upto_region 1 with fail
  generalize w.alloc (.cells #[.string x.text, .string x.id] 132) = w1 at f0 hcl hcv hvb hn1 ⊢
  generalize w.heap.size = N at hn1 ⊢
  refine wp_region_ordX Fr.pre [] (.op 0 0 (.op 1 0 (.op 2 2 (.op 3 0 (.op 4 0 (.op 5 2 (.op 6 0 (.op 7 1 (.op 8 2 .fin))))))))) _ (by kernel_rfl) (by kernel_rfl) (by simp only [pickX, List.getElem?_cons_succ, List.getElem?_cons_zero]; rfl) ?_
  have F := (Fr.refl w1).drew
  have x_1 := Ext.cell (F.cell hcl)
  have x_2 := Ext.cell (F.cell hcv)
  have x_3 := Ext.cell (F.cell hvb)
  have x_4 := Ext.cell (F.cell hn1)
  repeat (first | (with_reducible refine wpX_q (fun K hK => ?_); go_simp; refine hK _ ?_; clear hK K) | (with_reducible refine wpX_p (fun K hK => ?_); go_simp; refine hK _ ?_; clear hK K) | (with_reducible refine wpX_p (fun K hK => ?_); go_simp; rw [if_neg (by simp [undef])]; refine hK _ ?_; clear hK K) | (with_reducible refine wpX_q (fun K hK => ?_); go_simp; rw [if_neg (by simp [undef])]; refine hK _ ?_; clear hK K))
  clear x_1 x_2 x_3 x_4
  (refine wpX_e (fun K hK => ?_); go_simp; intro wq hq; have F := F.then hq; refine (CA.out _ (f0.then F)).mono ?_; rintro e wp ⟨rfl, g1⟩; have F := F.then (g1); refine ⟨_, rfl, (g1), hK _ _ ?_⟩; clear hK K hq; skip)
  repeat (first | (with_reducible refine wpX_q (fun K hK => ?_); go_simp; refine hK _ ?_; clear hK K) | (with_reducible refine wpX_p (fun K hK => ?_); go_simp; refine hK _ ?_; clear hK K) | (with_reducible refine wpX_p (fun K hK => ?_); go_simp; rw [if_neg (by simp [undef])]; refine hK _ ?_; clear hK K) | (with_reducible refine wpX_q (fun K hK => ?_); go_simp; rw [if_neg (by simp [undef])]; refine hK _ ?_; clear hK K))
  refine wpX_nil (fun w5 hw5 => ?_)
  go_wp2
  go_ret
  exact ⟨rfl, f0.then (F.then hw5)⟩
set_option maxRecDepth 100000 in
theorem wclos3 (x : Wr) (id : BS) (dv : Value) (g : G) (c cv vb : Nat) (w : World) (hc : w.cell? ⟨c, 0, none⟩ = some (.string id)) (hcv : w.cell? ⟨cv, 0, none⟩ = some (.pointer (some ⟨vb, 0, none⟩))) (hvb : w.cell? ⟨vb, 0, none⟩ = some dv) (hd : DagR w dv g) (hw : Wf g) (hl : g.length ≤ 10000) :
    Calls Tryz.prog 75 #[agWt x, .pointer (some ⟨cv, 0, none⟩), .pointer (some ⟨c, 0, none⟩)] w fun e w' => e = .returned (.bool (aheadB g x.id id)) ∧ Fr [] w w' := by
  have f0 := (Fr.refl w).alloc (.cells #[.string x.text, .string x.id] 132)
  have CA := Lib.hid (fun (W : World) (h : Fr [] w W) => aheadD dv x.id id g W (hd.fr h) hw hl)
  have hcl := f0.cell hc
  have hcv := f0.cell hcv
  have hvb := f0.cell hvb
  have hn := rowNew w (.cells #[.string x.text, .string x.id] 132)
  have hn1 := rowAt hn (j := 1) rfl
  clear hd hw hl hc hn
  unfold agWt
  go_enter Tryz.func75, Tryz.ntmps75
  go_upto_region 1 with fail
  generalize w.alloc (.cells #[.string x.text, .string x.id] 132) = w1 at f0 hcl hcv hvb hn1 ⊢
  generalize w.heap.size = N at hn1 ⊢
  refine wp_region_ordX Fr.pre [] (.op 0 0 (.op 1 0 (.op 2 2 (.op 3 0 (.op 4 2 (.op 5 0 (.op 6 0 (.op 7 1 (.op 8 2 .fin))))))))) _ (by kernel_rfl) (by kernel_rfl) (by simp only [pickX, List.getElem?_cons_succ, List.getElem?_cons_zero]; rfl) ?_
  have F := (Fr.refl w1).drew
  have x_1 := Ext.cell (F.cell hcl)
  have x_2 := Ext.cell (F.cell hcv)
  have x_3 := Ext.cell (F.cell hvb)
  have x_4 := Ext.cell (F.cell hn1)
  repeat (first | (with_reducible refine wpX_q (fun K hK => ?_); go_simp; refine hK _ ?_; clear hK K) | (with_reducible refine wpX_p (fun K hK => ?_); go_simp; refine hK _ ?_; clear hK K) | (with_reducible refine wpX_p (fun K hK => ?_); go_simp; rw [if_neg (by simp [undef])]; refine hK _ ?_; clear hK K) | (with_reducible refine wpX_q (fun K hK => ?_); go_simp; rw [if_neg (by simp [undef])]; refine hK _ ?_; clear hK K))
  clear x_1 x_2 x_3 x_4
  (refine wpX_e (fun K hK => ?_); go_simp; intro wq hq; have F := F.then hq; refine (CA.out _ (f0.then F)).mono ?_; rintro e wp ⟨rfl, g1⟩; have F := F.then (g1); refine ⟨_, rfl, (g1), hK _ _ ?_⟩; clear hK K hq; skip)
  repeat (first | (with_reducible refine wpX_q (fun K hK => ?_); go_simp; refine hK _ ?_; clear hK K) | (with_reducible refine wpX_p (fun K hK => ?_); go_simp; refine hK _ ?_; clear hK K) | (with_reducible refine wpX_p (fun K hK => ?_); go_simp; rw [if_neg (by simp [undef])]; refine hK _ ?_; clear hK K) | (with_reducible refine wpX_q (fun K hK => ?_); go_simp; rw [if_neg (by simp [undef])]; refine hK _ ?_; clear hK K))
  refine wpX_nil (fun w5 hw5 => ?_)
  go_wp2
  go_ret
  exact ⟨rfl, f0.then (F.then hw5)⟩
theorem alloc2_grow (w : World) (a b : Obj) : (w.alloc a).alloc b = grow (w.drewN 0) #[a, b] := by
  have h : (w.heap.push a).push b = w.heap ++ #[a, b] := by rw [← Array.toList_inj]; simp
  show { w with heap := (w.heap.push a).push b } = { w with heap := w.heap ++ #[a, b] }
  rw [h]
set_option maxRecDepth 100000 in
theorem wclos4 (x y : Wr) (w : World) : Calls Tryz.prog 77 #[agWt x, agWt y] w fun e w' => e = .returned (.int .i64 (cmpS x.id y.id)) ∧ ∃ q os', w' = grow (w.drewN q) os' := by
  unfold agWt
  go_enter Tryz.func77, Tryz.ntmps77
  go_wp2_with (go_at_call 78; refine (compare55 _ _ _).mono ?_; rintro e w' ⟨rfl, rfl⟩)
  go_ret
  exact ⟨rfl, 0, #[.cells #[.string x.text, .string x.id] 132, .cells #[.string y.text, .string y.id] 132], alloc2_grow w _ _⟩

def cfW (x y : Wr) : Int := cmpS x.id y.id
theorem ltW (x y : Wr) : ltOf cfW x y = decide (BLt x.id y.id) := by
  unfold ltOf cfW cmpS
  by_cases h : BLt x.id y.id
  · simp [h]
  · by_cases h2 : BLt y.id x.id <;> simp [h, h2]
theorem swoW : SWO (ltOf cfW) where
  irrefl x := by rw [ltW]; simpa using blt_irrefl _
  trans x y z h1 h2 := by rw [ltW] at *; simp at *; exact blt_trans h1 h2
  ntrans x y z h1 h2 := by
    rw [ltW] at *; simp at *
    intro h
    rcases blt_total x.id y.id with k | k | k
    · exact h1 k
    · rw [k] at h; exact h2 h
    · exact h2 (blt_trans k h)

set_option maxRecDepth 100000 in
set_option maxHeartbeats 1000000 in
/-- slices.SortFunc by ID, on a row of the call's own. -/
theorem sortWt (v : Value) (xs : List Wr) (base : Nat) (w : World) (hs : w.ownsRow base 132 2 v xs.length (xs.flatMap encWt)) (hl : xs.length ≤ 1000000) :
    Calls Tryz.prog 76 #[v, .func (.func 77) #[] #[]] w fun e w' => e = .returned (.tuple #[]) ∧ ∃ ys : List Wr, ys.Perm xs ∧ ys.Pairwise (fun a b => ¬ BLt b.id a.id) ∧ w'.ownsRow base 132 2 v ys.length (ys.flatMap encWt) ∧ ∀ B : World, Fr [] B w → B.heap.size ≤ base → Fr [] B w' := by
  have hen : ∀ args w, (callFunc 77 args).run Tryz.prog w = .ok (.enter 77 args) w := enters_of Tryz.func77 (by kernel_rfl) rfl
  rcases hs.2 with ⟨rfl, hz⟩ | ⟨gb, cap, cur, rfl, hbase, hgb, r1, r2, r3, r4⟩
  · obtain rfl : xs = [] := List.eq_nil_of_length_eq_zero hz
    refine (AnyF.slices_SortFunc_none Tryz.laySortW none 0 _ w).mono ?_
    rintro e w' ⟨rfl, rfl⟩
    exact ⟨rfl, [], List.Perm.refl _, List.Pairwise.nil, World.ownsRow_nil _ _ _ _, fun B h _ => h⟩
  · have hH : HoldsK encWt 2 w gb 0 xs.toArray := holdsK_of_row lenWt hgb r4
    have hgl : gb < w.heap.size := rowLt hgb
    have hcmp : CmpLays Tryz.prog 77 #[] encWt 2 cfW gb 0 xs.toArray.size w := fun m os dk hdk x y => wclos4 x y _
    have hC := AnyQ.slices_SortFunc Tryz.laySortW 2 Tryz.isAgg132 Tryz.sizeOf132 encWt lenWt oneWt cfW swoW 77 #[] gb 0 cap xs.toArray w hen hcmp hH hgl (by simp; omega)
    refine Calls.mono hC ?_
    rintro e w' ⟨rfl, d', n, os, hp, hso, rfl⟩
    have hsz : d'.size = xs.length := by have := hp.1; simpa using this
    have hperm : d'.toList.Perm xs := by
      have := hp.2.2
      rw [← hp.1] at this
      have h2 : d'.toList.Perm (List.take d'.size xs) := by simpa using this
      rwa [hsz, List.take_length] at h2
    refine ⟨rfl, d'.toList, hperm, ?_, ?_, fun B hB hBb => hB.grown (grownBy_sortedK d') (fun j hj => by cases hj; omega)⟩
    · rw [List.pairwise_iff_getElem]
      intro i j hi hj hij
      have := hso i j (Nat.zero_le _) hij (by simp at hj; simp; omega)
      rw [ltW, decide_eq_false_iff_not, getElem!_pos _ _ (by simpa using hj), getElem!_pos _ _ (by simpa using hi)] at this
      simpa using this
    · have h1 := ownsRow_sortedK (n := n) (os := os) lenWt (ts := d'.toList) (ss := xs) (by simpa using hsz) hbase hgb r1 r2 r3
      have h2 : d'.toList.length = xs.length := by simpa using hsz
      rw [h2]
      simpa using h1
end Go.Proofs.YtppgjglfoibfcaaGreat
