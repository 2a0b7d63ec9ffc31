import Derived.Test.YtppgjglfoibfcaaGreatOrd2
import Derived.Test.YtppgjglfoibfcaaGreatRec
import Derived.Test.YtppgjglfoibfcaaGreatMaps
import Derived.Test.YtppgjglfoibfcaaGreatVals3
set_option linter.unusedSimpArgs false
set_option linter.unusedVariables false
/-
  append as an operation of a drawn region.
-/
namespace Go.Proofs.YtppgjglfoibfcaaGreat
open Go.RowKit
theorem Kp.of_grownR {w w' : World} {r : Option Nat} (hg : w.grownBy w' r) : Kp r.toList w w' :=
  ⟨hg.os, hg.tape, hg.output, hg.size, fun k hk hn => hg.block k hk (fun e => hn (by rw [← e]; simp))⟩
theorem eStep_appR {α : Type} {k : Nat} {enc : α → List Value} (he : ∀ x, (enc x).length = k) (h1c : ∀ x, ∀ v ∈ enc x, v.oneCell' = true) {P : Program} {w : World} {o : Oper} {a : Act} {E : World → World → Prop} {K : Act → World → Prop} (hgd : o.guard = none) (s x : Operand) (t : TypeId)
    (ho : o.op = .call { callee := .builtin .append, args := #[s, x], argTypes := #[t, t] })
    (e : TypeId) (z : Value) (bytes : Nat) (ht : P.underlying t = some (.slice e)) (hinfo : (P.info? e).map (fun i => (i.zero, i.size, i.bytes)) = some (some z, k, bytes)) (hzs : z.cells.size = k) (hk : 0 < k) (hby : 0 < bytes)
    (base : Nat) (v : Value) (xs : List α) (hs : a.eval s = v) (hown : w.ownsRow base e k v xs.length (xs.flatMap enc))
    (xv : Value) (ys : List α) (hx : a.eval x = xv) (hsl : Recs k enc w xv ys)
    (hbytes : (xs.length + ys.length) * bytes ≤ 140737488355328) (hbase : base ≤ w.heap.size)
    (h : ∀ v' w', w'.ownsRow base e k v' (xs ++ ys).length ((xs ++ ys).flatMap enc) → w.grownBy w' v.ownBlock → (v'.ownBlock = v.ownBlock ∨ v'.ownBlock = some w.heap.size) → E w w' ∧ K (a.put o.dst v') w') :
    eStep P o a E w K := by
  have hw := wpList_appR (ops := #[]) (rest := []) (Q := fun ex a' w' => ex = .normal ∧ E w w' ∧ K a' w') he h1c (P := P) (w := w) hgd s x t ho e z bytes ht hinfo hzs hk hby base v xs hs hown xv ys hx hsl hbytes hbase (fun v' w' h1 h2 h3 => ⟨rfl, h v' w' h1 h2 h3⟩)
  unfold wpList at hw
  rw [if_pos (by simp [Region.wanted, hgd])] at hw
  have hr : (execOp a.eval o).run P w = ((Builtin.append_ #[t, t] o.type #[a.eval s, a.eval x]).run P w).andThen fun u w' => .ok (.value u) w' := by
    unfold execOp
    rw [ho]
    simp [resolve, invoke, builtin]
  rcases hw with hw | ⟨_, hl⟩
  · unfold Oper.wp at hw
    unfold eStep
    rw [hr] at hw ⊢
    generalize (Builtin.append_ #[t, t] o.type #[a.eval s, a.eval x]).run P w = R at hw
    cases R with
    | ok u w' => exact hw.2
    | halt h w' =>
      cases h with
      | panic v => obtain ⟨h, _⟩ := hw; cases h
      | _ => exact absurd hw (by simp [Oper.upon, Result.andThen])
  · obtain ⟨_, _, h, _⟩ := hl; cases h

theorem step_appR {α : Type} {k : Nat} {enc : α → List Value} (he : ∀ x, (enc x).length = k) (h1c : ∀ x, ∀ v ∈ enc x, v.oneCell' = true) {P : Program} {w : World} {ops : Array Oper} {o : Oper} {a : Act} {K : Act → World → Prop} {Q : Exit → Act → World → Prop} {E : Prop} (hgd : o.guard = none) (s x : Operand) (t : TypeId)
    (ho : o.op = .call { callee := .builtin .append, args := #[s, x], argTypes := #[t, t] })
    (e : TypeId) (z : Value) (bytes : Nat) (ht : P.underlying t = some (.slice e)) (hinfo : (P.info? e).map (fun i => (i.zero, i.size, i.bytes)) = some (some z, k, bytes)) (hzs : z.cells.size = k) (hk : 0 < k) (hby : 0 < bytes)
    (base : Nat) (v : Value) (xs : List α) (hs : a.eval s = v) (hown : w.ownsRow base e k v xs.length (xs.flatMap enc))
    (xv : Value) (ys : List α) (hx : a.eval x = xv) (hsl : Recs k enc w xv ys)
    (hbytes : (xs.length + ys.length) * bytes ≤ 140737488355328) (hbase : base ≤ w.heap.size)
    (h : ∀ v' w', w'.ownsRow base e k v' (xs ++ ys).length ((xs ++ ys).flatMap enc) → w.grownBy w' v.ownBlock → (v'.ownBlock = v.ownBlock ∨ v'.ownBlock = some w.heap.size) → K (a.put o.dst v') w') :
    if Region.wanted o (yielded ops a.tmps) = true then Oper.wp P o a w K Q else E := by
  have hE := eStep_appR (E := fun _ _ => True) (K := K) he h1c (P := P) (w := w) hgd s x t ho e z bytes ht hinfo hzs hk hby base v xs hs hown xv ys hx hsl hbytes hbase (fun v' w' h1 h2 h3 => ⟨trivial, h v' w' h1 h2 h3⟩)
  rw [if_pos (by simp [Region.wanted, hgd])]
  have hr : (execOp a.eval o).run P w = ((Builtin.append_ #[t, t] o.type #[a.eval s, a.eval x]).run P w).andThen fun u w' => .ok (.value u) w' := by
    unfold execOp
    rw [ho]
    simp [resolve, invoke, builtin]
  unfold eStep at hE
  unfold Oper.wp
  rw [hr] at hE ⊢
  generalize (Builtin.append_ #[t, t] o.type #[a.eval s, a.eval x]).run P w = R at hE
  cases R with
  | ok u w' => exact hE.2
  | halt h w' => exact absurd hE (by simp [eUpon, Result.andThen])
theorem step_put {P : Program} {w : World} {ops : Array Oper} {o : Oper} {a : Act} {K : Act → World → Prop} {Q : Exit → Act → World → Prop} {E : Prop} (hgd : o.guard = none) (m k x : Operand) (t kt et : TypeId) (ho : o.op = .mapUpdate t m k x) (b : Nat) (l : Ents) (n : BS) (v : Value)
    (hM : Mp w b l) (ht : P.underlying t = some (.map kt et)) (hkt : P.underlying kt = some .string) (hm : a.eval m = .map (some b)) (hk : a.eval k = .string n) (hx : a.eval x = v)
    (h : ∀ w', Mp w' b (up l n v) → Fr [b] w w' → K (a.put o.dst undef) w') :
    if Region.wanted o (yielded ops a.tmps) = true then Oper.wp P o a w K Q else E := by
  rw [if_pos (by simp [Region.wanted, hgd])]
  obtain ⟨w', h1, h2, h3⟩ := hM.put ht hkt n v
  have hr : (execOp a.eval o).run P w = .ok .skip w' := by
    unfold execOp
    rw [ho]
    simp [hm, hk, hx, h1, Result.andThen]
  unfold Oper.wp
  rw [hr]
  exact h w' h2 h3
theorem mp_grown {w w' : World} {r : Option Nat} {b : Nat} {l : Ents} (h : Mp w b l) (hg : w.grownBy w' r) (hb : r ≠ some b) : Mp w' b l := by
  have hl := h.lt
  obtain ⟨es, c, hh, rr⟩ := h
  exact ⟨es, c, (hg.block b hl (fun e => hb e.symm)).trans hh, rr⟩
end Go.Proofs.YtppgjglfoibfcaaGreat

set_option linter.unusedSimpArgs false
set_option linter.unusedVariables false
/-
  Package values: Load.
-/
namespace Go.Proofs.YtppgjglfoibfcaaGreat
open Go.RowKit

def Rw.wr (r : Rw) : Wr := ⟨r.name, r.text, r.id⟩
theorem wr_rw (x : Wr) : x.rw.wr = x := rfl
theorem rlt_trans {a b c : Rw} (h : RLt a b) (k : RLt b c) : RLt a c := plt_trans h k
/-- What a row ahead of which prev stands must be. -/
def rowOk (r : Rw) : Prop := r = r.wr.rw ∧ mayW r.wr = true
def LoadOk (R : List Rw) : Prop := (∀ r ∈ R, rowOk r) ∧ R.Pairwise RLt
instance rowOkDec (r : Rw) : Decidable (rowOk r) := inferInstanceAs (Decidable (_ ∧ _))
instance loadOkDec (R : List Rw) : Decidable (LoadOk R) := inferInstanceAs (Decidable (_ ∧ _))
/-- Does row k rise? -/
def risesB (R : List Rw) (k : Nat) (r : Rw) : Bool := decide (k = 0) || ((R[k - 1]?).any fun p => decide (RLt p r))
theorem loadOk_snoc {R : List Rw} {k : Nat} {r : Rw} (hr : R[k]? = some r) : LoadOk (R.take (k + 1)) ↔ LoadOk (R.take k) ∧ rowOk r ∧ risesB R k r = true := by
  rw [take_snoc hr]
  unfold LoadOk
  rw [List.pairwise_append]
  simp only [List.mem_append, List.mem_singleton, List.pairwise_cons, List.not_mem_nil, false_implies, implies_true, List.Pairwise.nil, and_self, and_true, true_and]
  have hlt := lt_of_getElem? hr
  constructor
  · rintro ⟨h1, h2, h3⟩
    refine ⟨⟨fun x hx => h1 x (.inl hx), h2⟩, h1 r (.inr rfl), ?_⟩
    unfold risesB
    by_cases hk : k = 0
    · simp [hk]
    · have hp : R[k - 1]? = some R[k - 1] := List.getElem?_eq_getElem (by omega)
      rw [hp]
      have : R[k - 1] ∈ R.take k := List.mem_iff_getElem?.2 ⟨k - 1, by rw [List.getElem?_take_of_lt (by omega)]; exact hp⟩
      simp [h3 _ this r rfl]
  · rintro ⟨⟨h1, h2⟩, h3, h4⟩
    refine ⟨fun x hx => hx.elim (h1 x) fun e => e ▸ h3, h2, ?_⟩
    rintro x hx y rfl
    unfold risesB at h4
    by_cases hk : k = 0
    · subst hk; simp at hx
    · have hp : R[k - 1]? = some R[k - 1] := List.getElem?_eq_getElem (by omega)
      rw [hp] at h4
      simp [hk] at h4
      obtain ⟨i, hi⟩ := List.mem_iff_getElem?.1 hx
      have hik : i < k := by have := lt_of_getElem? hi; simp at this; omega
      rw [List.getElem?_take_of_lt hik] at hi
      by_cases he : i = k - 1
      · subst he; rw [hp] at hi; cases hi; exact h4
      · have ha : (R.take k)[i]? = some x := by rw [List.getElem?_take_of_lt hik]; exact hi
        have hb : (R.take k)[k - 1]? = some R[k - 1] := by rw [List.getElem?_take_of_lt (by omega)]; exact hp
        obtain ⟨ia, ea⟩ := List.getElem?_eq_some_iff.1 ha
        obtain ⟨ib, eb⟩ := List.getElem?_eq_some_iff.1 hb
        have := List.pairwise_iff_getElem.1 h2 i (k - 1) ia ib (by omega)
        rw [ea, eb] at this
        exact rlt_trans this h4
theorem loadOk_pre {R : List Rw} (h : LoadOk R) (k : Nat) : LoadOk (R.take k) := ⟨fun r hr => h.1 r (List.mem_of_mem_take hr), h.2.sublist (List.take_sublist _ _)⟩
theorem loadOk_rows {R : List Rw} (h : LoadOk R) : (R.map Rw.wr).map Wr.rw = R := by
  rw [List.map_map]
  conv => rhs; rw [← List.map_id R]
  exact List.map_congr_left fun r hr => (h.1 r hr).1.symm
theorem loadOk_sorted {R : List Rw} (h : LoadOk R) : WSorted (R.map Rw.wr) := by
  unfold WSorted
  rw [List.pairwise_map]
  exact h.2
def orI (c d : Int) : Int := if c = 0 then d else c
theorem or_lt (a b : Rw) : decide (orI (cmpS a.name b.name) (cmpS a.id b.id) < 0) = decide (RLt a b) := by
  rw [Bool.eq_iff_iff, decide_eq_true_eq, decide_eq_true_eq]
  unfold orI cmpS RLt PLt
  rcases blt_total a.name b.name with h | h | h
  · simp [h]
  · have hi : ¬ BLt b.name b.name := blt_irrefl _
    simp only [h, hi, if_false, if_true, true_and, false_or]
    rcases blt_total a.id b.id with k | k | k
    · simp [k]
    · have k1 : ¬ BLt b.id b.id := blt_irrefl _
      simp [k, k1]
    · simp [k, blt_asymm k]
  · have h1 := blt_asymm h
    have h2 : a.name ≠ b.name := fun e => by rw [e] at h; exact blt_irrefl _ h
    simp [h, h1, h2]

/-- While rows are loaded: the writes of each name lie in rows of their own; the last name's is the one that grows. -/
def LdAt (B0 : Nat) (wr : World) (vb bm : Nat) (dv : Value) (L : List Wr) : Prop :=
  wr.heap[vb]? = some (.cells #[dv, .map (some bm)] 128 (0, 0)) ∧ ∃ (l : Ents) (cur : BS) (wB : World), Mp wr bm l ∧ l.length ≤ L.length ∧ (∀ n ∈ keysL l, n.size ≤ 12) ∧ Fr [bm] wB wr ∧ vb < wB.heap.size ∧ bm < wB.heap.size ∧ B0 ≤ wB.heap.size ∧
    (∀ n, n ≠ cur → (∃ u, lk l n = some u ∧ Recs 2 encWt wB u (regW L n) ∧ regW L n ≠ []) ∨ (lk l n = none ∧ regW L n = [])) ∧
    wr.ownsRow wB.heap.size 132 2 ((lk l cur).getD (.slice none 0 0)) (regW L cur).length ((regW L cur).flatMap encWt) ∧ (lk l cur = none ↔ regW L cur = []) ∧ (L = [] ∨ ∃ y ∈ L, y.name = cur) ∧ ∀ x ∈ L, x.name = cur ∨ BLt x.name cur
/-- .. at a name that is the last one's, or rises above all. -/
def LdN (B0 : Nat) (wr : World) (vb bm : Nat) (dv : Value) (L : List Wr) (nm : BS) : Prop :=
  wr.heap[vb]? = some (.cells #[dv, .map (some bm)] 128 (0, 0)) ∧ ∃ (l : Ents) (wB : World), Mp wr bm l ∧ l.length ≤ L.length ∧ (∀ n ∈ keysL l, n.size ≤ 12) ∧ Fr [bm] wB wr ∧ vb < wB.heap.size ∧ bm < wB.heap.size ∧ B0 ≤ wB.heap.size ∧
    (∀ n, n ≠ nm → (∃ u, lk l n = some u ∧ Recs 2 encWt wB u (regW L n) ∧ regW L n ≠ []) ∨ (lk l n = none ∧ regW L n = [])) ∧
    wr.ownsRow wB.heap.size 132 2 ((lk l nm).getD (.slice none 0 0)) (regW L nm).length ((regW L nm).flatMap encWt)
theorem LdAt.at_ {B0 : Nat} {wr : World} {vb bm : Nat} {dv : Value} {L : List Wr} (h : LdAt B0 wr vb bm dv L) (hl : L.length ≤ 1000000) {x : Wr} (hx : ∀ y ∈ L, WLt y x) : LdN B0 wr vb bm dv L x.name := by
  obtain ⟨hb, l, cur, wB, h1, h2, h3, h4, h5, h6, h0, h7, h8, h9, h10, h11⟩ := h
  by_cases hc : x.name = cur
  · rw [hc]; exact ⟨hb, l, wB, h1, h2, h3, h4, h5, h6, h0, h7, h8⟩
  · have hno : regW L x.name = [] := by
      refine List.eq_nil_iff_forall_not_mem.2 fun z hz => ?_
      obtain ⟨z1, z2⟩ := (mem_regW L x.name z).1 hz
      rcases h10 with rfl | ⟨y, hy, hyc⟩
      · simp at z1
      · have hyx : BLt cur x.name := by
          rcases hx y hy with k | ⟨k, _⟩
          · have k : BLt y.name x.name := k
            rwa [hyc] at k
          · have k : y.name = x.name := k
            exact absurd (k.symm.trans hyc) hc
        rcases h11 z z1 with k | k
        · exact hc (z2.symm.trans k)
        · rw [z2] at k; exact blt_irrefl _ (blt_trans k hyx)
    have hnone : lk l x.name = none := by
      rcases h7 x.name hc with ⟨_, _, _, k⟩ | ⟨k, _⟩
      · exact absurd hno k
      · exact k
    refine ⟨hb, l, wr, h1, h2, h3, .reflS (fun k hk => by rw [List.mem_singleton.1 hk]; exact h1.isMp), rowLt hb, h1.lt, Nat.le_trans h0 h4.size, fun n hn => ?_, by rw [hnone, hno]; exact World.ownsRow_nil _ _ _ _⟩
    by_cases hnc : n = cur
    · subst hnc
      by_cases he : regW L n = []
      · exact .inr ⟨h9.2 he, he⟩
      · refine .inl ?_
        cases hk : lk l n with
        | none => exact absurd (h9.1 hk) he
        | some u =>
          rw [hk] at h8
          exact ⟨u, rfl, Recs.of_own h8 rfl (Nat.le_trans (List.length_filter_le _ _) (by omega)), he⟩
    · rcases h7 n hnc with ⟨u, a, b, c⟩ | k
      · exact .inl ⟨u, a, b.fr h4, c⟩
      · exact .inr k
theorem LdAt.vals {B0 : Nat} {wr : World} {vb bm : Nat} {dv : Value} {L : List Wr} (h : LdAt B0 wr vb bm dv L) (hl : L.length ≤ 1000000) (hs : WSorted L) : ValsAt wr vb bm dv L L.length := by
  obtain ⟨hb, l, cur, wB, h1, h2, h3, h4, h5, h6, h0, h7, h8, h9, h10, h11⟩ := h
  refine ⟨hb, ⟨l, h1, h2, h3, fun n => ?_⟩, hs⟩
  by_cases hnc : n = cur
  · subst hnc
    cases hk : lk l n with
    | none => exact .inr ⟨rfl, h9.1 hk⟩
    | some u => rw [hk] at h8; exact .inl ⟨u, rfl, Recs.of_own h8 rfl (Nat.le_trans (List.length_filter_le _ _) (by omega))⟩
  · rcases h7 n hnc with ⟨u, a, b, c⟩ | k
    · exact .inl ⟨u, a, b.fr h4⟩
    · exact .inr k
theorem LdAt.fr {B0 : Nat} {wr w' : World} {vb bm : Nat} {dv : Value} {L : List Wr} (h : LdAt B0 wr vb bm dv L) (hf : Fr [] wr w') : LdAt B0 w' vb bm dv L := by
  obtain ⟨hb, l, cur, wB, h1, h2, h3, h4, h5, h6, h0, h7, h8, h9, h10, h11⟩ := h
  exact ⟨hf.row hb, l, cur, wB, h1.fr hf (by simp), h2, h3, h4.then hf, h5, h6, h0, h7, own_fr h8 hf, h9, h10, h11⟩
theorem regW_snoc (L : List Wr) (x : Wr) (n : BS) : regW (L ++ [x]) n = regW L n ++ (if x.name = n then [x] else []) := by
  unfold regW; rw [List.filter_append]; by_cases h : x.name = n <;> simp [h]
/-- One more. -/
theorem LdN.step {B0 : Nat} {wB w1 w2 : World} {vb bm : Nat} {dv v' : Value} {L : List Wr} {x : Wr} {l : Ents} 
    (h0 : B0 ≤ wB.heap.size) (h2 : l.length ≤ L.length) (h3 : ∀ n ∈ keysL l, n.size ≤ 12) (h5 : vb < wB.heap.size) (h6 : bm < wB.heap.size)
    (h7 : ∀ n, n ≠ x.name → (∃ u, lk l n = some u ∧ Recs 2 encWt wB u (regW L n) ∧ regW L n ≠ []) ∨ (lk l n = none ∧ regW L n = []))
    (hx12 : x.name.size ≤ 12) (hx : ∀ y ∈ L, WLt y x) (hf1 : Fr [bm] wB w1) (hf2 : Fr [bm] w1 w2) (hbB : wB.heap[vb]? = some (.cells #[dv, .map (some bm)] 128 (0, 0)))
    (hm : Mp w2 bm (up l x.name v')) (ho : w1.ownsRow wB.heap.size 132 2 v' (regW L x.name ++ [x]).length ((regW L x.name ++ [x]).flatMap encWt)) : LdAt B0 w2 vb bm dv (L ++ [x]) := by
  refine ⟨(hf1.and hf2).row hbB, up l x.name v', x.name, wB, hm, by rw [len_up]; simp; split <;> omega, ?_, hf1.and hf2, h5, h6, h0, fun n hn => ?_, ?_, ?_, .inr ⟨x, by simp, rfl⟩, ?_⟩
  · intro n hn
    rcases (keys_up l x.name v' n).1 hn with rfl | hn
    · exact hx12
    · exact h3 n hn
  · rw [lk_up, if_neg hn, regW_snoc, if_neg (fun e => hn e.symm), List.append_nil]
    exact h7 n hn
  · rw [lk_up, if_pos rfl, regW_snoc, if_pos rfl]
    exact own_fr ho hf2
  · rw [lk_up, if_pos rfl, regW_snoc, if_pos rfl]
    simp
  · intro y hy
    rcases List.mem_append.1 hy with hy | hy
    · rcases hx y hy with k | ⟨k, _⟩
      · exact .inr k
      · exact .inl k
    · rw [List.mem_singleton.1 hy]; exact .inl rfl
end Go.Proofs.YtppgjglfoibfcaaGreat
