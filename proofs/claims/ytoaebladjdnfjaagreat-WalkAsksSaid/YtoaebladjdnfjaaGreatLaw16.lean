import Derived.Test.YtoaebladjdnfjaaGreatDagAhead
import Derived.Test.YtoaebladjdnfjaaGreatDagOrder
import Derived.Laws.BytesArg
set_option linter.unusedSimpArgs false
set_option linter.unusedVariables false
/-
  The law's own functions (chantrylaw16) and ref01.Texts.
-/
namespace Go.Proofs.YtoaebladjdnfjaaGreat
open Go.RowKit

set_option maxRecDepth 100000 in
set_option maxHeartbeats 1000000 in
theorem texts15 (v u : Value) (xs ys : List BS) (w : World) (hx : Strs w v xs) (hy : Strs w u ys) :
    Calls Tryz.prog 10 #[v, u] w fun e w' => e = .returned (.bool (decide (xs = ys))) ∧ Fr [] w w' := by
  obtain ⟨a, c, rfl, hc, hm, hn⟩ := hx.form
  obtain ⟨a2, c2, rfl, hc2, hm2, hn2⟩ := hy.form
  obtain ⟨n, hnx⟩ : ∃ n, n = xs.length := ⟨_, rfl⟩
  obtain ⟨n2, hnx2⟩ : ∃ n, n = ys.length := ⟨_, rfl⟩
  rw [← hnx] at hx hc hn ⊢
  rw [← hnx2] at hy hc2 hn2 ⊢
  have Hn := Lib.hid hnx; clear hnx
  have Hn2 := Lib.hid hnx2; clear hnx2
  by_cases he : n = n2
  · subst he
    go_enter Tryz.func10, Tryz.ntmps10
    go_wp2
    go_loopw [5] (fun i wr => ∃ k : Nat, k ≤ n ∧ i = .int .i64 k ∧ xs.take k = ys.take k ∧ Fr [] w wr) (fun i _ => n - (intOf i).toNat)
    case atStart => exact ⟨0, Nat.zero_le _, rfl, by simp, .refl w⟩
    case round =>
      obtain ⟨k, hk, rfl, hno, hd⟩ := hrel
      have hx := hx.fr hd
      have hy := hy.fr hd
      have Hno := Lib.hid hno; clear hno
      by_cases hlt : k < n
      · obtain ⟨s, hs⟩ : ∃ s, xs[k]? = some s := ⟨_, List.getElem?_eq_getElem (Hn.out ▸ hlt)⟩
        obtain ⟨t, ht⟩ : ∃ s, ys[k]? = some s := ⟨_, List.getElem?_eq_getElem (Hn2.out ▸ hlt)⟩
        obtain ⟨b, o, hidx, hcell⟩ := hx.at_ Hn.out 23 9 Tryz.underlying23 Tryz.sizeOf9 k s hs
        obtain ⟨b2, o2, hidx2, hcell2⟩ := hy.at_ Hn2.out 23 9 Tryz.underlying23 Tryz.sizeOf9 k t ht
        have Hs := Lib.hid hs; clear hs
        have Ht := Lib.hid ht; clear ht
        by_cases hst : s = t
        · have hbq := beq_tt hst
          have Hst := Lib.hid hst; clear hst
          go_upto_region 6 with fail
          refine wp_region_ord [(0, false), (1, false), (2, false), (3, false), (4, false), (5, false), (6, false), (7, false), (8, false)] _ (by kernel_rfl) (by kernel_rfl) (by simp only [pick, List.filterMap_cons, List.filterMap_nil, List.getElem?_cons_succ, List.getElem?_cons_zero, Option.map_some]; rfl) ?_
          have fd := (Fr.refl wr).drew
          have x1 := Ext.cell (fd.cell hcell)
          have x2 := Ext.cell (fd.cell hcell2)
          repeat (with_reducible refine wpO_q (fun K hK => ?_); go_simp; refine hK _ ?_; clear hK K)
          refine wpO_nil (fun w7 hw7 => ?_)
          go_wp2
          go_roundw
          case rel =>
            refine ⟨k + 1, by omega, by go_num, by rw [take_snoc Hs.out, take_snoc Ht.out, Hno.out, Hst.out], hd.then (fd.then hw7)⟩
          case measure => simp [intOf]; omega
        · have hbq := beq_ff hst
          have Hst := Lib.hid hst; clear hst
          go_upto_region 6 with fail
          refine wp_region_ord [(0, false), (1, false), (2, false), (3, false), (4, false), (5, false), (6, false), (7, false), (8, false)] _ (by kernel_rfl) (by kernel_rfl) (by simp only [pick, List.filterMap_cons, List.filterMap_nil, List.getElem?_cons_succ, List.getElem?_cons_zero, Option.map_some]; rfl) ?_
          have fd := (Fr.refl wr).drew
          have x1 := Ext.cell (fd.cell hcell)
          have x2 := Ext.cell (fd.cell hcell2)
          repeat (with_reducible refine wpO_q (fun K hK => ?_); go_simp; refine hK _ ?_; clear hK K)
          refine wpO_nil (fun w7 hw7 => ?_)
          go_wp2
          go_ret
          refine ⟨ret_bool (decide_eq_false fun e => ?_).symm, hd.then (fd.then hw7)⟩
          have h1 := Hs.out
          rw [e, Ht.out] at h1
          injection h1 with h1
          exact Hst.out h1.symm
      · go_wp2
        go_ret
        have h1 := Hno.out
        rw [List.take_of_length_le (by have := Hn.out; omega), List.take_of_length_le (by have := Hn2.out; omega)] at h1
        exact ⟨ret_bool (decide_eq_true h1).symm, hd⟩
  · have hd1 : ((n : Int) == (n2 : Int)) = false := by simp; omega
    have hne : xs ≠ ys := fun e => he (by rw [Hn.out, Hn2.out, e])
    have hdec : decide (xs = ys) = false := decide_eq_false hne
    rw [hdec]
    have He := Lib.hid he; clear he hne hdec
    go_enter Tryz.func10, Tryz.ntmps10
    go_wp2
    go_ret
    exact ⟨rfl, .refl w⟩

/-- What the law calls few. -/
def FewN (n : Nd) : Prop := n.id.size ≤ 100 ∧ n.preds.length ≤ 20 ∧ ∀ p ∈ n.preds, p.size ≤ 100
def Few (L : List Nd) : Prop := L.length ≤ 30 ∧ ∀ n ∈ L, FewN n
instance (n : Nd) : Decidable (FewN n) := by unfold FewN; infer_instance
instance (L : List Nd) : Decidable (Few L) := by unfold Few; infer_instance

set_option maxRecDepth 100000 in
set_option maxHeartbeats 2000000 in
theorem few9 (v : Value) (L : List Nd) (w : World) (hs : Nodes w v L) :
    Calls Tryz.prog 29 #[v] w fun e w' => e = .returned (.bool (decide (Few L))) ∧ w = w' := by
  obtain ⟨a, c, rfl, hc, hm, hn⟩ := hs.form
  obtain ⟨n, hnx⟩ : ∃ n, n = L.length := ⟨_, rfl⟩
  rw [← hnx] at hs hc hn ⊢
  have Hn := Lib.hid hnx; clear hnx
  by_cases h30 : 30 < n
  · have hf : decide (Few L) = false := decide_eq_false fun h => by have := h.1; have := Hn.out; omega
    rw [hf]
    have hd1 : decide ((30 : Int) < (n : Int)) = true := decide_eq_true (by omega)
    have hd2 : decide (30 < n) = true := decide_eq_true h30
    clear hf
    go_enter Tryz.func29, Tryz.ntmps29
    go_wp2
    go_ret
    exact ⟨rfl, rfl⟩
  · have hd1 : decide ((30 : Int) < (n : Int)) = false := decide_eq_false (by omega)
    have hd2 : decide (30 < n) = false := decide_eq_false h30
    go_enter Tryz.func29, Tryz.ntmps29
    go_wp2
    go_loopw [3] (fun i wr => w = wr ∧ ∃ k : Nat, k ≤ n ∧ i = .int .i64 k ∧ ∀ x ∈ L.take k, FewN x) (fun i _ => n - (intOf i).toNat)
    case atStart => exact ⟨rfl, 0, Nat.zero_le _, rfl, by simp⟩
    case round =>
      obtain ⟨rfl, k, hk, rfl, hno⟩ := hrel
      have Hno := Lib.hid hno; clear hno
      by_cases hlt : k < n
      · obtain ⟨x, hx⟩ : ∃ x, L[k]? = some x := ⟨_, List.getElem?_eq_getElem (Hn.out ▸ hlt)⟩
        obtain ⟨b, o, pv, hidx, hcell0, hcell1, hp⟩ := hs.at_ Hn.out 22 50 Tryz.underlying22 Tryz.sizeOf50 k x hx
        obtain ⟨pa, pc, rfl, hpc, hpm, hpn⟩ := hp.form
        obtain ⟨m, hmx⟩ : ∃ m, m = x.preds.length := ⟨_, rfl⟩
        rw [← hmx] at hp hpc hpn hcell1
        have Hm := Lib.hid hmx; clear hmx
        have Hx := Lib.hid hx; clear hx
        have hno' : ∀ {y : BS}, ¬ FewN x → decide (Few L) = false := fun h => decide_eq_false fun hF => h (hF.2 x (List.mem_of_getElem? Hx.out))
        by_cases hid : 100 < x.id.size
        · have e1 := hno' (y := x.id) (fun h => by have := h.1; omega)
          have hd3 : decide ((100 : Int) < (x.id.size : Int)) = true := decide_eq_true (by omega)
          have hd4 : decide (100 < x.id.size) = true := decide_eq_true hid
          have E1 := Lib.hid e1; clear e1 hno'
          go_wp2
          go_ret
          exact ⟨by rw [E1.out]; rfl, rfl⟩
        · have hd3 : decide ((100 : Int) < (x.id.size : Int)) = false := decide_eq_false (by omega)
          have hd4 : decide (100 < x.id.size) = false := decide_eq_false hid
          by_cases hpl : 20 < m
          · have e1 := hno' (y := x.id) (fun h => by have := h.2.1; have := Hm.out; omega)
            have hd5 : decide ((20 : Int) < (m : Int)) = true := decide_eq_true (by omega)
            have hd6 : decide (20 < m) = true := decide_eq_true hpl
            have E1 := Lib.hid e1; clear e1 hno'
            go_wp2
            go_ret
            exact ⟨by rw [E1.out]; rfl, rfl⟩
          · have hd5 : decide ((20 : Int) < (m : Int)) = false := decide_eq_false (by omega)
            have hd6 : decide (20 < m) = false := decide_eq_false hpl
            have Hno' := Lib.hid (fun (y : BS) (h : ¬ FewN x) => hno' (y := y) h); clear hno'
            go_wp2
            go_loopw [4] (fun i wr => w = wr ∧ ∃ j : Nat, j ≤ m ∧ i = .int .i64 j ∧ ∀ p ∈ x.preds.take j, p.size ≤ 100) (fun i _ => m - (intOf i).toNat)
            case atStart => exact ⟨rfl, 0, Nat.zero_le _, rfl, by simp⟩
            case round =>
              obtain ⟨rfl, j, hj, rfl, hin⟩ := hrel
              have Hin := Lib.hid hin; clear hin
              by_cases hlt2 : j < m
              · obtain ⟨p, hpj⟩ : ∃ p, x.preds[j]? = some p := ⟨_, List.getElem?_eq_getElem (Hm.out ▸ hlt2)⟩
                obtain ⟨b1, o1, hidx1, hcell2⟩ := hp.at_ Hm.out 23 9 Tryz.underlying23 Tryz.sizeOf9 j p hpj
                have Hpj := Lib.hid hpj; clear hpj
                by_cases hps : 100 < p.size
                · have e1 := Hno'.out x.id (fun h => by have := h.2.2 p (List.mem_of_getElem? Hpj.out); omega)
                  have hd7 : decide ((100 : Int) < (p.size : Int)) = true := decide_eq_true (by omega)
                  have hd8 : decide (100 < p.size) = true := decide_eq_true hps
                  have E1 := Lib.hid e1; clear e1
                  go_wp2
                  go_ret
                  exact ⟨by rw [E1.out]; rfl, rfl⟩
                · have hd7 : decide ((100 : Int) < (p.size : Int)) = false := decide_eq_false (by omega)
                  have hd8 : decide (100 < p.size) = false := decide_eq_false hps
                  have Hps := Lib.hid hps; clear hps
                  go_wp2
                  go_roundw
                  case rel =>
                    refine ⟨trivial, j + 1, by omega, by go_num, fun y hy => ?_⟩
                    rw [take_snoc Hpj.out, List.mem_append, List.mem_singleton] at hy
                    rcases hy with hy | rfl
                    · exact Hin.out y hy
                    · have := Hps.out; omega
                  case measure => simp [intOf]; omega
              · go_wp2
                go_roundw
                case rel =>
                  refine ⟨trivial, k + 1, by omega, by go_num, fun y hy => ?_⟩
                  rw [take_snoc Hx.out, List.mem_append, List.mem_singleton] at hy
                  rcases hy with hy | rfl
                  · exact Hno.out y hy
                  · refine ⟨by omega, by have := Hm.out; omega, ?_⟩
                    have := Hin.out
                    rw [List.take_of_length_le (by have := Hm.out; omega)] at this
                    exact this
                case measure => simp [intOf]; omega
      · go_wp2
        go_ret
        have h1 := Hno.out
        rw [List.take_of_length_le (by have := Hn.out; omega)] at h1
        exact ⟨ret_bool (decide_eq_true ⟨by have := Hn.out; omega, h1⟩).symm, rfl⟩

theorem infoByte : (Tryz.prog.info? 5).map (fun i => (i.zero, i.size, i.bytes)) = some (some (.int .u8 0), 1, 1) := by kernel_rfl
def idOf (b : UInt8) : BS := ⟨(List.replicate 32 b).toArray⟩

set_option maxRecDepth 100000 in
set_option maxHeartbeats 1000000 in
theorem id33 (b : UInt8) (w : World) : Calls Tryz.prog 31 #[.int .u8 b.toNat] w fun e w' => e = .returned (.string (idOf b)) ∧ Fr [] w w' := by
  go_enter Tryz.func31, Tryz.ntmps31
  go_wp2
  go_loopw [3, 4] (fun u i wr => ∃ k : Nat, k ≤ 32 ∧ i = .int .i64 k ∧ wr.ownsRow w.heap.size 5 1 u k (List.replicate k (.int .u8 b.toNat)) ∧ Fr [] w wr) (fun _ i _ => 32 - (intOf i).toNat)
  case atStart => exact ⟨0, Nat.zero_le _, rfl, World.ownsRow_nil _ _ _ _, .refl w⟩
  case round =>
    obtain ⟨k, hk, rfl, ho, hf⟩ := hrel
    by_cases hlt : k < 32
    · have hd1 : decide ((k : Int) < 32) = true := decide_eq_true (by omega)
      have f1 := hf.alloc (.cells #[.int .u8 b.toNat] 5)
      have hs1 := Sl.new wr #[.int .u8 b.toNat] 5 1 1 rfl (by omega)
      go_wp2_with (at_builtin; refine wpList_app rfl _ _ 87 rfl 5 (.int .u8 0) 1 1 Tryz.underlying87 infoByte rfl (by decide) (by decide) _ _ _ _ rfl (own_fr ho ((Fr.refl wr).alloc _)) _ _ _ rfl hs1 (by simp [Value.oneCell']) (by omega) f1.size ?_; intro v1 w1 hown1 hg1 hat1; have f2 := f1.grown hg1 (own_base0 ho))
      go_roundw
      case rel => exact ⟨k + 1, by omega, by go_num, by rw [List.replicate_succ']; exact hown1, f2⟩
      case measure => simp [intOf]; omega
    · obtain rfl : k = 32 := by omega
      rcases ho.2 with ⟨_, h0⟩ | ⟨gb, cap, cur, rfl, hb, hg, r1, r2, r3, r4⟩
      · cases h0
      · have hcell : ∀ i, i < 32 → wr.cell? ⟨gb, 0 + i, none⟩ = some (.int .u8 ((List.replicate 32 (b.toNat : Int)).getD i 0)) := fun i hi => by
          have h1 : (cur.toList.take (32 * 1))[i]? = (List.replicate 32 (Value.int .u8 b.toNat))[i]? := by rw [r4]
          rw [List.getElem?_take_of_lt (by omega), Array.getElem?_toList] at h1
          rw [Nat.zero_add]
          simp only [World.cell?, hg, Option.isSome_none, Bool.false_eq_true, if_false]
          rw [h1, List.getElem?_replicate, if_pos hi, List.getD_eq_getElem?_getD, List.getElem?_replicate, if_pos hi]
          rfl
        have hconv := run_convert_bytes_arg (P := Tryz.prog) (w := wr) 87 5 Tryz.underlying87 Tryz.underlying5 gb 0 32 cap (List.replicate 32 (b.toNat : Int)) (by simp) hcell 9 Tryz.underlying9
        have e1 : strOfNums (List.replicate 32 (b.toNat : Int)) = idOf b := by
          simp [strOfNums, idOf]
        rw [e1] at hconv
        clear hcell e1
        go_wp2
        go_ret
        exact ⟨rfl, hf⟩

/-- What the law makes of a list: the graph of those that Add took. -/
def makeG (L : List Nd) : G := L.foldl (fun g n => addG g n.id n.preds) []
theorem makeG_take {L : List Nd} {k : Nat} {n : Nd} (h : L[k]? = some n) : makeG (L.take (k + 1)) = addG (makeG (L.take k)) n.id n.preds := by
  rw [take_snoc h]; simp [makeG, List.foldl_append]
theorem wf_makeG (L : List Nd) : Wf (makeG L) := by
  induction L using snoc_ind with
  | nil => intro i n h; simp [makeG] at h
  | snoc l x ih => simp only [makeG, List.foldl_append, List.foldl_cons, List.foldl_nil]; exact wf_addG ih
theorem len_addG (g : G) (id : BS) (ps : List BS) : (addG g id ps).length ≤ g.length + 1 := by
  unfold addG; split <;> simp
theorem len_makeG (L : List Nd) : (makeG L).length ≤ L.length := by
  induction L using snoc_ind with
  | nil => simp [makeG]
  | snoc l x ih =>
    simp only [makeG, List.foldl_append, List.foldl_cons, List.foldl_nil, List.length_append, List.length_singleton]
    exact Nat.le_trans (len_addG _ _ _) (Nat.succ_le_succ ih)

end Go.Proofs.YtoaebladjdnfjaaGreat
