import Derived.Test.YtppgjglfoibfcaaGreatDagAhead
import Derived.Test.YtppgjglfoibfcaaGreatDagOrder
import Derived.Laws.BytesArg
import Derived.Test.YtppgjglfoibfcaaGreatOrd2
import Derived.StillTailTactics
set_option linter.unusedSimpArgs false
set_option linter.unusedVariables false
/-
  The law's own functions (chantrylaw16) and ref01.Texts.
-/
namespace Go.Proofs.YtppgjglfoibfcaaGreat
open Go.RowKit

set_option maxRecDepth 100000 in
set_option maxHeartbeats 1000000 in
theorem texts15 (v u : Value) (xs ys : List BS) (w : World) (hx : Strs w v xs) (hy : Strs w u ys) :
    Calls Tryz.prog 26 #[v, u] w fun e w' => e = .returned (.bool (decide (xs = ys))) ∧ Fr [] w w' := by
  obtain ⟨a, c, rfl, hc, hm, hn⟩ := hx.form
  obtain ⟨a2, c2, rfl, hc2, hm2, hn2⟩ := hy.form
  obtain ⟨n, hnx⟩ : ∃ n, n = xs.length := ⟨_, rfl⟩
  obtain ⟨n2, hnx2⟩ : ∃ n, n = ys.length := ⟨_, rfl⟩
  rw [← hnx] at hx hc hn ⊢
  rw [← hnx2] at hy hc2 hn2 ⊢
  have Hn := Lib.hid hnx; clear hnx
  have Hn2 := Lib.hid hnx2; clear hnx2
  by_cases he : n = n2
  · subst he
    go_enter Tryz.func26, Tryz.ntmps26
    go_wp2
    go_loopw [5] (fun i wr => ∃ k : Nat, k ≤ n ∧ i = .int .i64 k ∧ xs.take k = ys.take k ∧ Fr [] w wr) (fun i _ => n - (intOf i).toNat)
    case atStart => exact ⟨0, Nat.zero_le _, rfl, by simp, .refl w⟩
    case round =>
      obtain ⟨k, hk, rfl, hno, hd⟩ := hrel
      have hx := hx.fr hd
      have hy := hy.fr hd
      have Hno := Lib.hid hno; clear hno
      by_cases hlt : k < n
      · obtain ⟨s, hs⟩ : ∃ s, xs[k]? = some s := ⟨_, List.getElem?_eq_getElem (Hn.out ▸ hlt)⟩
        obtain ⟨t, ht⟩ : ∃ s, ys[k]? = some s := ⟨_, List.getElem?_eq_getElem (Hn2.out ▸ hlt)⟩
        obtain ⟨b, o, hidx, hcell⟩ := hx.at_ Hn.out 51 9 Tryz.underlying51 Tryz.sizeOf9 k s hs
        obtain ⟨b2, o2, hidx2, hcell2⟩ := hy.at_ Hn2.out 51 9 Tryz.underlying51 Tryz.sizeOf9 k t ht
        have Hs := Lib.hid hs; clear hs
        have Ht := Lib.hid ht; clear ht
        by_cases hst : s = t
        · have hbq := beq_tt hst
          have Hst := Lib.hid hst; clear hst
          go_upto_region 6 with fail
          refine wp_region_ord [(0, false), (1, false), (2, false), (3, false), (4, false), (5, false), (6, false), (7, false), (8, false)] _ (by kernel_rfl) (by kernel_rfl) (by simp only [pick, List.filterMap_cons, List.filterMap_nil, List.getElem?_cons_succ, List.getElem?_cons_zero, Option.map_some]; rfl) ?_
          have fd := (Fr.refl wr).drew
          have x1 := Ext.cell (fd.cell hcell)
          have x2 := Ext.cell (fd.cell hcell2)
          repeat (with_reducible refine wpO_q (fun K hK => ?_); go_simp; refine hK _ ?_; clear hK K)
          refine wpO_nil (fun w7 hw7 => ?_)
          go_wp2
          go_roundw
          case rel =>
            refine ⟨k + 1, by omega, by go_num, by rw [take_snoc Hs.out, take_snoc Ht.out, Hno.out, Hst.out], hd.then (fd.then hw7)⟩
          case measure => simp [intOf]; omega
        · have hbq := beq_ff hst
          have Hst := Lib.hid hst; clear hst
          go_upto_region 6 with fail
          refine wp_region_ord [(0, false), (1, false), (2, false), (3, false), (4, false), (5, false), (6, false), (7, false), (8, false)] _ (by kernel_rfl) (by kernel_rfl) (by simp only [pick, List.filterMap_cons, List.filterMap_nil, List.getElem?_cons_succ, List.getElem?_cons_zero, Option.map_some]; rfl) ?_
          have fd := (Fr.refl wr).drew
          have x1 := Ext.cell (fd.cell hcell)
          have x2 := Ext.cell (fd.cell hcell2)
          repeat (with_reducible refine wpO_q (fun K hK => ?_); go_simp; refine hK _ ?_; clear hK K)
          refine wpO_nil (fun w7 hw7 => ?_)
          go_wp2
          go_ret
          refine ⟨ret_bool (decide_eq_false fun e => ?_).symm, hd.then (fd.then hw7)⟩
          have h1 := Hs.out
          rw [e, Ht.out] at h1
          injection h1 with h1
          exact Hst.out h1.symm
      · go_wp2
        go_ret
        have h1 := Hno.out
        rw [List.take_of_length_le (by have := Hn.out; omega), List.take_of_length_le (by have := Hn2.out; omega)] at h1
        exact ⟨ret_bool (decide_eq_true h1).symm, hd⟩
  · have hd1 : ((n : Int) == (n2 : Int)) = false := by simp; omega
    have hne : xs ≠ ys := fun e => he (by rw [Hn.out, Hn2.out, e])
    have hdec : decide (xs = ys) = false := decide_eq_false hne
    rw [hdec]
    have He := Lib.hid he; clear he hne hdec
    go_enter Tryz.func26, Tryz.ntmps26
    go_wp2
    go_ret
    exact ⟨rfl, .refl w⟩

/-- What the law calls few. -/
def FewN (n : Nd) : Prop := n.id.size ≤ 100 ∧ n.preds.length ≤ 20 ∧ ∀ p ∈ n.preds, p.size ≤ 100
def Few (L : List Nd) : Prop := L.length ≤ 30 ∧ ∀ n ∈ L, FewN n
instance (n : Nd) : Decidable (FewN n) := by unfold FewN; infer_instance
instance (L : List Nd) : Decidable (Few L) := by unfold Few; infer_instance

set_option maxRecDepth 100000 in
set_option maxHeartbeats 2000000 in
theorem few9 (v : Value) (L : List Nd) (w : World) (hs : Nodes w v L) :
    Calls Tryz.prog 14 #[v] w fun e w' => e = .returned (.bool (decide (Few L))) ∧ w = w' := by
  obtain ⟨a, c, rfl, hc, hm, hn⟩ := hs.form
  obtain ⟨n, hnx⟩ : ∃ n, n = L.length := ⟨_, rfl⟩
  rw [← hnx] at hs hc hn ⊢
  have Hn := Lib.hid hnx; clear hnx
  by_cases h30 : 30 < n
  · have hf : decide (Few L) = false := decide_eq_false fun h => by have := h.1; have := Hn.out; omega
    rw [hf]
    have hd1 : decide ((30 : Int) < (n : Int)) = true := decide_eq_true (by omega)
    have hd2 : decide (30 < n) = true := decide_eq_true h30
    clear hf
    go_enter Tryz.func14, Tryz.ntmps14
    go_wp2
    go_ret
    exact ⟨rfl, rfl⟩
  · have hd1 : decide ((30 : Int) < (n : Int)) = false := decide_eq_false (by omega)
    have hd2 : decide (30 < n) = false := decide_eq_false h30
    go_enter Tryz.func14, Tryz.ntmps14
    go_wp2
    go_loopw [3] (fun i wr => w = wr ∧ ∃ k : Nat, k ≤ n ∧ i = .int .i64 k ∧ ∀ x ∈ L.take k, FewN x) (fun i _ => n - (intOf i).toNat)
    case atStart => exact ⟨rfl, 0, Nat.zero_le _, rfl, by simp⟩
    case round =>
      obtain ⟨rfl, k, hk, rfl, hno⟩ := hrel
      have Hno := Lib.hid hno; clear hno
      by_cases hlt : k < n
      · obtain ⟨x, hx⟩ : ∃ x, L[k]? = some x := ⟨_, List.getElem?_eq_getElem (Hn.out ▸ hlt)⟩
        obtain ⟨b, o, pv, hidx, hcell0, hcell1, hp⟩ := hs.at_ Hn.out 22 120 Tryz.underlying22 Tryz.sizeOf120 k x hx
        obtain ⟨pa, pc, rfl, hpc, hpm, hpn⟩ := hp.form
        obtain ⟨m, hmx⟩ : ∃ m, m = x.preds.length := ⟨_, rfl⟩
        rw [← hmx] at hp hpc hpn hcell1
        have Hm := Lib.hid hmx; clear hmx
        have Hx := Lib.hid hx; clear hx
        have hno' : ∀ {y : BS}, ¬ FewN x → decide (Few L) = false := fun h => decide_eq_false fun hF => h (hF.2 x (List.mem_of_getElem? Hx.out))
        by_cases hid : 100 < x.id.size
        · have e1 := hno' (y := x.id) (fun h => by have := h.1; omega)
          have hd3 : decide ((100 : Int) < (x.id.size : Int)) = true := decide_eq_true (by omega)
          have hd4 : decide (100 < x.id.size) = true := decide_eq_true hid
          have E1 := Lib.hid e1; clear e1 hno'
          go_wp2
          go_ret
          exact ⟨by rw [E1.out]; rfl, rfl⟩
        · have hd3 : decide ((100 : Int) < (x.id.size : Int)) = false := decide_eq_false (by omega)
          have hd4 : decide (100 < x.id.size) = false := decide_eq_false hid
          by_cases hpl : 20 < m
          · have e1 := hno' (y := x.id) (fun h => by have := h.2.1; have := Hm.out; omega)
            have hd5 : decide ((20 : Int) < (m : Int)) = true := decide_eq_true (by omega)
            have hd6 : decide (20 < m) = true := decide_eq_true hpl
            have E1 := Lib.hid e1; clear e1 hno'
            go_wp2
            go_ret
            exact ⟨by rw [E1.out]; rfl, rfl⟩
          · have hd5 : decide ((20 : Int) < (m : Int)) = false := decide_eq_false (by omega)
            have hd6 : decide (20 < m) = false := decide_eq_false hpl
            have Hno' := Lib.hid (fun (y : BS) (h : ¬ FewN x) => hno' (y := y) h); clear hno'
            go_wp2
            go_loopw [4] (fun i wr => w = wr ∧ ∃ j : Nat, j ≤ m ∧ i = .int .i64 j ∧ ∀ p ∈ x.preds.take j, p.size ≤ 100) (fun i _ => m - (intOf i).toNat)
            case atStart => exact ⟨rfl, 0, Nat.zero_le _, rfl, by simp⟩
            case round =>
              obtain ⟨rfl, j, hj, rfl, hin⟩ := hrel
              have Hin := Lib.hid hin; clear hin
              by_cases hlt2 : j < m
              · obtain ⟨p, hpj⟩ : ∃ p, x.preds[j]? = some p := ⟨_, List.getElem?_eq_getElem (Hm.out ▸ hlt2)⟩
                obtain ⟨b1, o1, hidx1, hcell2⟩ := hp.at_ Hm.out 51 9 Tryz.underlying51 Tryz.sizeOf9 j p hpj
                have Hpj := Lib.hid hpj; clear hpj
                by_cases hps : 100 < p.size
                · have e1 := Hno'.out x.id (fun h => by have := h.2.2 p (List.mem_of_getElem? Hpj.out); omega)
                  have hd7 : decide ((100 : Int) < (p.size : Int)) = true := decide_eq_true (by omega)
                  have hd8 : decide (100 < p.size) = true := decide_eq_true hps
                  have E1 := Lib.hid e1; clear e1
                  go_wp2
                  go_ret
                  exact ⟨by rw [E1.out]; rfl, rfl⟩
                · have hd7 : decide ((100 : Int) < (p.size : Int)) = false := decide_eq_false (by omega)
                  have hd8 : decide (100 < p.size) = false := decide_eq_false hps
                  have Hps := Lib.hid hps; clear hps
                  go_wp2
                  go_roundw
                  case rel =>
                    refine ⟨trivial, j + 1, by omega, by go_num, fun y hy => ?_⟩
                    rw [take_snoc Hpj.out, List.mem_append, List.mem_singleton] at hy
                    rcases hy with hy | rfl
                    · exact Hin.out y hy
                    · have := Hps.out; omega
                  case measure => simp [intOf]; omega
              · go_wp2
                go_roundw
                case rel =>
                  refine ⟨trivial, k + 1, by omega, by go_num, fun y hy => ?_⟩
                  rw [take_snoc Hx.out, List.mem_append, List.mem_singleton] at hy
                  rcases hy with hy | rfl
                  · exact Hno.out y hy
                  · refine ⟨by omega, by have := Hm.out; omega, ?_⟩
                    have := Hin.out
                    rw [List.take_of_length_le (by have := Hm.out; omega)] at this
                    exact this
                case measure => simp [intOf]; omega
      · go_wp2
        go_ret
        have h1 := Hno.out
        rw [List.take_of_length_le (by have := Hn.out; omega)] at h1
        exact ⟨ret_bool (decide_eq_true ⟨by have := Hn.out; omega, h1⟩).symm, rfl⟩

theorem infoByte : (Tryz.prog.info? 5).map (fun i => (i.zero, i.size, i.bytes)) = some (some (.int .u8 0), 1, 1) := by kernel_rfl
def idOf (b : UInt8) : BS := ⟨(List.replicate 32 b).toArray⟩

set_option maxRecDepth 100000 in
set_option maxHeartbeats 1000000 in
theorem id33 (b : UInt8) (w : World) : Calls Tryz.prog 64 #[.int .u8 b.toNat] w fun e w' => e = .returned (.string (idOf b)) ∧ Fr [] w w' := by
  go_enter Tryz.func64, Tryz.ntmps64
  go_wp2
  go_loopw [3, 4] (fun u i wr => ∃ k : Nat, k ≤ 32 ∧ i = .int .i64 k ∧ wr.ownsRow w.heap.size 5 1 u k (List.replicate k (.int .u8 b.toNat)) ∧ Fr [] w wr) (fun _ i _ => 32 - (intOf i).toNat)
  case atStart => exact ⟨0, Nat.zero_le _, rfl, World.ownsRow_nil _ _ _ _, .refl w⟩
  case round =>
    obtain ⟨k, hk, rfl, ho, hf⟩ := hrel
    by_cases hlt : k < 32
    · have hd1 : decide ((k : Int) < 32) = true := decide_eq_true (by omega)
      have f1 := hf.alloc (.cells #[.int .u8 b.toNat] 5)
      have hs1 := Sl.new wr #[.int .u8 b.toNat] 5 1 1 rfl (by omega)
      go_wp2_with (at_builtin; refine wpList_app rfl _ _ 63 rfl 5 (.int .u8 0) 1 1 Tryz.underlying63 infoByte rfl (by decide) (by decide) _ _ _ _ rfl (own_fr ho ((Fr.refl wr).alloc _)) _ _ _ rfl hs1 (by simp [Value.oneCell']) (by omega) f1.size ?_; intro v1 w1 hown1 hg1 hat1; have f2 := f1.grown hg1 (own_base0 ho))
      go_roundw
      case rel => exact ⟨k + 1, by omega, by go_num, by rw [List.replicate_succ']; exact hown1, f2⟩
      case measure => simp [intOf]; omega
    · obtain rfl : k = 32 := by omega
      rcases ho.2 with ⟨_, h0⟩ | ⟨gb, cap, cur, rfl, hb, hg, r1, r2, r3, r4⟩
      · cases h0
      · have hcell : ∀ i, i < 32 → wr.cell? ⟨gb, 0 + i, none⟩ = some (.int .u8 ((List.replicate 32 (b.toNat : Int)).getD i 0)) := fun i hi => by
          have h1 : (cur.toList.take (32 * 1))[i]? = (List.replicate 32 (Value.int .u8 b.toNat))[i]? := by rw [r4]
          rw [List.getElem?_take_of_lt (by omega), Array.getElem?_toList] at h1
          rw [Nat.zero_add]
          simp only [World.cell?, hg, Option.isSome_none, Bool.false_eq_true, if_false]
          rw [h1, List.getElem?_replicate, if_pos hi, List.getD_eq_getElem?_getD, List.getElem?_replicate, if_pos hi]
          rfl
        have hconv := run_convert_bytes_arg (P := Tryz.prog) (w := wr) 63 5 Tryz.underlying63 Tryz.underlying5 gb 0 32 cap (List.replicate 32 (b.toNat : Int)) (by simp) hcell 9 Tryz.underlying9
        have e1 : strOfNums (List.replicate 32 (b.toNat : Int)) = idOf b := by
          simp [strOfNums, idOf]
        rw [e1] at hconv
        clear hcell e1
        go_wp2
        go_ret
        exact ⟨rfl, hf⟩

/-- What the law makes of a list: the graph of those that Add took. -/
def makeG (L : List Nd) : G := L.foldl (fun g n => addG g n.id n.preds) []
theorem makeG_take {L : List Nd} {k : Nat} {n : Nd} (h : L[k]? = some n) : makeG (L.take (k + 1)) = addG (makeG (L.take k)) n.id n.preds := by
  rw [take_snoc h]; simp [makeG, List.foldl_append]
theorem wf_makeG (L : List Nd) : Wf (makeG L) := by
  induction L using snoc_ind with
  | nil => intro i n h; simp [makeG] at h
  | snoc l x ih => simp only [makeG, List.foldl_append, List.foldl_cons, List.foldl_nil]; exact wf_addG ih
theorem len_addG (g : G) (id : BS) (ps : List BS) : (addG g id ps).length ≤ g.length + 1 := by
  unfold addG; split <;> simp
theorem len_makeG (L : List Nd) : (makeG L).length ≤ L.length := by
  induction L using snoc_ind with
  | nil => simp [makeG]
  | snoc l x ih =>
    simp only [makeG, List.foldl_append, List.foldl_cons, List.foldl_nil, List.length_append, List.length_singleton]
    exact Nat.le_trans (len_addG _ _ _) (Nat.succ_le_succ ih)

end Go.Proofs.YtppgjglfoibfcaaGreat

set_option linter.unusedSimpArgs false
set_option linter.unusedVariables false
/-
  The law's Make.
-/
namespace Go.Proofs.YtppgjglfoibfcaaGreat
open Go.RowKit

instance extSNonempty (S : List Nat) (w : World) : Nonempty (Ext (FrS S) w) := ⟨⟨w, fun h => .reflS h⟩⟩
theorem ExtS.cell {S : List Nat} {w : World} {a : Addr} {v : Value} (hS : ∀ k, k ∈ S → IsMp w k) (h : w.cell? a = some v) : ∀ x : Ext (FrS S) w, x.w.cell? a = some v := fun x => (x.fr hS).cell h
theorem DagAt.maps {w : World} {v : Value} {mN mH : Nat} {g : G} (h : DagAt w v mN mH g) : ∀ k, k ∈ [mN, mH] → IsMp w k := by
  obtain ⟨bD, lN, lH, _, hi⟩ := h
  intro k hk
  simp at hk
  rcases hk with rfl | rfl
  · exact hi.mapN.isMp
  · exact hi.mapH.isMp
/-- A store into a block that bears no text turns nothing of what is read off texts. -/
def NoText (w : World) (R : Nat) : Prop := ∀ o s, w.cell? ⟨R, o, none⟩ ≠ some (.string s)
theorem Strs.set {w : World} {R : Nat} (hR : NoText w R) {v : Value} {xs : List BS} (h : Strs w v xs) (u : Value) : Strs (w.setCell ⟨R, 0, none⟩ u) v xs := by
  obtain ⟨h1, h2, a, c, e, h3, h4, h5, h6⟩ := h
  refine ⟨h1, h2, a, c, e, h3, h4, h5, fun h0 => ?_⟩
  obtain ⟨b, o, rfl, hc⟩ := h6 h0
  refine ⟨b, o, rfl, fun i x hx => ?_⟩
  have hcx := hc i x hx
  rw [List.getElem?_map, Option.map_eq_some_iff] at hx
  obtain ⟨s, _, rfl⟩ := hx
  have hne : b ≠ R := fun e => hR _ _ (e ▸ hcx)
  rw [World.cell?_setCell_other _ _ _ _ (fun e => hne (by have := congrArg Addr.block e; simpa using this.symm))]
  exact hcx
theorem Nodes.set {w : World} {R : Nat} (hR : NoText w R) {v : Value} {g : G} (h : Nodes w v g) (u : Value) : Nodes (w.setCell ⟨R, 0, none⟩ u) v g := by
  obtain ⟨cs, ⟨h1, h2, a, c, e, h3, h4, h5, h6⟩, h7⟩ := h
  refine ⟨cs, ⟨h1, h2, a, c, e, h3, h4, h5, fun h0 => ?_⟩, fun i n hi => ?_⟩
  · obtain ⟨b, o, rfl, hc⟩ := h6 h0
    refine ⟨b, o, rfl, fun i x hx => ?_⟩
    obtain ⟨n0, hn0⟩ : ∃ n, g[0]? = some n := ⟨_, List.getElem?_eq_getElem h0⟩
    obtain ⟨pv, k1, _, _⟩ := h7 0 n0 hn0
    have hcs := hc (0 * 2) _ k1
    have hne : b ≠ R := fun e => hR _ _ (e ▸ hcs)
    rw [World.cell?_setCell_other _ _ _ _ (fun e => hne (by have := congrArg Addr.block e; simpa using this.symm))]
    exact hc i x hx
  · obtain ⟨pv, k1, k2, k3⟩ := h7 i n hi
    exact ⟨pv, k1, k2, k3.set hR u⟩

theorem row_cell {w : World} {R : Nat} {gv : Value} {e : TypeId} {f : Nat × Nat} (hR : w.heap[R]? = some (.cells #[gv] e f)) : w.cell? ⟨R, 0, none⟩ = some gv := by simp [World.cell?, hR]
theorem row_only {w : World} {R o : Nat} {gv v : Value} {e : TypeId} {f : Nat × Nat} (hR : w.heap[R]? = some (.cells #[gv] e f)) (h : w.cell? ⟨R, o, none⟩ = some v) : v = gv := by
  simp only [World.cell?, hR, Option.isSome_none, Bool.false_eq_true, if_false] at h
  cases o with
  | zero => simpa using h.symm
  | succ o => simp at h
theorem row_frozen {w : World} {R : Nat} {gv : Value} {e : TypeId} (hR : w.heap[R]? = some (.cells #[gv] e (0, 0))) : w.frozen? ⟨R, 0, none⟩ = false := by simp [World.frozen?, hR]
theorem row_noText {w : World} {R n c : Nat} {a : Option Addr} {e : TypeId} {f : Nat × Nat} (hR : w.heap[R]? = some (.cells #[.slice a n c] e f)) : NoText w R := fun o s h => by cases row_only hR h
theorem row_set {w : World} {R : Nat} {gv : Value} {e : TypeId} {f : Nat × Nat} (hR : w.heap[R]? = some (.cells #[gv] e f)) (u : Value) : (w.setCell ⟨R, 0, none⟩ u).heap[R]? = some (.cells #[u] e f) := by
  simp [World.setCell, Array.getElem?_modify, hR]
theorem NodeV.set {w : World} {R : Nat} (hR : NoText w R) {v : Value} {g : G} {x : BS} (h : NodeV w v g x) (u : Value) : NodeV (w.setCell ⟨R, 0, none⟩ u) v g x := by
  obtain ⟨pv, kv, h1, h2, h3⟩ := h; exact ⟨pv, kv, h1, h2.set hR u, h3.set hR u⟩
theorem row_far {w : World} {R N : Nat} {o : Obj} (hR : w.heap[R]? = some o) (h : R ≠ N) (u : Value) : (w.setCell ⟨N, 0, none⟩ u).heap[R]? = some o := (Below.heap_setCell _ ⟨N, 0, none⟩ _ _ h).trans hR
theorem row_lt {w : World} {R : Nat} {o : Obj} (hR : w.heap[R]? = some o) : R < w.heap.size := (Array.getElem?_eq_some_iff.1 hR).1
theorem mp_ne {w : World} {R m : Nat} {l : Ents} {c : Array Value} {e : TypeId} {f : Nat × Nat} (hR : w.heap[R]? = some (.cells c e f)) (h : Mp w m l) : m ≠ R := by
  obtain ⟨es, cl, hb, _⟩ := h
  rintro rfl
  rw [hR] at hb; cases hb
theorem DagAt.set {w : World} {R n c : Nat} {a : Option Addr} {e : TypeId} {f : Nat × Nat} (hR : w.heap[R]? = some (.cells #[.slice a n c] e f)) {v : Value} {mN mH : Nat} {g : G} (h : DagAt w v mN mH g) (u : Value) : DagAt (w.setCell ⟨R, 0, none⟩ u) v mN mH g := by
  obtain ⟨bD, lN, lH, rfl, h⟩ := h
  have hne : ∀ {o : Nat} {m : Option Nat}, w.cell? ⟨bD, o, none⟩ = some (.map m) → (w.setCell ⟨R, 0, none⟩ u).cell? ⟨bD, o, none⟩ = some (.map m) := by
    intro o m hc
    have hb : bD ≠ R := by rintro rfl; cases row_only hR hc
    rw [World.cell?_setCell_other _ _ _ _ (fun e => hb (by have := congrArg Addr.block e; simpa using this.symm))]
    exact hc
  exact ⟨bD, lN, lH, rfl, ⟨hne h.c0, hne h.c1, h.ne, h.mapN.set (mp_ne hR h.mapN) u, h.mapH.set (mp_ne hR h.mapH) u, h.keysN, h.lenN, fun x => (h.nodes x).set (row_noText hR) u, h.keysH⟩⟩

set_option maxRecDepth 100000 in
set_option maxHeartbeats 4000000 in
theorem make14 (v : Value) (L : List Nd) (w : World) (hs : Nodes w v L) (hl : L.length ≤ 4096) :
    Calls Tryz.prog 17 #[v] w fun e w' => ∃ dv mN mH gv, e = .returned (.tuple #[dv, .agg #[gv]]) ∧ DagAt w' dv mN mH (makeG L) ∧ w.heap.size ≤ mN ∧ w.heap.size ≤ mH ∧ Nodes w' gv (makeG L) ∧ Fr [] w w' := by
  obtain ⟨a, c, rfl, hc, hm, hn⟩ := hs.form
  obtain ⟨n, hnx⟩ : ∃ n, n = L.length := ⟨_, rfl⟩
  rw [← hnx] at hs hc hn hl ⊢
  have Hn := Lib.hid hnx; clear hnx
  go_enter Tryz.func17, Tryz.ntmps17
  go_upto_region 2 with (go_at_call 63; refine (empty8 _).mono ?_; rintro e w1 ⟨dv, rfl, hd, f1⟩)
  have hm0 : w.heap.size ≤ (w.alloc (.cells #[.slice none 0 0] 30)).heap.size := by simp
  obtain ⟨mN, hmN⟩ : ∃ m, m = (w.alloc (.cells #[.slice none 0 0] 30)).heap.size := ⟨_, rfl⟩
  have f0 := (Fr.refl w).alloc (.cells #[.slice none 0 0] 30)
  have hr0 : (w.alloc (.cells #[.slice none 0 0] 30)).heap[w.heap.size]? = some (.cells #[.slice none 0 0] 30 (0, 0)) := (MapKept.heap_alloc w _).1
  rw [← hmN] at hd hm0
  have hbase : mN = (w.alloc (.cells #[.slice none 0 0] 30)).heap.size := hmN
  clear hmN
  generalize w.alloc (.cells #[.slice none 0 0] 30) = wB at f0 f1 hr0 hbase
  have f2 := (Fr.refl w1).alloc (.cells #[.slice none 0 0] 30)
  have hR := (MapKept.heap_alloc w1 (.cells #[.slice none 0 0] 30)).1
  have hd2 := hd.fr f2 (by simp) (by simp)
  have F2 := f1.then f2
  have hRs : mN ≤ w1.heap.size := by rw [hbase]; exact f1.size
  generalize w1.alloc (.cells #[.slice none 0 0] 30) = wS at hR hd2 F2 ⊢
  obtain ⟨R, hRR⟩ : ∃ R, R = w1.heap.size := ⟨_, rfl⟩
  rw [← hRR] at hR hRs ⊢
  clear hRR f2 hd f1
  have Hbase := Lib.hid hbase; clear hbase
  go_wp2
  have hmaps : ∀ k, k ∈ [mN, mN + 1] → wB.heap.size ≤ k := fun k hk => by have := Hbase.out; simp at hk; omega
  go_loopw [6] (fun i wr => ∃ (k : Nat) (gv : Value), i = .int .i64 k ∧ k ≤ n ∧ DagAt wr dv mN (mN + 1) (makeG (L.take k)) ∧ Nodes wr gv (makeG (L.take k)) ∧ wr.heap[R]? = some (.cells #[gv] 30 (0, 0)) ∧ Fr [] wB wr) (fun i _ => n - (intOf i).toNat)
  case atStart => exact ⟨0, _, rfl, Nat.zero_le _, hd2, Nodes.nil _, hR, F2⟩
  case round =>
    obtain ⟨k, gv, rfl, hk, hd, hg, hR, hf⟩ := hrel
    have F0 := f0.then hf
    have hsr := hs.fr F0
    have hRc : wr.cell? ⟨R, 0, none⟩ = some gv := by simp [World.cell?, hR]
    obtain ⟨ga, gc, rfl, _⟩ := hg.form
    by_cases hlt : k < n
    · obtain ⟨x, hx⟩ : ∃ x, L[k]? = some x := ⟨_, List.getElem?_eq_getElem (Hn.out ▸ hlt)⟩
      obtain ⟨b, o, pv, hidx, hcell0, hcell1, hp⟩ := hsr.at_ Hn.out 22 120 Tryz.underlying22 Tryz.sizeOf120 k x hx
      obtain ⟨pa, pc, rfl, _⟩ := hp.form
      have Hx := Lib.hid hx; clear hx
      have hgl : (makeG (L.take k)).length ≤ 4096 := by have := len_makeG (L.take k); simp at this; omega
      go_upto_region 5 with fail
      go_still_tail 11, (by kernel_rfl)
      change wpList _ _ _ _ _ wr.drew
      have fd := (Fr.refl wr).drew
      have C := add12 _ _ _ _ x.id x.preds _ _ (hd.fr fd (by simp) (by simp)) (wf_makeG _) (hp.fr fd) hgl
      obtain ⟨wd, hwd⟩ : ∃ wd, wd = wr.drew := ⟨_, rfl⟩
      rw [← hwd] at fd C ⊢
      clear hwd
      go_upto_region 6 with (go_at_call 65; refine C.mono ?_; rintro e w5 ⟨rfl, hd5, hw5⟩)
      have hd6 := hd5
      obtain ⟨w6, rfl⟩ : ∃ w6, w6 = w5 := ⟨_, rfl⟩
      have g56 : Fr [mN, mN + 1] wr w6 := fd.before hw5 (fun k hk => (hd.maps k hk).lt)
      have hf6 : Fr [] wB w6 := hf.drop g56 hmaps
      have hc06 := g56.cell hcell0
      have hc16 := g56.cell hcell1
      have hR6 := g56.row hR
      have hg6 := hg.fr g56
      have hp6 := hp.fr g56
      have hRc6 := g56.cell hRc
      go_upto_region 6 with fail
      refine wp_region_ordX Fr.pre [15] (.op 0 0 (.op 1 2 (.op 2 2 (.op 3 2 (.op 4 2 (.op 5 0 (.op 6 2 (.op 7 2 (.op 8 2 (.op 9 2 (.op 10 0 (.op 11 1 (.op 12 2 (.op 13 2 (.op 14 2 (.op 15 1 .fin)))))))))))))))) _ (by kernel_rfl) (by kernel_rfl) (by simp only [pickX, List.getElem?_cons_succ, List.getElem?_cons_zero]; rfl) ?_
      have fd2 := (Fr.refl w6).drew
      have x1 := Ext.cell (fd2.cell hc06)
      have x2 := Ext.cell (fd2.cell hc16)
      have x3 := Ext.cell (fd2.cell hRc6)
      repeat (first | (with_reducible refine wpX_q (fun K hK => ?_); go_simp; refine hK _ ?_; clear hK K) | (with_reducible refine wpX_p (fun K hK => ?_); go_simp; refine hK _ ?_; clear hK K) | (with_reducible refine wpX_p (fun K hK => ?_); go_simp; rw [if_neg (by simp [undef])]; refine hK _ ?_; clear hK K) | (with_reducible refine wpX_q (fun K hK => ?_); go_simp; rw [if_neg (by simp [undef])]; refine hK _ ?_; clear hK K))
      refine wpX_e (fun K hK => ?_)
      go_simp
      intro w7 hw7
      have g7 := fd2.then hw7
      refine (add16 _ _ _ _ _ _ (hg6.fr g7) (hp6.fr g7) (by omega)).mono ?_
      rintro e w8 ⟨⟨u, rfl, hu⟩, hw8⟩
      obtain ⟨ua, uc, rfl, _⟩ := hu.form
      refine ⟨_, rfl, hw8, hK _ _ ?_⟩
      clear hK K x1 x2 x3
      repeat (first | (with_reducible refine wpX_q (fun K hK => ?_); go_simp; refine hK _ ?_; clear hK K) | (with_reducible refine wpX_p (fun K hK => ?_); go_simp; refine hK _ ?_; clear hK K) | (with_reducible refine wpX_p (fun K hK => ?_); go_simp; rw [if_neg (by simp [undef])]; refine hK _ ?_; clear hK K) | (with_reducible refine wpX_q (fun K hK => ?_); go_simp; rw [if_neg (by simp [undef])]; refine hK _ ?_; clear hK K))
      have g8 : Fr [] w6 w8 := g7.then hw8
      have hR8 : w8.heap[R]? = _ := g8.row hR6
      refine wpX_e (fun K hK => ?_)
      go_simp
      intro w9 hw9
      have g9 : Fr [] w6 w9 := g8.then hw9
      have hR9 := hw9.row hR8
      have hRc9 := row_cell hR9
      have hRz9 := row_frozen hR9
      go_simp
      refine hK _ _ ?_
      clear hK K
      refine wpX_nil (fun w10 hw10 => ?_)
      have hd10 := (((hd6.fr g9 (by simp) (by simp)).set hR9 (.slice ua (addG (makeG (L.take k)) x.id x.preds).length uc)).fr hw10 (by simp) (by simp))
      have hu10 := ((hu.fr hw9).set (row_noText hR9) (.slice ua (addG (makeG (L.take k)) x.id x.preds).length uc)).fr hw10
      have hR10 := hw10.row (row_set hR9 (.slice ua (addG (makeG (L.take k)) x.id x.preds).length uc))
      have hf10 := ((hf6.then g9).setCell (a := ⟨R, 0, none⟩) (by have := Hbase.out; show wB.heap.size ≤ R; omega) (.slice ua (addG (makeG (L.take k)) x.id x.preds).length uc)).then hw10
      clear hd6 hd5 hu hR9 hR8 hw9 g9 g8 hR6 hRc9 hRz9 hR hRc hd
      go_wp2
      go_roundw
      case rel => exact ⟨k + 1, _, by go_num, by omega, by rw [makeG_take Hx.out]; exact hd10, by rw [makeG_take Hx.out]; exact hu10, hR10, hf10⟩
      case measure => simp [intOf]; omega
    · have hr1 := hf.row hr0
      go_wp2
      refine wp_region_ordX Fr.pre [3] (.op 0 2 (.op 1 0 (.op 2 2 (.op 3 1 .fin)))) _ (by kernel_rfl) (by kernel_rfl) (by simp only [pickX, List.getElem?_cons_succ, List.getElem?_cons_zero]; rfl) ?_
      have fd2 := (Fr.refl wr).drew
      have x3 := Ext.cell (fd2.cell hRc)
      repeat (first | (with_reducible refine wpX_q (fun K hK => ?_); go_simp; refine hK _ ?_; clear hK K) | (with_reducible refine wpX_p (fun K hK => ?_); go_simp; refine hK _ ?_; clear hK K) | (with_reducible refine wpX_p (fun K hK => ?_); go_simp; rw [if_neg (by simp [undef])]; refine hK _ ?_; clear hK K) | (with_reducible refine wpX_q (fun K hK => ?_); go_simp; rw [if_neg (by simp [undef])]; refine hK _ ?_; clear hK K))
      refine wpX_e (fun K hK => ?_)
      go_simp
      intro w7 hw7
      have g7 := fd2.then hw7
      have hr7 := g7.row hr1
      have hrc7 := row_cell hr7
      have hrz7 := row_frozen hr7
      go_simp
      refine hK _ _ ?_
      clear hK K
      refine wpX_nil (fun w8 hw8 => ?_)
      have hd8 := (((hd.fr g7 (by simp) (by simp)).set hr7 (.slice ga (makeG (L.take k)).length gc)).fr hw8 (by simp) (by simp))
      have hg8 := ((hg.fr g7).set (row_noText hr7) (.slice ga (makeG (L.take k)).length gc)).fr hw8
      have hr8 := row_cell (hw8.row (row_set hr7 (.slice ga (makeG (L.take k)).length gc)))
      have hf8 := ((F0.then g7).setCell (a := ⟨w.heap.size, 0, none⟩) (Nat.le_refl _) (.slice ga (makeG (L.take k)).length gc)).then hw8
      clear hd hg hr7 hr1 hrc7 hrz7 hw7 g7
      go_wp2
      refine bodyPost_ret (v := .tuple #[dv, .agg #[.slice ga (makeG (L.take k)).length gc]]) ?_ rfl ?_
      · simp [results, Tryz.f17]
        go_simp
      · have hl2 : L.take k = L := List.take_of_length_le (by have := Hn.out; omega)
        rw [hl2] at hd8 hg8 ⊢
        exact ⟨dv, mN, mN + 1, _, rfl, hd8, hm0, by omega, hg8, hf8⟩
end Go.Proofs.YtppgjglfoibfcaaGreat
