import Derived.Test.YtppgjglfoibfcaaGreatName
import Derived.Test.YtppgjglfoibfcaaGreatRec
import Derived.Test.YtppgjglfoibfcaaGreatCtr
import Derived.Laws.StructEq
set_option linter.unusedSimpArgs false
set_option linter.unusedVariables false
/-
  Words and rows: equality; the document's SameWords, SameRows, less, may.
-/
namespace Go.Proofs.YtppgjglfoibfcaaGreat
open Go.RowKit

def agWd (p : BS × BS) : Value := .agg #[.string p.1, .string p.2]
def Rw.ag (r : Rw) : Value := .agg #[.int .i64 r.kind, .string r.name, .string r.text, .int .i64 r.n, .string r.id, .string r.at_, .bool r.gone]

theorem eqInWd (a b : BS × BS) (W : World) : (Op.equalIn 10000 125 (agWd a) (agWd b)).run Tryz.prog W = .ok (decide (a = b)) W := by
  have u3 := Tryz.underlying9
  have a3 := Tryz.isAgg9
  have z3 := Tryz.sizeOf9
  have hS : Tryz.prog.underlying 125 = some (.struct (Tryz.prog.fieldsOf 125)) := by kernel_rfl
  have hp : Tryz.prog.stoodInHeld 125 = false := by kernel_rfl
  unfold agWd
  rw [show (10000 : Nat) = 9999 + 1 from rfl, run_equalIn_agg W 9999 125 _ _ hS hp]
  simp only [Program.fieldsOf, Tryz.underlying125]
  obtain ⟨a1, a2⟩ := a
  obtain ⟨b1, b2⟩ := b
  by_cases h1 : a1 = b1
  · have e1 := beq_tt h1
    by_cases h2 : a2 = b2
    · have e2 := beq_tt h2
      go_simp
    · have e2 := beq_ff h2
      go_simp
  · have e1 := beq_ff h1
    go_simp
theorem eqWd (a b : BS × BS) (W : World) : (binOp .eql 125 (agWd a) (agWd b)).run Tryz.prog W = .ok (.bool (decide (a = b))) W := by
  rw [show agWd a = .agg #[.string a.1, .string a.2] from rfl, show agWd b = .agg #[.string b.1, .string b.2] from rfl, run_eql_struct]
  have := eqInWd a b W
  unfold agWd at this
  rw [this]; rfl
theorem neqWd (a b : BS × BS) (W : World) : (binOp .neq 125 (agWd a) (agWd b)).run Tryz.prog W = .ok (.bool (!decide (a = b))) W := by
  rw [show agWd a = .agg #[.string a.1, .string a.2] from rfl, show agWd b = .agg #[.string b.1, .string b.2] from rfl, run_neq_struct]
  have := eqInWd a b W
  unfold agWd at this
  rw [this]; rfl
set_option maxHeartbeats 1000000 in
theorem eqInRw (a b : Rw) (W : World) : (Op.equalIn 10000 56 a.ag b.ag).run Tryz.prog W = .ok (decide (a = b)) W := by
  have u3 := Tryz.underlying9
  have a3 := Tryz.isAgg9
  have z3 := Tryz.sizeOf9
  have u4 := Tryz.underlying3
  have a4 := Tryz.isAgg3
  have z4 := Tryz.sizeOf3
  have u5 := Tryz.underlying4
  have a5 := Tryz.isAgg4
  have z5 := Tryz.sizeOf4
  have hS : Tryz.prog.underlying 56 = some (.struct (Tryz.prog.fieldsOf 56)) := by kernel_rfl
  have hp : Tryz.prog.stoodInHeld 56 = false := by kernel_rfl
  unfold Rw.ag
  rw [show (10000 : Nat) = 9999 + 1 from rfl, run_equalIn_agg W 9999 56 _ _ hS hp]
  simp only [Program.fieldsOf, Tryz.underlying56]
  obtain ⟨a1, a2, a3', a4', a5', a6, a7⟩ := a
  obtain ⟨b1, b2, b3, b4, b5, b6, b7⟩ := b
  have hd : decide ((⟨a1, a2, a3', a4', a5', a6, a7⟩ : Rw) = ⟨b1, b2, b3, b4, b5, b6, b7⟩) = (decide (a1 = b1) && (decide (a2 = b2) && (decide (a3' = b3) && (decide (a4' = b4) && (decide (a5' = b5) && (decide (a6 = b6) && decide (a7 = b7))))))) := by
    rw [Bool.eq_iff_iff]; simp
  rw [hd]
  clear hd
  by_cases h1 : a1 = b1
  case neg => have e1 : (a1 == b1) = false := by simpa using h1
              go_simp
  have e1 : (a1 == b1) = true := by simpa using h1
  by_cases h2 : a2 = b2
  case neg => have e2 := beq_ff h2
              go_simp
  have e2 := beq_tt h2
  by_cases h3 : a3' = b3
  case neg => have e3 := beq_ff h3
              go_simp
  have e3 := beq_tt h3
  by_cases h4 : a4' = b4
  case neg => have e4 : (a4' == b4) = false := by simpa using h4
              go_simp
  have e4 : (a4' == b4) = true := by simpa using h4
  by_cases h5 : a5' = b5
  case neg => have e5 := beq_ff h5
              go_simp
  have e5 := beq_tt h5
  by_cases h6 : a6 = b6
  case neg => have e6 := beq_ff h6
              go_simp
  have e6 := beq_tt h6
  by_cases h7 : a7 = b7
  case neg => have e7 : (a7 == b7) = false := by simpa using h7
              go_simp
  have e7 : (a7 == b7) = true := by simpa using h7
  go_simp
theorem eqRw (a b : Rw) (W : World) : (binOp .eql 56 a.ag b.ag).run Tryz.prog W = .ok (.bool (decide (a = b))) W := by
  have := eqInRw a b W
  unfold Rw.ag at this ⊢
  rw [run_eql_struct, this]; rfl
theorem neqRw (a b : Rw) (W : World) : (binOp .neq 56 a.ag b.ag).run Tryz.prog W = .ok (.bool (!decide (a = b))) W := by
  have := eqInRw a b W
  unfold Rw.ag at this ⊢
  rw [run_neq_struct, this]; rfl

theorem guardWd : Tryz.prog.eqGuardType Tryz.prog.depth 125 = false := by kernel_rfl
theorem guardRw : Tryz.prog.eqGuardType Tryz.prog.depth 56 = false := by kernel_rfl
theorem cellsWd {w : World} {b o : Nat} {x : BS × BS} (h : ∀ j y, (encWd x)[j]? = some y → w.cell? ⟨b, o + j, none⟩ = some y) :
    w.cell? ⟨b, o, none⟩ = some (.string x.1) ∧ w.cell? ⟨b, o + 1, none⟩ = some (.string x.2) := ⟨by simpa using h 0 _ rfl, h 1 _ rfl⟩
theorem cellsRw {w : World} {b o : Nat} {x : Rw} (h : ∀ j y, (encRw x)[j]? = some y → w.cell? ⟨b, o + j, none⟩ = some y) :
    w.cell? ⟨b, o, none⟩ = some (.int .i64 x.kind) ∧ w.cell? ⟨b, o + 1, none⟩ = some (.string x.name) ∧ w.cell? ⟨b, o + 2, none⟩ = some (.string x.text) ∧ w.cell? ⟨b, o + 3, none⟩ = some (.int .i64 x.n) ∧
      w.cell? ⟨b, o + 4, none⟩ = some (.string x.id) ∧ w.cell? ⟨b, o + 5, none⟩ = some (.string x.at_) ∧ w.cell? ⟨b, o + 6, none⟩ = some (.bool x.gone) :=
  ⟨by simpa using h 0 _ rfl, h 1 _ rfl, h 2 _ rfl, h 3 _ rfl, h 4 _ rfl, h 5 _ rfl, h 6 _ rfl⟩

theorem infoRw : (Tryz.prog.info? 56).map (fun i => (i.zero, i.size, i.bytes)) = some (some (.agg #[.int .i64 0, .string ⟨#[]⟩, .string ⟨#[]⟩, .int .i64 0, .string ⟨#[]⟩, .string ⟨#[]⟩, .bool false]), 7, 88) := by kernel_rfl
theorem infoWd : (Tryz.prog.info? 125).map (fun i => (i.zero, i.size, i.bytes)) = some (some (.agg #[.string ⟨#[]⟩, .string ⟨#[]⟩]), 2, 32) := by kernel_rfl
theorem wpList_appRw {w : World} {ops : Array Oper} {rest : List Oper} {o : Oper} {a : Act} {Q : Exit → Act → World → Prop} (hgd : o.guard = none) (s x : Operand)
    (ho : o.op = .call { callee := .builtin .append, args := #[s, x], argTypes := #[35, 35] })
    (base : Nat) (v : Value) (xs : List Rw) (hs : a.eval s = v) (hown : w.ownsRow base 56 7 v xs.length (xs.flatMap encRw))
    (xv : Value) (ys : List Rw) (hx : a.eval x = xv) (hsl : RowsR w xv ys) (hbytes : xs.length + ys.length ≤ 100000000) (hbase : base ≤ w.heap.size)
    (h : ∀ v' w', w'.ownsRow base 56 7 v' (xs ++ ys).length ((xs ++ ys).flatMap encRw) → w.grownBy w' v.ownBlock → (v'.ownBlock = v.ownBlock ∨ v'.ownBlock = some w.heap.size) → wpList Tryz.prog ops Q rest (a.put o.dst v') w') :
    wpList Tryz.prog ops Q (o :: rest) a w :=
  wpList_appR lenRw oneRw hgd s x 35 ho 56 _ 88 Tryz.underlying35 infoRw rfl (by decide) (by decide) base v xs hs hown xv ys hx hsl (by omega) hbase h
theorem wpList_appWd {w : World} {ops : Array Oper} {rest : List Oper} {o : Oper} {a : Act} {Q : Exit → Act → World → Prop} (hgd : o.guard = none) (s x : Operand)
    (ho : o.op = .call { callee := .builtin .append, args := #[s, x], argTypes := #[45, 45] })
    (base : Nat) (v : Value) (xs : List (BS × BS)) (hs : a.eval s = v) (hown : w.ownsRow base 125 2 v xs.length (xs.flatMap encWd))
    (xv : Value) (ys : List (BS × BS)) (hx : a.eval x = xv) (hsl : Words w xv ys) (hbytes : xs.length + ys.length ≤ 100000000) (hbase : base ≤ w.heap.size)
    (h : ∀ v' w', w'.ownsRow base 125 2 v' (xs ++ ys).length ((xs ++ ys).flatMap encWd) → w.grownBy w' v.ownBlock → (v'.ownBlock = v.ownBlock ∨ v'.ownBlock = some w.heap.size) → wpList Tryz.prog ops Q rest (a.put o.dst v') w') :
    wpList Tryz.prog ops Q (o :: rest) a w :=
  wpList_appR lenWd oneWd hgd s x 45 ho 125 _ 32 Tryz.underlying45 infoWd rfl (by decide) (by decide) base v xs hs hown xv ys hx hsl (by omega) hbase h
theorem row_new (w : World) (x : Rw) : RowsR (w.alloc (.cells #[.int .i64 x.kind, .string x.name, .string x.text, .int .i64 x.n, .string x.id, .string x.at_, .bool x.gone] 56)) (.slice (some ⟨w.heap.size, 0, none⟩) 1 1) [x] := by
  have := Recs.new lenRw w [x] 56 (by simp)
  simpa [encRw, Rw.cells] using this
theorem word_new (w : World) (x : BS × BS) : Words (w.alloc (.cells #[.string x.1, .string x.2] 125)) (.slice (some ⟨w.heap.size, 0, none⟩) 1 1) [x] := by
  have := Recs.new lenWd w [x] 125 (by simp)
  simpa [encWd] using this

set_option maxRecDepth 100000 in
set_option maxHeartbeats 1000000 in
theorem sameWords (v u : Value) (xs ys : List (BS × BS)) (w : World) (hx : Words w v xs) (hy : Words w u ys) (he : xs = ys) :
    Calls Tryz.prog 21 #[v, u] w fun e w' => e = .returned (.bool true) ∧ Fr [] w w' := by
  subst he
  obtain ⟨a, c, rfl, hc, hm, hn⟩ := hx.form
  obtain ⟨a2, c2, rfl, hc2, hm2, hn2⟩ := hy.form
  obtain ⟨n, hnx⟩ : ∃ n, n = xs.length := ⟨_, rfl⟩
  rw [← hnx] at hx hy hc hc2 hn hn2 ⊢
  have Hn := Lib.hid hnx; clear hnx
  go_enter Tryz.func21, Tryz.ntmps21
  go_wp2
  go_loopw [5] (fun i wr => ∃ k : Nat, k ≤ n ∧ i = .int .i64 k ∧ Fr [] w wr) (fun i _ => n - (intOf i).toNat)
  case atStart => exact ⟨0, Nat.zero_le _, rfl, .refl w⟩
  case round =>
    obtain ⟨k, hk, rfl, hd⟩ := hrel
    have hx := hx.fr hd
    have hy := hy.fr hd
    by_cases hlt : k < n
    · obtain ⟨s, hs⟩ : ∃ s, xs[k]? = some s := ⟨_, List.getElem?_eq_getElem (Hn.out ▸ hlt)⟩
      obtain ⟨b, o, hidx, hcell⟩ := hx.at_ lenWd Hn.out 45 125 Tryz.underlying45 Tryz.sizeOf125 k s hs
      obtain ⟨b2, o2, hidx2, hcell2⟩ := hy.at_ lenWd Hn.out 45 125 Tryz.underlying45 Tryz.sizeOf125 k s hs
      obtain ⟨c1, c2⟩ := cellsWd hcell
      obtain ⟨d1, d2⟩ := cellsWd hcell2
      have hq : ∀ W, (binOp .neq 125 (.agg #[.string s.1, .string s.2]) (.agg #[.string s.1, .string s.2])).run Tryz.prog W = .ok (.bool false) W := fun W => by
        have := neqWd s s W; simpa [agWd] using this
      have hgd := guardWd
      clear hs hcell hcell2
      go_upto_region 6 with fail
      go_quiet (fail)
      go_wp2
      go_roundw
      case rel => exact ⟨k + 1, by omega, by go_num, by first | exact hd.drewN _ | exact hd.drew | exact hd⟩
      case measure => simp [intOf]; omega
    · go_wp2
      go_ret
      exact ⟨rfl, hd⟩

set_option maxRecDepth 100000 in
set_option maxHeartbeats 1000000 in
theorem sameRows (v u : Value) (xs ys : List Rw) (w : World) (hx : RowsR w v xs) (hy : RowsR w u ys) (he : xs = ys) :
    Calls Tryz.prog 24 #[v, u] w fun e w' => e = .returned (.bool true) ∧ Fr [] w w' := by
  subst he
  obtain ⟨a, c, rfl, hc, hm, hn⟩ := hx.form
  obtain ⟨a2, c2, rfl, hc2, hm2, hn2⟩ := hy.form
  obtain ⟨n, hnx⟩ : ∃ n, n = xs.length := ⟨_, rfl⟩
  rw [← hnx] at hx hy hc hc2 hn hn2 ⊢
  have Hn := Lib.hid hnx; clear hnx
  go_enter Tryz.func24, Tryz.ntmps24
  go_wp2
  go_loopw [5] (fun i wr => ∃ k : Nat, k ≤ n ∧ i = .int .i64 k ∧ Fr [] w wr) (fun i _ => n - (intOf i).toNat)
  case atStart => exact ⟨0, Nat.zero_le _, rfl, .refl w⟩
  case round =>
    obtain ⟨k, hk, rfl, hd⟩ := hrel
    have hx := hx.fr hd
    have hy := hy.fr hd
    by_cases hlt : k < n
    · obtain ⟨s, hs⟩ : ∃ s, xs[k]? = some s := ⟨_, List.getElem?_eq_getElem (Hn.out ▸ hlt)⟩
      obtain ⟨b, o, hidx, hcell⟩ := hx.at_ lenRw Hn.out 35 56 Tryz.underlying35 Tryz.sizeOf56 k s hs
      obtain ⟨b2, o2, hidx2, hcell2⟩ := hy.at_ lenRw Hn.out 35 56 Tryz.underlying35 Tryz.sizeOf56 k s hs
      obtain ⟨c1, c2, c3, c4, c5, c6, c7⟩ := cellsRw hcell
      obtain ⟨d1, d2, d3, d4, d5, d6, d7⟩ := cellsRw hcell2
      have hq : ∀ W, (binOp .neq 56 (.agg #[.int .i64 s.kind, .string s.name, .string s.text, .int .i64 s.n, .string s.id, .string s.at_, .bool s.gone]) (.agg #[.int .i64 s.kind, .string s.name, .string s.text, .int .i64 s.n, .string s.id, .string s.at_, .bool s.gone])).run Tryz.prog W = .ok (.bool false) W := fun W => by
        have := neqRw s s W; simpa [Rw.ag] using this
      have hgd := guardRw
      clear hs hcell hcell2
      go_upto_region 6 with fail
      go_quiet (fail)
      go_wp2
      go_roundw
      case rel => exact ⟨k + 1, by omega, by go_num, by first | exact hd.drewN _ | exact hd.drew | exact hd⟩
      case measure => simp [intOf]; omega
    · go_wp2
      go_ret
      exact ⟨rfl, hd⟩

/-- Rows' order: by name, by ID. -/
def RLt (a b : Rw) : Prop := PLt (a.name, a.id) (b.name, b.id)
instance rltDec (a b : Rw) : Decidable (RLt a b) := inferInstanceAs (Decidable (PLt _ _))
theorem rlt_dec (a b : Rw) : decide (RLt a b) = (decide (BLt a.name b.name) || (decide (a.name = b.name) && decide (BLt a.id b.id))) := by
  rw [Bool.eq_iff_iff]; simp only [decide_eq_true_eq, Bool.or_eq_true, Bool.and_eq_true]; exact Iff.rfl
set_option maxRecDepth 100000 in
set_option maxHeartbeats 1000000 in
theorem less21 (a b : Rw) (w : World) : Calls Tryz.prog 67 #[a.ag, b.ag] w fun e w' => e = .returned (.bool (decide (RLt a b))) ∧ Fr [] w w' := by
  have h0 := rlt_dec a b
  have f1 := (Fr.refl w).alloc (.cells #[.int .i64 a.kind, .string a.name, .string a.text, .int .i64 a.n, .string a.id, .string a.at_, .bool a.gone] 56)
  have f2 := f1.alloc (.cells #[.int .i64 b.kind, .string b.name, .string b.text, .int .i64 b.n, .string b.id, .string b.at_, .bool b.gone] 56)
  unfold Rw.ag
  by_cases h1 : BLt a.name b.name
  · have e1 := less_tt h1
    rw [decide_eq_true h1, Bool.true_or] at h0
    rw [h0]
    clear h0
    go_enter Tryz.func67, Tryz.ntmps67
    go_wp2
    go_ret
    exact ⟨rfl, f2⟩
  · have e1 := less_ff h1
    rw [decide_eq_false h1, Bool.false_or] at h0
    by_cases h2 : a.name = b.name
    · have e2 := beq_tt h2
      rw [decide_eq_true h2, Bool.true_and] at h0
      rw [h0]
      clear h0
      have e3 := less_dec a.id b.id
      clear h2
      go_enter Tryz.func67, Tryz.ntmps67
      go_wp2
      go_ret
      exact ⟨by simp [less_dec], f2⟩
    · have e2 := beq_ff h2
      rw [decide_eq_false h2, Bool.false_and] at h0
      rw [h0]
      clear h0
      go_enter Tryz.func67, Tryz.ntmps67
      go_wp2
      go_ret
      exact ⟨rfl, f2⟩

theorem mayW_eq (n t i : BS) : mayW ⟨n, t, i⟩ = (nameOk n && decide (t.size ≤ 48) && decide (i.size = 32)) := rfl
set_option maxRecDepth 100000 in
set_option maxHeartbeats 1000000 in
theorem may21 (n t i : BS) (w : World) (hn : n.size ≤ 1000000) : Calls Tryz.prog 66 #[.string n, .string t, .string i] w fun e w' => e = .returned (.bool (mayW ⟨n, t, i⟩)) ∧ w = w' := by
  rw [mayW_eq]
  have CN := name16 n w hn
  have CR := right04 i w
  generalize nameOk n = N at CN ⊢
  have e2 : decide ((t.size : Int) ≤ 48) = decide (t.size ≤ 48) := by rw [Bool.eq_iff_iff]; simp; omega
  generalize hB : decide (i.size = 32) = B at CR ⊢
  clear hB
  have CN := Lib.hid CN
  have CR := Lib.hid CR
  cases N <;> by_cases h2 : t.size ≤ 48
  all_goals
    simp only [h2, decide_true, decide_false, Bool.and_true, Bool.and_false, Bool.true_and, Bool.false_and] at e2 ⊢
    go_enter Tryz.func66, Tryz.ntmps66
    go_wp2_with (first
      | (go_at_call 154; refine CN.out.mono ?_; rintro e w' ⟨rfl, rfl⟩)
      | (go_at_call 122; refine CR.out.mono ?_; rintro e w' ⟨rfl, rfl⟩))
    go_ret
    exact ⟨rfl, rfl⟩

/-- chantrylaw20.Deed. -/
structure Dd where
  gone : Bool
  name : BS
  text : BS
  id : BS
def encDd (d : Dd) : List Value := [.bool d.gone, .string d.name, .string d.text, .string d.id]
theorem lenDd (d : Dd) : (encDd d).length = 4 := rfl
abbrev Deeds (w : World) (v : Value) (xs : List Dd) : Prop := Recs 4 encDd w v xs
def OkDd (d : Dd) : Prop := d.name.size ≤ 60 ∧ d.text.size ≤ 100 ∧ d.id.size ≤ 60
instance okDdDec (d : Dd) : Decidable (OkDd d) := inferInstanceAs (Decidable (_ ∧ _ ∧ _))
def FewD (l : List Dd) : Prop := l.length ≤ 40 ∧ ∀ d ∈ l, OkDd d
instance fewDDec (l : List Dd) : Decidable (FewD l) := inferInstanceAs (Decidable (_ ∧ _))
theorem fewD_no {l : List Dd} {k : Nat} {d : Dd} (h : l[k]? = some d) (hn : ¬ OkDd d) : decide (FewD l) = false := decide_eq_false fun hf => hn (hf.2 _ (List.mem_of_getElem? h))
theorem fewD_yes {l : List Dd} {n k : Nat} (hn : n = l.length) (hl : n ≤ 40) (hk : ¬ k < n) (h : ∀ d ∈ l.take k, OkDd d) : decide (FewD l) = true :=
  decide_eq_true ⟨by omega, by rwa [List.take_of_length_le (by omega)] at h⟩
set_option maxRecDepth 100000 in
set_option maxHeartbeats 2000000 in
theorem few20 (v : Value) (l : List Dd) (w : World) (hs : Deeds w v l) : Calls Tryz.prog 15 #[v] w fun e w' => e = .returned (.bool (decide (FewD l))) ∧ w = w' := by
  obtain ⟨a, c, rfl, hc, hm, hn⟩ := hs.form
  obtain ⟨n, hnx⟩ : ∃ n, n = l.length := ⟨_, rfl⟩
  rw [← hnx] at hs hc hn ⊢
  have Hn := Lib.hid hnx; clear hnx
  by_cases h40 : n ≤ 40
  · go_enter Tryz.func15, Tryz.ntmps15
    go_wp2
    go_loop [3] (fun i => ∃ k : Nat, k ≤ n ∧ i = .int .i64 k ∧ Hid (∀ d ∈ l.take k, OkDd d)) (fun i => n - (intOf i).toNat)
    case atStart => exact ⟨0, Nat.zero_le _, rfl, Lib.hid (by simp)⟩
    case round =>
      obtain ⟨k, hk, rfl, Hok⟩ := hrel
      by_cases hlt : k < n
      · obtain ⟨x, hx⟩ : ∃ s, l[k]? = some s := ⟨_, List.getElem?_eq_getElem (Hn.out ▸ hlt)⟩
        obtain ⟨b, o, hidx, hcell⟩ := hs.at_ lenDd Hn.out 23 42 Tryz.underlying23 Tryz.sizeOf42 k x hx
        have c1 : w.cell? ⟨b, o + 1, none⟩ = some (.string x.name) := hcell 1 _ rfl
        have c2 : w.cell? ⟨b, o + 2, none⟩ = some (.string x.text) := hcell 2 _ rfl
        have c3 : w.cell? ⟨b, o + 3, none⟩ = some (.string x.id) := hcell 3 _ rfl
        have Hx := Lib.hid hx
        clear hx hcell
        have z1 : decide ((60 : Int) < (x.name.size : Int)) = !decide (x.name.size ≤ 60) := by rw [Bool.eq_iff_iff]; simp; omega
        have z2 : decide ((100 : Int) < (x.text.size : Int)) = !decide (x.text.size ≤ 100) := by rw [Bool.eq_iff_iff]; simp; omega
        have z3 : decide ((60 : Int) < (x.id.size : Int)) = !decide (x.id.size ≤ 60) := by rw [Bool.eq_iff_iff]; simp; omega
        by_cases h1 : x.name.size ≤ 60
        case neg =>
          simp only [h1, decide_false, Bool.not_false] at z1
          have HR := Lib.hid (fewD_no Hx.out (fun h => h1 h.1))
          go_wp2
          go_ret
          exact ⟨by rw [HR.out]; rfl, rfl⟩
        by_cases h2 : x.text.size ≤ 100
        case neg =>
          simp only [h1, h2, decide_false, decide_true, Bool.not_true, Bool.not_false] at z1 z2
          have HR := Lib.hid (fewD_no Hx.out (fun h => h2 h.2.1))
          go_wp2
          go_ret
          exact ⟨by rw [HR.out]; rfl, rfl⟩
        by_cases h3 : x.id.size ≤ 60
        case neg =>
          simp only [h1, h2, h3, decide_false, decide_true, Bool.not_true, Bool.not_false] at z1 z2 z3
          have HR := Lib.hid (fewD_no Hx.out (fun h => h3 h.2.2))
          go_wp2
          go_ret
          exact ⟨by rw [HR.out]; rfl, rfl⟩
        simp only [h1, h2, h3, decide_true, Bool.not_true] at z1 z2 z3
        go_wp2
        go_round
        case rel => exact ⟨k + 1, by omega, by go_num, Lib.hid fun d hd => by
          rw [take_snoc Hx.out, List.mem_append, List.mem_singleton] at hd
          rcases hd with hd | rfl
          · exact Hok.out d hd
          · exact ⟨h1, h2, h3⟩⟩
        case measure => simp [intOf]; omega
      · have HR := Lib.hid (fewD_yes Hn.out h40 hlt Hok.out)
        go_wp2
        go_ret
        exact ⟨by rw [HR.out]; rfl, rfl⟩
  · have HR := Lib.hid (decide_eq_false (fun hf => h40 (by have := hf.1; have := Hn.out; omega)) : decide (FewD l) = false)
    go_enter Tryz.func15, Tryz.ntmps15
    go_wp2
    go_ret
    exact ⟨by rw [HR.out]; rfl, rfl⟩

/-- values.write: a text, an ID (the name is the map's). -/
def encWt (x : Wr) : List Value := [.string x.text, .string x.id]
def agWt (x : Wr) : Value := .agg #[.string x.text, .string x.id]
theorem lenWt (x : Wr) : (encWt x).length = 2 := rfl
theorem oneWt (x : Wr) : ∀ v ∈ encWt x, v.oneCell' = true := by intro v hv; simp [encWt] at hv; rcases hv with rfl | rfl <;> rfl
theorem cellsWt {w : World} {b o : Nat} {x : Wr} (h : ∀ j y, (encWt x)[j]? = some y → w.cell? ⟨b, o + j, none⟩ = some y) :
    w.cell? ⟨b, o, none⟩ = some (.string x.text) ∧ w.cell? ⟨b, o + 1, none⟩ = some (.string x.id) := ⟨by simpa using h 0 _ rfl, h 1 _ rfl⟩
def Wr.rw (x : Wr) : Rw := ⟨3, x.name, x.text, 0, x.id, ⟨#[]⟩, false⟩
end Go.Proofs.YtppgjglfoibfcaaGreat
