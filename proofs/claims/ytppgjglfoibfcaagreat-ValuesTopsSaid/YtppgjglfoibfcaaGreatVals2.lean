import Derived.Test.YtppgjglfoibfcaaGreatVals1
import Derived.Deep.DeepCutAuto
import Derived.Test.YtppgjglfoibfcaaGreatIdsOf
set_option linter.unusedSimpArgs false
set_option linter.unusedVariables false
/-
  Package values: Empty, may, Write.
-/
namespace Go.Proofs.YtppgjglfoibfcaaGreat
open Go.RowKit

/-- The dag, none of whose maps is one of S. -/
def DagN (S : List Nat) (w : World) (v : Value) (g : G) : Prop := (v = .pointer none ∧ g = []) ∨ ∃ mN mH, DagAt w v mN mH g ∧ mN ∉ S ∧ mH ∉ S
theorem DagN.r {S : List Nat} {w : World} {v : Value} {g : G} (h : DagN S w v g) : DagR w v g := h.imp _root_.id fun ⟨a, b, h, _⟩ => ⟨a, b, h⟩
theorem DagN.fr {S T : List Nat} {w w' : World} {v : Value} {g : G} (h : DagN S w v g) (hf : Fr T w w') (hT : ∀ x ∈ T, x ∈ S) : DagN S w' v g :=
  h.imp _root_.id fun ⟨a, b, h, h1, h2⟩ => ⟨a, b, h.fr hf (fun k => h1 (hT _ k)) (fun k => h2 (hT _ k)), h1, h2⟩

/-- The registers at block vb, their map at bm: what is written is L. -/
structure ValsAt (w : World) (vb bm : Nat) (dv : Value) (L : List Wr) (K : Nat) : Prop where
  blk : w.heap[vb]? = some (.cells #[dv, .map (some bm)] 128 (0, 0))
  map : ∃ l, Mp w bm l ∧ l.length ≤ K ∧ (∀ n ∈ keysL l, n.size ≤ 12) ∧ ∀ n, (∃ u, lk l n = some u ∧ Recs 2 encWt w u (regW L n)) ∨ (lk l n = none ∧ regW L n = [])
  srt : WSorted L
theorem ValsAt.fr {S : List Nat} {w w' : World} {vb bm : Nat} {dv : Value} {L : List Wr} {K : Nat} (h : ValsAt w vb bm dv L K) (hf : Fr S w w') (hS : bm ∉ S) : ValsAt w' vb bm dv L K := by
  obtain ⟨l, h1, h2, h3, h4⟩ := h.map
  exact ⟨hf.row h.blk, ⟨l, h1.fr hf hS, h2, h3, fun n => (h4 n).imp (fun ⟨u, a, b⟩ => ⟨u, a, b.fr hf⟩) _root_.id⟩, h.srt⟩

set_option maxRecDepth 100000 in
theorem emptyV (p : Option Addr) (dv : Value) (hp : dv = .pointer p) (w : World) : Calls Tryz.prog 18 #[dv] w fun e w' => ∃ vb, e = .returned (.pointer (some ⟨vb, 0, none⟩)) ∧ ValsAt w' vb w.heap.size dv [] 0 ∧ w.heap.size ≤ vb ∧ Fr [] w w' := by
  subst hp
  have hmm := @run_makeMap Tryz.prog
  have f0 := ((Fr.refl w).alloc (.map #[] 0))
  have f1 := f0.alloc (.cells #[.pointer p, .map (some w.heap.size)] 128)
  have hM := (Mp.made w).fr ((Fr.refl _).alloc (.cells #[.pointer p, .map (some w.heap.size)] 128)) (by simp)
  have hb := rowNew (w.alloc (.map #[] 0)) (.cells #[.pointer p, .map (some w.heap.size)] 128)
  rw [World.size_alloc] at hb
  go_enter Tryz.func18, Tryz.ntmps18
  go_wp2
  go_ret
  exact ⟨_, rfl, ⟨hb, ⟨[], hM, Nat.le_refl _, by simp [keysL], fun n => .inr ⟨rfl, rfl⟩⟩, List.Pairwise.nil⟩, by omega, f1⟩

set_option maxRecDepth 100000 in
set_option maxHeartbeats 1000000 in
theorem mayV (n t i : BS) (w : World) : Calls Tryz.prog 68 #[.string n, .agg #[.string t, .string i]] w fun e w' => e = .returned (.bool (mayW ⟨n, t, i⟩)) ∧ Fr [] w w' := by
  have f0 := (Fr.refl w).alloc (.cells #[.string t, .string i] 132)
  rw [mayW_eq]
  have CN := fun W => name44 n W
  have CR := fun W => right58 i W
  have e2 : decide ((t.size : Int) ≤ 48) = decide (t.size ≤ 48) := by rw [Bool.eq_iff_iff]; simp; omega
  generalize nameOk n = N at CN ⊢
  generalize hB : decide (i.size = 32) = B at CR ⊢
  clear hB
  have CN := Lib.hid CN
  have CR := Lib.hid CR
  have hn := rowNew w (.cells #[.string t, .string i] 132)
  cases N <;> by_cases h2 : t.size ≤ 48
  all_goals
    simp only [h2, decide_true, decide_false, Bool.and_true, Bool.and_false, Bool.true_and, Bool.false_and] at e2 ⊢
    go_enter Tryz.func68, Tryz.ntmps68
    go_wp2_with (first
      | (go_at_call 155; refine (CN.out _).mono ?_; rintro e w1 ⟨rfl, f1⟩; have hn1 := rowAt (f1.row hn) (j := 0) rfl; have hn2 := rowAt (f1.row hn) (j := 1) rfl)
      | (go_at_call 156; refine (CR.out _).mono ?_; rintro e w' ⟨rfl, rfl⟩))
    go_ret
    exact ⟨rfl, f0.then f1⟩

theorem wt_new (w : World) (x : Wr) : Recs 2 encWt (w.alloc (.cells #[.string x.text, .string x.id] 132)) (.slice (some ⟨w.heap.size, 0, none⟩) 1 1) [x] := by
  have := Recs.new lenWt w [x] 132 (by simp)
  simpa [encWt] using this
theorem lookW {w : World} {b : Nat} {l : Ents} (h : Mp w b l) (n : BS) : (Instr.lookup 126 (.map (some b)) (.string n) false).run Tryz.prog w = .ok ((lk l n).getD (.slice none 0 0)) w := by
  have := h.look Tryz.underlying126 Tryz.underlying9 (z := .slice none 0 0) (Tryz.zeroValue134 w) n false
  simpa using this
theorem entOwn {w : World} {L : List Wr} {l : Ents} (h4 : ∀ n, (∃ u, lk l n = some u ∧ Recs 2 encWt w u (regW L n)) ∨ (lk l n = none ∧ regW L n = [])) (n : BS) : Recs 2 encWt w ((lk l n).getD (.slice none 0 0)) (regW L n) := by
  rcases h4 n with ⟨u, h1, h2⟩ | ⟨h1, h2⟩
  · rw [h1]; exact h2
  · rw [h1, h2]; exact Recs.nil w

/-- The blocks of the entries of the map at bm are P. -/
def Aw (P : Nat → Prop) (w : World) (bm : Nat) : Prop := ∀ l, Mp w bm l → ∀ n u, lk l n = some u → ∀ b, u.ownBlock = some b → P b
theorem Aw.imp {P Q : Nat → Prop} {w : World} {bm : Nat} (h : Aw P w bm) (hPQ : ∀ b, P b → Q b) : Aw Q w bm := fun l hl n u hu b hb => hPQ b (h l hl n u hu b hb)
theorem entsOf_inj : ∀ (l l' : Ents), entsOf l = entsOf l' → l = l'
  | [], [], _ => rfl
  | [], _ :: _, h => by simp [entsOf] at h
  | _ :: _, [], h => by simp [entsOf] at h
  | (a, b) :: l, (c, d) :: l', h => by
    simp [entsOf] at h
    obtain ⟨⟨rfl, rfl⟩, h⟩ := h
    rw [entsOf_inj l l' (by simpa [entsOf] using h)]
theorem Mp.uniq {w : World} {b : Nat} {l l' : Ents} (h : Mp w b l) (h' : Mp w b l') : l = l' := by
  obtain ⟨es, c, e, _, h1⟩ := h
  obtain ⟨es', c', e', _, h2⟩ := h'
  rw [e] at e'
  cases e'
  exact entsOf_inj _ _ (h1.symm.trans h2)
theorem Aw.fr {P : Nat → Prop} {S : List Nat} {w w' : World} {bm : Nat} (h : Aw P w bm) (hf : Fr S w w') (hS : bm ∉ S) (hb : bm < w.heap.size) : Aw P w' bm := by
  intro l hl
  obtain ⟨es, c, e, r⟩ := hl
  exact h l ⟨es, c, (hf.block bm hb hS).symm.trans e, r⟩
set_option maxRecDepth 100000 in
set_option maxHeartbeats 4000000 in
theorem writeV2 (vb bm : Nat) (p : Option Addr) (dv : Value) (g : G) (L : List Wr) (K : Nat) (r : Wr) (w : World) (hp : dv = .pointer p) (h : ValsAt w vb bm dv L K) (hd : DagR w dv g) (hw : Wf g) (hgl : g.length ≤ 10000) (hL : L.length ≤ 100000) (hr : r.name.size ≤ 1000000) :
    Calls Tryz.prog 20 #[.pointer (some ⟨vb, 0, none⟩), .string r.name, .string r.text, .string r.id] w fun e w' => e = .returned (.int .i64 (writeE L r)) ∧ ValsAt w' vb bm dv (writeL g L r) (K + 1) ∧ Fr [bm] w w' ∧ ∀ P : Nat → Prop, (∀ b, w.heap.size ≤ b → b < w'.heap.size → P b) → Aw P w bm → Aw P w' bm := by
  subst hp
  have Hw := Lib.hid hw
  have HgL := Lib.hid hgl
  have HL := Lib.hid hL
  have Hs := Lib.hid h.srt
  obtain ⟨l, hM, hlK, hk12, hent⟩ := h.map
  have hblk := h.blk
  clear hw hgl hL h
  have HlK := Lib.hid hlK
  have Hk := Lib.hid hk12
  clear hlK hk12
  go_enter Tryz.func20, Tryz.ntmps20
  go_upto_region 1 with fail
  have f0 := ((Fr.refl w).alloc (.cells #[.pointer (some ⟨vb, 0, none⟩)] 33)).alloc (.cells #[.string r.id] 9)
  have hA0 := rowNew0 w (.cells #[.pointer (some ⟨vb, 0, none⟩)] 33) (.cells #[.string r.id] 9)
  have hA1 := rowNew1 w (.cells #[.pointer (some ⟨vb, 0, none⟩)] 33) (.cells #[.string r.id] 9)
  obtain ⟨B, hB⟩ : ∃ B, B = w.heap.size := ⟨_, rfl⟩
  rw [← hB] at hA0 hA1 ⊢
  have hBw : w.heap.size ≤ B := by omega
  clear hB
  generalize (w.alloc (.cells #[.pointer (some ⟨vb, 0, none⟩)] 33)).alloc (.cells #[.string r.id] 9) = w0 at f0 hA0 hA1 ⊢
  have c0 := rowAt hA0 (j := 0) rfl
  have c1 := rowAt hA1 (j := 0) rfl
  go_upto_region 2 with fail
  have f1 := (Fr.refl w0).alloc (.cells #[.string r.text, .string r.id] 132)
  have hA2 := rowNew w0 (.cells #[.string r.text, .string r.id] 132)
  obtain ⟨C, hC⟩ : ∃ C, C = w0.heap.size := ⟨_, rfl⟩
  rw [← hC] at hA2 ⊢
  clear hC
  generalize w0.alloc (.cells #[.string r.text, .string r.id] 132) = w1 at f1 hA2 ⊢
  have F1 := f0.then f1
  have hA0 := f1.row hA0
  have hA1 := f1.row hA1
  clear f0 f1 c0 c1
  have c0 := rowAt hA0 (j := 0) rfl
  have c1 := rowAt hA1 (j := 0) rfl
  have c20 := rowAt hA2 (j := 0) rfl
  have c21 := rowAt hA2 (j := 1) rfl
  have CM := Lib.hid (mayV r.name r.text r.id w1)
  cases hM1 : mayW r with
  | false =>
    have CM : Hid (Calls Tryz.prog 68 #[.string r.name, .agg #[.string r.text, .string r.id]] w1 fun e w' => e = .returned (.bool false) ∧ Fr [] w1 w') := Lib.hid (by have := CM.out; rwa [show (⟨r.name, r.text, r.id⟩ : Wr) = r from rfl, hM1] at this)
    have HE := Lib.hid (writeE_no (L := L) hM1)
    clear hM1
    go_wp2_with (go_at_call 68; refine CM.out.mono ?_; rintro e w2 ⟨rfl, f2⟩)
    go_ret
    have F := F1.then f2
    refine ⟨by rw [HE.out]; rfl, ?_, F.more (by simp) (by simp; exact hM.isMp), fun P hP hA => hA.fr F (by simp) hM.lt⟩
    rw [writeL_no HE.out (by decide)]
    exact ⟨F.row hblk, ⟨l, hM.fr F (by simp), by have := HlK.out; omega, Hk.out, fun n => (hent n).imp (fun ⟨u, a, b⟩ => ⟨u, a, b.fr F⟩) _root_.id⟩, Hs.out⟩
  | true =>
    have CM : Hid (Calls Tryz.prog 68 #[.string r.name, .agg #[.string r.text, .string r.id]] w1 fun e w' => e = .returned (.bool true) ∧ Fr [] w1 w') := Lib.hid (by have := CM.out; rwa [show (⟨r.name, r.text, r.id⟩ : Wr) = r from rfl, hM1] at this)
    have HM1 := Lib.hid hM1
    clear hM1
    go_upto_region 6 with (go_at_call 68; refine CM.out.mono ?_; rintro e w2 ⟨rfl, f2⟩)
    have F2 := F1.then f2
    have hA0 := f2.row hA0
    have hA1 := f2.row hA1
    have hA2 := f2.row hA2
    clear F1 f2 c0 c1 c20 c21 CM
    have c0 := rowAt hA0 (j := 0) rfl
    have hblk2 := F2.row hblk
    have hb1 := rowAt hblk2 (j := 1) rfl
    have hM2 := hM.fr F2 (by simp)
    have hlk := lookW hM2 r.name
    have hown := (entOwn hent r.name).fr F2
    obtain ⟨u, hu⟩ : ∃ u, u = (lk l r.name).getD (.slice none 0 0) := ⟨_, rfl⟩
    rw [← hu] at hlk hown
    have Hu := Lib.hid hu
    obtain ⟨ua, uc, rfl, _⟩ := hown.form
    clear hu
    go_upto_region 7 with fail
    clear hlk hb1 c0
    have C1 := Lib.hid (containsWt 70 #[] #[.pointer (some ⟨B + 1, 0, none⟩)] (enters_of Tryz.func70 (by kernel_rfl) rfl) (fun x => decide (x.id = r.id)) _ _ w2 hown (fun x w3 _ hf => wclos1 x r.id (B + 1) w3 (rowAt (hf.row hA1) (j := 0) rfl)))
    have HT := Lib.hid (twiceW_reg L r)
    cases hT : twiceW L r with
    | true =>
      have C1 : Hid (Calls Tryz.prog 69 #[.slice ua (regW L r.name).length uc, .func (.func 70) #[] #[.pointer (some ⟨B + 1, 0, none⟩)]] w2 fun e w' => e = .returned (.bool true) ∧ Fr [] w2 w') := Lib.hid (by have := C1.out; rwa [← HT.out, hT] at this)
      have HE := Lib.hid (writeE_twice HM1.out hT)
      clear hT
      go_wp2_with (go_at_call 69; refine C1.out.mono ?_; rintro e w3 ⟨rfl, f3⟩)
      go_ret
      have F := F2.then f3
      refine ⟨by rw [HE.out]; rfl, ?_, F.more (by simp) (by simp; exact hM.isMp), fun P hP hA => hA.fr F (by simp) hM.lt⟩
      rw [writeL_no HE.out (by decide)]
      exact ⟨F.row hblk, ⟨l, hM.fr F (by simp), by have := HlK.out; omega, Hk.out, fun n => (hent n).imp (fun ⟨u, a, b⟩ => ⟨u, a, b.fr F⟩) _root_.id⟩, Hs.out⟩
    | false =>
      have C1 : Hid (Calls Tryz.prog 69 #[.slice ua (regW L r.name).length uc, .func (.func 70) #[] #[.pointer (some ⟨B + 1, 0, none⟩)]] w2 fun e w' => e = .returned (.bool false) ∧ Fr [] w2 w') := Lib.hid (by have := C1.out; rwa [← HT.out, hT] at this)
      have HE := Lib.hid (writeE_ok HM1.out hT)
      have HT0 := Lib.hid hT
      clear hT HT
      go_upto_region 9 with (go_at_call 69; refine C1.out.mono ?_; rintro e w3 ⟨rfl, f3⟩)
      have F3 := F2.then f3
      have hA0 := f3.row hA0
      have hA1 := f3.row hA1
      have hA2 := f3.row hA2
      have hown := hown.fr f3
      have hd3 := hd.fr F3
      have hblk3 := F3.row hblk
      clear C1 F2 f3 hblk2 hM2
      have C2 := Lib.hid (containsWt 71 #[] #[.pointer (some ⟨B, 0, none⟩), .pointer (some ⟨B + 1, 0, none⟩)] (enters_of Tryz.func71 (by kernel_rfl) rfl) (fun x => aheadB g r.id x.id) _ _ w3 hown (fun x w4 _ hf => wclos2 x r.id _ g (B + 1) B vb w4 (rowAt (hf.row hA1) (j := 0) rfl) (rowAt (hf.row hA0) (j := 0) rfl) (rowAt (hf.row hblk3) (j := 0) rfl) (hd3.fr hf) Hw.out HgL.out))
      rw [← oldW_reg] at C2
      go_upto_region 10 with (go_at_call 69; refine C2.out.mono ?_; rintro e w4 ⟨rfl, f4⟩)
      have F4 := F3.then f4
      have hA0 := f4.row hA0
      have hA1 := f4.row hA1
      have hA2 := f4.row hA2
      have hown := hown.fr f4
      have hd4 := hd.fr F4
      have hblk4 := F4.row hblk
      clear C2 F3 f4 hblk3 hd3
      have hrl : (regW L r.name).length ≤ 100000 := Nat.le_trans (List.length_filter_le _ _) HL.out
      have C3 := Lib.hid (cloneWt _ _ w4 hown (by omega))
      have HRL := Lib.hid hrl
      clear hrl
      go_upto_region 11 with (first
        | (go_at_call 74; refine C3.out.mono ?_; rintro e w5 ⟨u5, rfl, ho5, f5⟩; clear C3)
        | (obtain ⟨T, hT, hTb⟩ := own_T ho5; have C4 := deleteWt 75 #[] #[.pointer (some ⟨B, 0, none⟩), .pointer (some ⟨B + 1, 0, none⟩)] (enters_of Tryz.func75 (by kernel_rfl) rfl) (fun x => aheadB g x.id r.id) u5 (regW L r.name) w4.heap.size T w5 ho5 (by have := HRL.out; omega) hT (fun x w6 _ hK => wclos3 x r.id _ g (B + 1) B vb w6 (rowAt ((hK.fr f5 hTb).row hA1) (j := 0) rfl) (rowAt ((hK.fr f5 hTb).row hA0) (j := 0) rfl) (rowAt ((hK.fr f5 hTb).row hblk4) (j := 0) rfl) (hd4.fr (hK.fr f5 hTb)) Hw.out HgL.out); go_at_call 73; refine C4.mono ?_; rintro e w7 ⟨u7, rfl, ho7, -, kp7⟩; have f7 := kp7.fr f5 hTb; clear hT hTb kp7 ho5 f5))
      have HLF := Lib.hid (List.length_filter_le (fun x : Wr => !aheadB g x.id r.id) (regW L r.name))
      obtain ⟨D, hD⟩ : ∃ D, D = oldW g L r := ⟨_, rfl⟩
      have HD := Lib.hid hD
      rw [← hD]
      clear hD
      go_upto_if 40 with fail
      go_cut [10] (fun s wx => ∃ Y : List Wr, Hid (Y = (regW L r.name).filter (fun x => !aheadB g x.id r.id) ++ (if D = true then [] else [r])) ∧ wx.ownsRow w4.heap.size 132 2 s Y.length (Y.flatMap encWt) ∧ Fr [] w4 wx)
      case first =>
        cases D with
        | true =>
          go_wp2_with fail
          go_meet
          exact ⟨_, Lib.hid (by simp), ho7, f7⟩
        | false =>
          have c20 := rowAt (f7.row hA2) (j := 0) rfl
          have c21 := rowAt (f7.row hA2) (j := 1) rfl
          have hbs := f7.size
          go_wp2_with (at_builtin; refine wpList_appWt rfl (.tmp 41) (.tmp 43) rfl w4.heap.size _ _ rfl (own_fr ho7 ((Fr.refl _).alloc _)) _ [r] rfl (wt_new _ r) (by have := HLF.out; have := HRL.out; simp only [List.length_singleton]; omega) (by simp; omega) ?_; intro v1 w8 hown1 hg1 hat1; have f8 := (f7.alloc _).grown hg1 (own_base0 ho7); clear hg1 hat1)
          go_meet
          exact ⟨_, Lib.hid (by simp), hown1, f8⟩
      case rest =>
        obtain ⟨Y, HY, hoY, fY⟩ := hcut
        clear ho7 f7 hown
        obtain ⟨ya, yc, rfl⟩ := own_form hoY
        have hYl : Y.length ≤ 1000000 := by have h1 := HLF.out; have h2 := HRL.out; rw [HY.out]; cases D <;> simp <;> omega
        have C5 := Lib.hid (sortWt _ Y w4.heap.size wc hoY hYl)
        clear hYl hoY
        go_upto_region 14 with (go_at_call 76; refine C5.out.mono ?_; rintro e w8 ⟨rfl, ys, hperm, hsorted, hoS, hfS⟩)
        have f8 := hfS w4 fY (Nat.le_refl _)
        have Hperm := Lib.hid hperm
        have Hsorted := Lib.hid hsorted
        clear hperm hsorted hfS fY C5
        have F8 := F4.then f8
        have c0 := rowAt (f8.row hA0) (j := 0) rfl
        have hb1 := rowAt (F8.row hblk) (j := 1) rfl
        have hM8 := hM.fr F8 (by simp)
        obtain ⟨w9, hput, hM9, f9⟩ := hM8.put Tryz.underlying126 Tryz.underlying9 r.name (.slice ya Y.length yc)
        have hrec : Recs 2 encWt w8 (.slice ya Y.length yc) ys := Recs.of_own hoS rfl (by have h1 := HLF.out; have h2 := HRL.out; rw [Hperm.out.length_eq, HY.out]; cases D <;> simp <;> omega)
        have HoB : Hid (∀ b, (Value.slice ya Y.length yc).ownBlock = some b → w.heap.size ≤ b ∧ b < w8.heap.size) := Lib.hid (fun b hb => ⟨Nat.le_trans F4.size (own_base0 hoS b hb), (hoS.lt b hb).2⟩)
        clear hoS
        go_wp2
        go_ret
        have HS : regW (putW g L r) r.name = ys := reg_sorted Hs.out HT0.out (by have := Hperm.out; rw [HY.out, HD.out] at this; exact this) Hsorted.out
        have hF : Fr [bm] w w9 := F8.before f9 (by simp; exact hM.lt)
        refine ⟨by rw [HE.out]; rfl, ⟨hF.row hblk, ⟨_, hM9, ?_, ?_, ?_⟩, ?_⟩, hF, ?_⟩
        · have := HlK.out; rw [len_up]; split <;> omega
        · intro n hn
          rcases (keys_up l r.name (.slice ya Y.length yc) n).1 hn with rfl | hn
          · have := HM1.out
            simp only [mayW, nameOk, Bool.and_eq_true, decide_eq_true_eq] at this
            exact this.1.1.2.2
          · exact Hk.out n hn
        · intro n
          rw [writeL_ok HE.out, lk_up]
          by_cases hn : n = r.name
          · subst hn
            rw [if_pos rfl, HS]
            exact .inl ⟨_, rfl, hrec.fr f9⟩
          · rw [if_neg hn, regW_put_other g L Hs.out HT0.out hn]
            exact (hent n).imp (fun ⟨u, a, b⟩ => ⟨u, a, b.fr hF⟩) _root_.id
        · exact sorted_writeL Hs.out
        · intro P hP hA l' hl' n u hu b hob
          obtain rfl := hl'.uniq hM9
          rw [lk_up] at hu
          by_cases hn : n = r.name
          · rw [if_pos hn] at hu
            cases hu
            have h1 := HoB.out b hob
            exact hP b h1.1 (Nat.lt_of_lt_of_le h1.2 f9.size)
          · rw [if_neg hn] at hu
            exact hA l hM n u hu b hob
theorem writeV (vb bm : Nat) (p : Option Addr) (dv : Value) (g : G) (L : List Wr) (K : Nat) (r : Wr) (w : World) (hp : dv = .pointer p) (h : ValsAt w vb bm dv L K) (hd : DagR w dv g) (hw : Wf g) (hgl : g.length ≤ 10000) (hL : L.length ≤ 100000) (hr : r.name.size ≤ 1000000) :
    Calls Tryz.prog 20 #[.pointer (some ⟨vb, 0, none⟩), .string r.name, .string r.text, .string r.id] w fun e w' => e = .returned (.int .i64 (writeE L r)) ∧ ValsAt w' vb bm dv (writeL g L r) (K + 1) ∧ Fr [bm] w w' :=
  (writeV2 vb bm p dv g L K r w hp h hd hw hgl hL hr).mono fun _ _ ⟨h1, h2, h3, _⟩ => ⟨h1, h2, h3⟩
end Go.Proofs.YtppgjglfoibfcaaGreat
