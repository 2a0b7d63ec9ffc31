import Derived.Test.YtppgjglfoibfcaaGreatRef16
import Derived.Test.YtppgjglfoibfcaaGreatOrd
set_option linter.unusedSimpArgs false
set_option linter.unusedVariables false
/-
  Depths: plain laws, and the reference's walk.
-/
namespace Go.Proofs.YtppgjglfoibfcaaGreat
open Go.RowKit

theorem deps_snoc (g : G) (n : Nd) : deps (g ++ [n]) = deps g ++ [(n.id, maxD (deps g) n.preds + 1)] := by simp [deps, List.foldl_append]
theorem deps_take {g : G} {k : Nat} {n : Nd} (hx : g[k]? = some n) : deps (g.take (k + 1)) = deps (g.take k) ++ [(n.id, maxD (deps (g.take k)) n.preds + 1)] := by rw [take_snoc hx, deps_snoc]
theorem fst_deps (g : G) : (deps g).map (·.1) = ids g := by
  induction g using snoc_ind with
  | nil => rfl
  | snoc g n ih => rw [deps_snoc, List.map_append, ih]; simp [ids]
theorem length_deps (g : G) : (deps g).length = g.length := by rw [← List.length_map (f := (·.1)), fst_deps, length_ids]
theorem deps_append (g h : G) : ∃ m, deps (g ++ h) = deps g ++ m := by
  induction h using snoc_ind with
  | nil => exact ⟨[], by simp⟩
  | snoc h n ih => obtain ⟨m, hm⟩ := ih; rw [← List.append_assoc, deps_snoc, hm]; exact ⟨m ++ [(n.id, maxD (deps g ++ m) n.preds + 1)], by simp⟩
theorem lookD_append {m m' : List (BS × Nat)} {x : BS} (h : x ∈ m.map (·.1)) : lookD (m ++ m') x = lookD m x := by
  unfold lookD
  rw [List.find?_append]
  cases hf : m.find? (fun p => decide (p.1 = x)) with
  | some p => simp
  | none =>
    rw [List.find?_eq_none] at hf
    obtain ⟨p, hp, e⟩ := List.mem_map.1 h
    exact absurd e (by simpa using hf p hp)
theorem lookD_at {m : List (BS × Nat)} {i : Nat} {x : BS} {d : Nat} (h1 : m[i]? = some (x, d)) (h2 : x ∉ (m.map (·.1)).take i) : lookD m x = d := by
  induction m generalizing i with
  | nil => simp at h1
  | cons p m ih =>
    cases i with
    | zero =>
      obtain rfl : p = (x, d) := by simpa using h1
      simp [lookD]
    | succ i =>
      have hp : p.1 ≠ x := fun e => h2 (by simp [e])
      rw [← ih (i := i) (by simpa using h1) (fun h => h2 (by simp only [List.map_cons, List.take_succ_cons, List.mem_cons]; exact .inr h))]
      simp [lookD, List.find?_cons, hp]
theorem depth_take {g : G} {k : Nat} {x : BS} (h : x ∈ ids (g.take k)) : lookD (deps (g.take k)) x = depth g x := by
  obtain ⟨m, hm⟩ := deps_append (g.take k) (g.drop k)
  rw [List.take_append_drop] at hm
  unfold depth
  rw [hm, lookD_append (by rw [fst_deps]; exact h)]
/-- The depths, in the order in which they were added. -/
def dl (g : G) : List Int := (deps g).map fun p => (p.2 : Int)
theorem length_dl (g : G) : (dl g).length = g.length := by simp [dl, length_deps]
theorem dl_at {g : G} {i : Nat} {n : Nd} (h1 : g[i]? = some n) (h2 : n.id ∉ ids (g.take i)) : (dl g)[i]? = some (depth g n.id : Int) := by
  have hi : i < (deps g).length := by rw [length_deps]; exact lt_of_getElem? h1
  have hd : (deps g)[i]? = some ((deps g)[i]'hi) := List.getElem?_eq_getElem _
  have hk : ((deps g)[i]'hi).1 = n.id := by
    have : ((deps g).map (·.1))[i]? = some ((deps g)[i]'hi).1 := by simp [hd]
    rw [fst_deps] at this
    have h3 : (ids g)[i]? = some n.id := by simp [ids, h1]
    rw [h3] at this; injection this with this; exact this.symm
  have : lookD (deps g) n.id = ((deps g)[i]'hi).2 := lookD_at (i := i) (by rw [hd, ← hk]) (by rw [fst_deps, ← ids_take]; exact h2)
  unfold dl depth
  simp [hd, this]
theorem dl_take {g : G} {k : Nat} {n : Nd} (hx : g[k]? = some n) : dl (g.take (k + 1)) = dl (g.take k) ++ [((maxD (deps (g.take k)) n.preds + 1 : Nat) : Int)] := by
  unfold dl; rw [deps_take hx]; simp
theorem maxD_snoc {m : List (BS × Nat)} {l : List BS} {j : Nat} {p : BS} (h : l[j]? = some p) : maxD m (l.take (j + 1)) = max (maxD m (l.take j)) (lookD m p) := by
  unfold maxD; rw [take_snoc h, List.foldl_append]; rfl
theorem maxD_le {m : List (BS × Nat)} {b : Nat} (hm : ∀ x, lookD m x ≤ b) (l : List BS) : maxD m l ≤ b := by
  unfold maxD
  suffices h : ∀ (l : List BS) a, a ≤ b → l.foldl (fun a p => max a (lookD m p)) a ≤ b from h l 0 (Nat.zero_le _)
  intro l
  induction l with
  | nil => intro a h; exact h
  | cons p l ih => intro a h; exact ih _ (Nat.max_le.2 ⟨h, hm p⟩)
theorem lookD_le {m : List (BS × Nat)} {b : Nat} (h : ∀ p ∈ m, p.2 ≤ b) (x : BS) : lookD m x ≤ b := by
  unfold lookD
  cases hf : m.find? (fun p => decide (p.1 = x)) with
  | none => simp
  | some p => simpa using h p (List.mem_of_find?_eq_some hf)
theorem deps_le (g : G) : ∀ p ∈ deps g, p.2 ≤ g.length := by
  induction g using snoc_ind with
  | nil => intro p h; simp [deps] at h
  | snoc g n ih =>
    intro p hp
    rw [deps_snoc] at hp
    rcases List.mem_append.1 hp with h | h
    · have := ih p h; simp; omega
    · simp at h; subst h
      have := maxD_le (fun x => lookD_le ih x) n.preds
      simp; omega
theorem depth_le (g : G) (x : BS) : depth g x ≤ g.length := lookD_le (deps_le g) x
theorem Wf.take {g : G} (h : Wf g) (k : Nat) : Wf (g.take k) := by
  intro i n hn
  have hik : i < k := by have := lt_of_getElem? hn; simp at this; omega
  rw [List.getElem?_take_of_lt hik] at hn
  have := h i n hn
  rwa [List.take_take, Nat.min_eq_left (Nat.le_of_lt hik)]

/-- A slice of ints. -/
def Ints (w : World) (v : Value) (xs : List Int) : Prop := Sl w v xs.length 1 (xs.map (.int .i64))
theorem Ints.fr {S : List Nat} {w w' : World} {v : Value} {xs : List Int} (h : Ints w v xs) (hf : Fr S w w') : Ints w' v xs := Sl.fr h hf
theorem Ints.of_own {w : World} {base e n : Nat} {v : Value} {xs : List Int} (h : w.ownsRow base e 1 v n (xs.map (.int .i64))) (hn : xs.length ≤ 140737488355328) : Ints w v xs := by
  have hl : n = xs.length := by have := h.1; simp at this; omega
  subst hl
  exact Sl.of_own h hn
theorem Ints.at_ {P : Program} {w : World} {a : Option Addr} {n c : Nat} {xs : List Int} (h : Ints w (.slice a n c) xs) (hn : n = xs.length) (t : TypeId) (e : TypeId)
    (ht : P.underlying t = some (.slice e)) (hs : ∀ W, (sizeOf e).run P W = .ok 1 W) (k : Nat) (x : Int) (hx : xs[k]? = some x) :
    ∃ b o, (∀ W, (Instr.indexAt t (.slice a n c) (.int .i64 (k : Int))).run P W = .ok (.pointer (some ⟨b, o, none⟩)) W) ∧ w.cell? ⟨b, o, none⟩ = some (.int .i64 x) := by
  subst hn
  obtain ⟨b, o, h1, h2⟩ := Sl.at_ (P := P) h t e ht hs k (lt_of_getElem? hx)
  refine ⟨b, o + k * 1, h1, ?_⟩
  have := h2 0 (.int .i64 x) (by omega) (by simp [hx])
  simpa using this
theorem infoInt : (Tryz.prog.info? 3).map (fun i => (i.zero, i.size, i.bytes)) = some (some (.int .i64 0), 1, 8) := by kernel_rfl
theorem ints_new (w : World) (x : Int) : Sl (w.alloc (.cells #[.int .i64 x] 3)) (.slice (some ⟨w.heap.size, 0, none⟩) 1 1) 1 1 [.int .i64 x] := Sl.new w #[.int .i64 x] 3 1 1 rfl (by omega)
/-- append of one int onto a row of the call's own. -/
theorem wpList_appI {w : World} {ops : Array Oper} {rest : List Oper} {o : Oper} {a : Act} {Q : Exit → Act → World → Prop} (hgd : o.guard = none) (s x : Operand)
    (ho : o.op = .call { callee := .builtin .append, args := #[s, x], argTypes := #[247, 247] })
    (base : Nat) (v : Value) (xs : List Int) (hs : a.eval s = v) (hown : w.ownsRow base 3 1 v xs.length (xs.map (.int .i64)))
    (xv : Value) (y : Int) (hx : a.eval x = xv) (hsl : Sl w xv 1 1 [.int .i64 y])
    (hbytes : xs.length ≤ 8796093022208) (hbase : base ≤ w.heap.size)
    (h : ∀ v' w', w'.ownsRow base 3 1 v' (xs ++ [y]).length ((xs ++ [y]).map (.int .i64)) → w.grownBy w' v.ownBlock → (v'.ownBlock = v.ownBlock ∨ v'.ownBlock = some w.heap.size) → wpList Tryz.prog ops Q rest (a.put o.dst v') w') :
    wpList Tryz.prog ops Q (o :: rest) a w :=
  wpList_app hgd s x 247 ho 3 (.int .i64 0) 1 8 Tryz.underlying247 infoInt rfl (by decide) (by decide) v base xs.length _ hs hown xv 1 _ hx hsl (by intro u hu; simp at hu; subst hu; rfl) (by omega) hbase
    (fun v' w' h1 h2 h3 => h v' w' (by rw [List.length_append, List.map_append]; exact h1) h2 h3)

theorem find_depth {g : G} {k q : Nat} {x : Nd} {y : BS} {r : Int} (hw : Wf g) (hx : g[k]? = some x) (hy : x.preds[q]? = some y) (hr : fnd g y r) :
    ∃ k' : Nat, r = k' ∧ k' < k ∧ (dl (g.take k))[k']? = some (lookD (deps (g.take k)) y : Int) := by
  have hin : y ∈ ids (g.take k) := (hw k x hx).2.2.2 y (List.mem_of_getElem? hy)
  rcases hr with ⟨_, h⟩ | ⟨i, n, rfl, h1, h2, h3⟩
  · exact absurd (by rw [ids_take] at hin; exact List.mem_of_mem_take hin) h
  · have hik : i < k := by
      rcases Nat.lt_or_ge i k with h | h
      · exact h
      · refine absurd ?_ h3
        rw [ids_take] at hin ⊢
        rw [show k = min k i from by omega, ← List.take_take] at hin
        exact List.mem_of_mem_take hin
    refine ⟨i, rfl, hik, ?_⟩
    have := dl_at (g := g.take k) (i := i) (n := n) (by rw [List.getElem?_take_of_lt hik]; exact h1) (by rw [h2, List.take_take, Nat.min_eq_left (by omega)]; exact h3)
    rw [this, h2]; rfl

set_option maxRecDepth 100000 in
set_option maxHeartbeats 2000000 in
theorem depths16 (v : Value) (g : G) (w : World) (hs : Nodes w v g) (hl : g.length ≤ 1000000) (hwf : Wf g) :
    Calls Tryz.prog 180 #[.agg #[v]] w fun e w' => ∃ u, e = .returned u ∧ Ints w' u (dl g) ∧ Fr [] w w' := by
  obtain ⟨a, c, rfl, hc, hm, hn⟩ := hs.form
  obtain ⟨n, hnx⟩ : ∃ n, n = g.length := ⟨_, rfl⟩
  have hlg := hl
  rw [← hnx] at hs hc hn hl ⊢
  have Hn := Lib.hid hnx; clear hnx
  have Hwf := Lib.hid hwf; clear hwf
  have f0 := (Fr.refl w).alloc (.cells #[.slice a n c] 30)
  go_enter Tryz.func180, Tryz.ntmps180
  go_wp2
  have hs := hs.fr f0
  have hc0 := World.cell?_alloc_new (w := w) #[.slice a n c] 30 0
  go_loopw [3, 4] (fun u i wr => ∃ k : Nat, k ≤ n ∧ i = .int .i64 k ∧ wr.ownsRow (w.heap.size + 1) 3 1 u (dl (g.take k)).length ((dl (g.take k)).map (.int .i64)) ∧ Fr [] (w.alloc (.cells #[.slice a n c] 30)) wr) (fun _ i _ => n - (intOf i).toNat)
  case atStart => exact ⟨0, Nat.zero_le _, rfl, World.ownsRow_nil _ _ _ _, .refl _⟩
  case round =>
    obtain ⟨k, hk, rfl, hsu, hf⟩ := hrel
    obtain ⟨ua, uc, rfl⟩ := own_form hsu
    obtain ⟨wo, rfl⟩ : ∃ wo : World, wo = wr := ⟨_, rfl⟩
    have hs := hs.fr hf
    have hc1 := hf.cell hc0
    have hlu : (dl (g.take k)).length = k := by rw [length_dl]; simp; have := Hn.out; omega
    have Hlu := Lib.hid hlu; clear hlu
    by_cases hlt : k < n
    · obtain ⟨x, hx⟩ : ∃ x, g[k]? = some x := ⟨_, List.getElem?_eq_getElem (Hn.out ▸ hlt)⟩
      obtain ⟨b, o, pv, hidx, hcell, hcell1, hp⟩ := hs.at_ Hn.out 28 200 Tryz.underlying28 Tryz.sizeOf200 k x hx
      have Hx := Lib.hid hx; clear hx
      obtain ⟨pa, pc, rfl, hpc, hpm, hpn⟩ := hp.form
      obtain ⟨m, hmx⟩ : ∃ m, m = x.preds.length := ⟨_, rfl⟩
      rw [← hmx] at hp hpc hpn hcell1
      have Hm := Lib.hid hmx; clear hmx
      go_wp2
      go_loopw [5, 6] (fun d j wr2 => ∃ q : Nat, q ≤ m ∧ j = .int .i64 q ∧ d = .int .i64 (maxD (deps (g.take k)) (x.preds.take q) : Nat) ∧ Fr [] wo wr2) (fun _ j _ => m - (intOf j).toNat)
      case atStart => exact ⟨0, Nat.zero_le _, rfl, rfl, .refl _⟩
      case round =>
        obtain ⟨q, hq, rfl, rfl, hf2⟩ := hrel
        have hs := hs.fr hf2
        have hp := hp.fr hf2
        have hc1 := hf2.cell hc1
        have hcell1 := hf2.cell hcell1
        by_cases hlt2 : q < m
        · obtain ⟨y, hy⟩ : ∃ y, x.preds[q]? = some y := ⟨_, List.getElem?_eq_getElem (Hm.out ▸ hlt2)⟩
          obtain ⟨b2, o2, hidx2, hcell2⟩ := hp.at_ Hm.out 51 9 Tryz.underlying51 Tryz.sizeOf9 q y hy
          have Hy := Lib.hid hy; clear hy
          have hsd := hs.fr ((Fr.refl wr).drew)
          have hud := (Ints.of_own hsu (by have := Hlu.out; omega)).fr (hf2.drew)
          go_upto_region 9 with fail
          refine wp_region_ord [(0, false), (1, false), (2, false), (3, false), (4, false), (5, false), (6, false), (7, false), (8, false), (9, false), (10, false), (11, true), (12, false), (13, false), (14, false)] _ (by kernel_rfl) (by kernel_rfl) (by simp only [pick, List.filterMap_cons, List.filterMap_nil, List.getElem?_cons_succ, List.getElem?_cons_zero, Option.map_some]; rfl) ?_
          have fd := (Fr.refl wr).drew
          have x1 := Ext.cell (fd.cell hc1)
          have x2 := Ext.cell (fd.cell hcell1)
          have x3 := Ext.cell (fd.cell hcell2)
          repeat (with_reducible refine wpO_q (fun K hK => ?_); go_simp; refine hK _ ?_; clear hK K)
          refine wpO_e (fun K hK => ?_)
          go_simp
          intro w1 hw1
          have g1 := fd.then hw1
          refine (find16 _ _ _ _ (hs.fr g1)).mono ?_
          rintro e w2 ⟨r, rfl, hr, hw2⟩
          have g2 := g1.then hw2
          obtain ⟨k', rfl, hk', hd⟩ := find_depth Hwf.out Hx.out Hy.out hr
          obtain ⟨b3, o3, hidx3, hcell3⟩ := (Ints.of_own (own_fr hsu (hf2.then g2)) (by have := Hlu.out; omega)).at_ rfl 247 3 Tryz.underlying247 Tryz.sizeOf3 k' _ hd
          clear hr hd x1 x2 x3
          have x4 := Ext.cell hcell3
          refine ⟨_, rfl, hw2, hK _ _ ?_⟩
          clear hK K
          repeat (with_reducible refine wpO_q (fun K hK => ?_); go_simp; refine hK _ ?_; clear hK K)
          refine wpO_nil (fun w3 hw3 => ?_)
          have g3 := g2.then hw3
          have e1 := maxD_snoc (m := deps (g.take k)) Hy.out
          have E1 := Lib.hid e1; clear e1 x4 hidx3
          by_cases hgt : maxD (deps (g.take k)) (x.preds.take q) < lookD (deps (g.take k)) y
          · go_wp2
            go_roundw
            case rel => exact ⟨q + 1, by omega, by go_num, by rw [E1.out, Nat.max_eq_right (by omega)], hf2.then g3⟩
            case measure => simp [intOf]; omega
          · go_wp2
            go_roundw
            case rel => exact ⟨q + 1, by omega, by go_num, by rw [E1.out, Nat.max_eq_left (by omega)], hf2.then g3⟩
            case measure => simp [intOf]; omega
        · have hqm : x.preds.take q = x.preds := List.take_of_length_le (by have := Hm.out; omega)
          have Hqm := Lib.hid hqm; clear hqm
          have hdb : maxD (deps (g.take k)) (x.preds.take q) ≤ 1000000 := by
            have := maxD_le (fun z => lookD_le (deps_le (g.take k)) z) (x.preds.take q)
            have h2 : (g.take k).length ≤ k := by simp; omega
            omega
          go_wp2_with (first
            | (at_builtin; refine wpList_appI rfl _ _ rfl _ _ _ rfl (own_fr (own_fr hsu hf2) ((Fr.refl _).alloc _)) _ _ rfl (ints_new _ _) (by have := Hlu.out; omega) (by have := (hf.then hf2).size; simp at this ⊢; omega) ?_; intro v1 w1 hown1 hg1 hat1; have f1 := ((hf.then hf2).alloc (.cells #[.int .i64 ((maxD (deps (g.take k)) (x.preds.take q) : Nat) + 1 : Int)] 3)).grown hg1 (fun j hj => by have := own_base0 hsu j hj; simpa using this)))
          go_roundw
          case rel => exact ⟨k + 1, by omega, by go_num, by rw [dl_take Hx.out]; rw [Hqm.out] at hown1; exact hown1, f1⟩
          case measure => simp [intOf]; omega
    · have hsu' := Ints.of_own hsu (by have := Hlu.out; omega)
      go_wp2
      go_ret
      have hk' : dl g = dl (g.take k) := by rw [List.take_of_length_le (by have := Hn.out; omega)]
      exact ⟨_, rfl, by rw [hk']; exact hsu', f0.then hf⟩

theorem fnd_at {g : G} {x : BS} {r : Int} (h : fnd g x r) (h0 : ¬ r < 0) : ∃ k n, r = ((k : Nat) : Int) ∧ g[k]? = some n ∧ n.id = x ∧ x ∉ ids (g.take k) := by
  rcases h with ⟨rfl, _⟩ | ⟨i, n, h1, h2, h3, h4⟩
  · omega
  · exact ⟨i, n, h1, h2, h3, h4⟩
theorem fnd_no {g : G} {x : BS} {r : Int} (h : fnd g x r) (h0 : r < 0) : x ∉ ids g := by
  rcases h with ⟨_, h⟩ | ⟨i, n, h1, _⟩
  · exact h
  · omega
theorem depth_no {g : G} {x : BS} (h : x ∉ ids g) : depth g x = 0 := by
  have : (deps g).find? (fun p => decide (p.1 = x)) = none := by
    rw [List.find?_eq_none]
    intro p hp e
    exact h (by rw [← fst_deps]; exact List.mem_map.2 ⟨p, hp, by simpa using e⟩)
  simp [depth, lookD, this]

set_option maxRecDepth 100000 in
set_option maxHeartbeats 1000000 in
theorem depth16 (v : Value) (g : G) (id : BS) (w : World) (hs : Nodes w v g) (hl : g.length ≤ 1000000) (hwf : Wf g) :
    Calls Tryz.prog 102 #[.agg #[v], .string id] w fun e w' => e = .returned (.int .i64 (depth g id : Nat)) ∧ Fr [] w w' := by
  have Hwf := Lib.hid hwf; clear hwf
  have f0 := (Fr.refl w).alloc (.cells #[v] 30)
  have hs := hs.fr f0
  go_enter Tryz.func102, Tryz.ntmps102
  go_upto_region 2 with (go_at_call 124; refine (find16 _ _ _ _ hs).mono ?_; rintro e w' ⟨r, rfl, hr, hf⟩)
  have hc1 := hf.cell (World.cell?_alloc_new (w := w) #[v] 30 0)
  have hs := hs.fr hf
  have Hr := Lib.hid hr; clear hr
  by_cases h0 : r < 0
  · go_wp2
    go_ret
    exact ⟨ret_int (by rw [depth_no (fnd_no Hr.out h0)]; rfl), f0.then hf⟩
  · obtain ⟨k, x, rfl, h1, h2, h3⟩ := fnd_at Hr.out h0
    have hd := dl_at h1 (h2 ▸ h3)
    rw [h2] at hd
    have Hd := Lib.hid hd
    clear Hr h1 h2 h3
    go_wp2_with (first
      | (go_at_call 180; refine (depths16 _ _ _ hs hl Hwf.out).mono ?_; rintro e w2 ⟨u, rfl, hu, hf2⟩; obtain ⟨ua, uc, rfl, _, _, _⟩ := Sl.form hu; obtain ⟨b, o, hidx, hcell⟩ := hu.at_ rfl 247 3 Tryz.underlying247 Tryz.sizeOf3 k _ hd; clear hd))
    go_ret
    exact ⟨rfl, f0.then (hf.then hf2)⟩

end Go.Proofs.YtppgjglfoibfcaaGreat

set_option linter.unusedSimpArgs false
set_option linter.unusedVariables false
/-
  The order of the reference's graphs: the walk, and the plain law.
-/
namespace Go.Proofs.YtppgjglfoibfcaaGreat
open Go.RowKit

def rowD (g : G) (n : Nat) : List BS := ofL ((g.filter fun x => decide (depth g x.id = n)).map (·.id))
def ordL (g : G) (m : Nat) : List BS := (List.range m).flatMap fun i => rowD g (i + 1)
theorem ordL_succ (g : G) (m : Nat) : ordL g (m + 1) = ordL g m ++ rowD g (m + 1) := by simp [ordL, List.range_succ, List.flatMap_append]

theorem rowD_snoc {g : G} {k n : Nat} {x : Nd} (hx : g[k]? = some x) (h : G) :
    ((g.take (k + 1)).filter fun x => decide (depth h x.id = n)).map (·.id) = ((g.take k).filter fun x => decide (depth h x.id = n)).map (·.id) ++ if depth h x.id = n then [x.id] else [] := by
  rw [take_snoc hx, List.filter_append, List.map_append]
  split <;> simp [*]
theorem length_rowD (g : G) (n : Nat) : (rowD g n).length ≤ g.length := by
  refine Nat.le_trans (length_ofL _) ?_
  rw [List.length_map]; exact List.length_filter_le _ _
theorem length_ordL (g : G) (m : Nat) : (ordL g m).length ≤ m * g.length := by
  induction m with
  | zero => simp [ordL]
  | succ m ih => rw [ordL_succ, List.length_append, Nat.add_mul]; have := length_rowD g (m + 1); omega

theorem Wf.uniq {g : G} (hw : Wf g) {k : Nat} {x : Nd} (hx : g[k]? = some x) : x.id ∉ ids (g.take k) := (hw k x hx).2.2.1

set_option maxRecDepth 100000 in
set_option maxHeartbeats 2000000 in
theorem order16 (v : Value) (g : G) (w : World) (hs : Nodes w v g) (hl : g.length ≤ 5000) (hwf : Wf g) :
    Calls Tryz.prog 140 #[.agg #[v]] w fun e w' => ∃ u, e = .returned u ∧ Strs w' u (ordL g g.length) ∧ Fr [] w w' := by
  obtain ⟨a, c, rfl, hc, hm, hn⟩ := hs.form
  obtain ⟨n, hnx⟩ : ∃ n, n = g.length := ⟨_, rfl⟩
  have hlg : g.length ≤ 1000000 := by omega
  rw [← hnx] at hs hc hn hl ⊢
  have Hn := Lib.hid hnx; clear hnx
  have Hwf := Lib.hid hwf; clear hwf
  have f0 := (Fr.refl w).alloc (.cells #[.slice a n c] 30)
  have hs := hs.fr f0
  go_enter Tryz.func140, Tryz.ntmps140
  go_wp2_with (go_at_call 180; refine (depths16 _ _ _ hs hlg Hwf.out).mono ?_; rintro e w1 ⟨du, rfl, hd, hfd⟩; obtain ⟨da, dc, rfl, _, _, _⟩ := Sl.form hd)
  have hc0 := hfd.cell (World.cell?_alloc_new (w := w) #[.slice a n c] 30 0)
  have hs := hs.fr hfd
  have f1 := f0.then hfd
  go_loopw [4, 5] (fun u i wr => ∃ k : Nat, k ≤ n ∧ i = .int .i64 ((k : Int) + 1) ∧ wr.ownsRow w1.heap.size 9 1 u (ordL g k).length ((ordL g k).map .string) ∧ Fr [] w1 wr) (fun _ i _ => n + 1 - (intOf i).toNat)
  case atStart => exact ⟨0, Nat.zero_le _, rfl, World.ownsRow_nil _ _ _ _, .refl _⟩
  case round =>
    obtain ⟨k, hk, rfl, hsu, hf⟩ := hrel
    obtain ⟨wo, rfl⟩ : ∃ wo : World, wo = wr := ⟨_, rfl⟩
    have hs := hs.fr hf
    have hc1 := hf.cell hc0
    have hd := hd.fr hf
    have f2 := f1.then hf
    have hlo : (ordL g k).length ≤ 25000000 := by
      have := length_ordL g k
      have h2 : k * g.length ≤ 5000 * 5000 := Nat.mul_le_mul (by omega) (by have := Hn.out; omega)
      omega
    by_cases hlt : k < n
    · have hb : decide ((k : Int) + 1 ≤ (n : Int)) = true := by simp; omega
      go_wp2
      go_loopw [6, 7] (fun u i wr => ∃ q : Nat, q ≤ n ∧ i = .int .i64 q ∧ wr.ownsRow wo.heap.size 9 1 u (((g.take q).filter fun x => decide (depth g x.id = k + 1)).map (·.id)).length ((((g.take q).filter fun x => decide (depth g x.id = k + 1)).map (·.id)).map .string) ∧ Fr [] wo wr) (fun _ i _ => n - (intOf i).toNat)
      case atStart => exact ⟨0, Nat.zero_le _, rfl, World.ownsRow_nil _ _ _ _, .refl _⟩
      case round =>
        obtain ⟨q, hq, rfl, hsr, hf2⟩ := hrel
        have hs := hs.fr hf2
        have hc1 := hf2.cell hc1
        have hd := hd.fr hf2
        have hlu : (((g.take q).filter fun x => decide (depth g x.id = k + 1)).map (·.id)).length ≤ 1000000 := by
          have := List.length_filter_le (fun x : Nd => decide (depth g x.id = k + 1)) (g.take q); simp only [List.length_take, List.length_map] at this ⊢; omega
        by_cases hlt2 : q < n
        · obtain ⟨x, hx⟩ : ∃ x, g[q]? = some x := ⟨_, List.getElem?_eq_getElem (Hn.out ▸ hlt2)⟩
          obtain ⟨b, o, pv, hidx, hcell, _, _⟩ := hs.at_ Hn.out 28 200 Tryz.underlying28 Tryz.sizeOf200 q x hx
          obtain ⟨b2, o2, hidx2, hcell2⟩ := hd.at_ rfl 247 3 Tryz.underlying247 Tryz.sizeOf3 q _ (dl_at hx (Hwf.out.uniq hx))
          have Hx := Lib.hid hx; clear hx
          by_cases hr : depth g x.id = k + 1
          · have hr' : ((depth g x.id : Int) == (k : Int) + 1) = true := by rw [beq_iff_eq]; omega
            have Hr := Lib.hid hr; clear hr
            go_wp2_with (first
              | (at_builtin; refine wpList_appS rfl _ _ rfl _ _ _ rfl (own_fr hsr ((Fr.refl _).alloc _)) _ _ rfl (strs_new _ x.id) (by simp only [List.length_cons, List.length_nil]; omega) (by have := hf2.size; simp at this ⊢; omega) ?_; intro v1 w2 hown1 hg1 hat1; have g1 := (hf2.alloc (.cells #[.string x.id] 9)).grown hg1 (own_base0 hsr)))
            go_roundw
            case rel => exact ⟨q + 1, by omega, by go_num, by rw [rowD_snoc Hx.out, if_pos Hr.out]; exact hown1, g1⟩
            case measure => simp [intOf]; omega
          · have hr' : ((depth g x.id : Int) == (k : Int) + 1) = false := by rw [beq_eq_false_iff_ne]; omega
            have Hr := Lib.hid hr; clear hr
            go_wp2
            go_roundw
            case rel => exact ⟨q + 1, by omega, by go_num, by rw [rowD_snoc Hx.out, if_neg Hr.out, List.append_nil]; exact hsr, hf2⟩
            case measure => simp [intOf]; omega
        · have hsr' := Strs.of_own hsr (by omega)
          have hqn : ofL (((g.take q).filter fun x => decide (depth g x.id = k + 1)).map (·.id)) = rowD g (k + 1) := by rw [List.take_of_length_le (by have := Hn.out; omega)]; rfl
          have Hqn := Lib.hid hqn; clear hqn
          go_wp2_with (first
            | (go_at_call 138; refine (of04 _ _ _ hsr' hlu).mono ?_; rintro e w2 ⟨u', rfl, hsu', hf3⟩; rw [Hqn.out] at hsu')
            | (at_builtin; refine wpList_appS rfl _ _ rfl _ _ _ rfl (own_fr hsu (hf2.then hf3)) _ _ rfl hsu' (by have := length_rowD g (k + 1); have := Hn.out; omega) (hf.then (hf2.then hf3)).size ?_; intro v1 w3 hown1 hg1 hat1; have g1 := ((hf.then hf2).then hf3).grown hg1 (own_base0 hsu)))
          go_roundw
          case rel => exact ⟨k + 1, by omega, by go_num, by rw [ordL_succ]; exact hown1, g1⟩
          case measure => simp [intOf]; omega
    · have hb : decide ((k : Int) + 1 ≤ (n : Int)) = false := by simp; omega
      have hkn : k = n := by omega
      have Hkn := Lib.hid hkn; clear hkn
      have hsu' := Strs.of_own hsu (by omega)
      go_wp2
      go_ret
      exact ⟨_, rfl, by rw [← Hkn.out]; exact hsu', f2⟩

/-! ### the plain law: what it comes to is an order -/
theorem depth_pos {g : G} {x : BS} (h : x ∈ ids g) : 1 ≤ depth g x := by
  have key : ∀ g : G, ∀ p ∈ deps g, 1 ≤ p.2 := by
    intro g
    induction g using snoc_ind with
    | nil => intro p h; simp [deps] at h
    | snoc g n ih =>
      intro p hp
      rw [deps_snoc] at hp
      rcases List.mem_append.1 hp with h | h
      · exact ih p h
      · simp at h; subst h; simp
  unfold depth lookD
  cases hf : (deps g).find? (fun p => decide (p.1 = x)) with
  | none =>
    rw [List.find?_eq_none] at hf
    rw [← fst_deps] at h
    obtain ⟨p, hp, e⟩ := List.mem_map.1 h
    exact absurd e (by simpa using hf p hp)
  | some p => simpa using key g p (List.mem_of_find?_eq_some hf)
theorem Wf.right {g : G} (h : Wf g) {x : BS} (hx : x ∈ ids g) : x.size = 32 := by
  obtain ⟨n, hn, rfl⟩ := List.mem_map.1 hx
  obtain ⟨i, hi⟩ := List.mem_iff_getElem?.1 hn
  exact (h i n hi).1
theorem mem_rowD {g : G} (hw : Wf g) {n : Nat} {x : BS} : x ∈ rowD g n ↔ x ∈ ids g ∧ depth g x = n := by
  unfold rowD
  rw [mem_ofL]
  constructor
  · rintro ⟨h, _⟩
    obtain ⟨m, hm, rfl⟩ := List.mem_map.1 h
    simp only [List.mem_filter, decide_eq_true_eq] at hm
    exact ⟨List.mem_map.2 ⟨m, hm.1, rfl⟩, hm.2⟩
  · rintro ⟨h, hd⟩
    refine ⟨?_, hw.right h⟩
    obtain ⟨m, hm, rfl⟩ := List.mem_map.1 h
    exact List.mem_map.2 ⟨m, by simp [hm, hd], rfl⟩
theorem isOrder_ordL {g : G} (hw : Wf g) : IsOrder g (ordL g g.length) := by
  have key : ∀ m, (ordL g m).Pairwise (OLt g) ∧ ∀ x, x ∈ ordL g m ↔ x ∈ ids g ∧ depth g x ≤ m := by
    intro m
    induction m with
    | zero =>
      refine ⟨by simp [ordL], fun x => ?_⟩
      simp only [ordL, List.range_zero, List.flatMap_nil, List.not_mem_nil, false_iff]
      rintro ⟨h, h2⟩
      have := depth_pos h; omega
    | succ m ih =>
      rw [ordL_succ]
      refine ⟨List.pairwise_append.2 ⟨ih.1, ?_, ?_⟩, fun x => ?_⟩
      · have h1 : (rowD g (m + 1)).Pairwise BLt := sorted_ofL _
        refine h1.imp_of_mem fun {a b} ha hb h => .inr ⟨?_, h⟩
        rw [((mem_rowD hw).1 ha).2, ((mem_rowD hw).1 hb).2]
      · intro a ha b hb
        have h1 := ((ih.2 a).1 ha).2
        have h2 := ((mem_rowD hw).1 hb).2
        exact .inl (by omega)
      · rw [List.mem_append, ih.2, mem_rowD hw]
        constructor
        · rintro (⟨h1, h2⟩ | ⟨h1, h2⟩) <;> exact ⟨h1, by omega⟩
        · rintro ⟨h1, h2⟩
          by_cases h3 : depth g x = m + 1
          · exact .inr ⟨h1, h3⟩
          · exact .inl ⟨h1, by omega⟩
  obtain ⟨h1, h2⟩ := key g.length
  exact ⟨h1, fun x => ⟨fun h => ((h2 x).1 h).1, fun h => (h2 x).2 ⟨h, depth_le g x⟩⟩⟩
theorem olt_irrefl (g : G) (a : BS) : ¬ OLt g a a := by
  rintro (h | ⟨_, h⟩)
  · omega
  · exact blt_irrefl _ h
theorem olt_trans {g : G} {a b c : BS} (h : OLt g a b) (k : OLt g b c) : OLt g a c := by
  rcases h with h | ⟨h1, h2⟩ <;> rcases k with k | ⟨k1, k2⟩
  · exact .inl (by omega)
  · exact .inl (by omega)
  · exact .inl (by omega)
  · exact .inr ⟨by omega, blt_trans h2 k2⟩
theorem olt_total (g : G) (a b : BS) : OLt g a b ∨ a = b ∨ OLt g b a := by
  rcases Nat.lt_trichotomy (depth g a) (depth g b) with h | h | h
  · exact .inl (.inl h)
  · rcases blt_total a b with k | k | k
    · exact .inl (.inr ⟨h, k⟩)
    · exact .inr (.inl k)
    · exact .inr (.inr (.inr ⟨h.symm, k⟩))
  · exact .inr (.inr (.inl h))
/-- A list that is ordered is known by what is in it. -/
theorem order_ext {α : Type} {R : α → α → Prop} (hi : ∀ a, ¬ R a a) (ht : ∀ {a b c}, R a b → R b c → R a c) : ∀ {l m : List α}, l.Pairwise R → m.Pairwise R → (∀ x, x ∈ l ↔ x ∈ m) → l = m
  | [], [], _, _, _ => rfl
  | [], y :: m, _, _, h => absurd ((h y).2 (by simp)) (by simp)
  | x :: l, [], _, _, h => absurd ((h x).1 (by simp)) (by simp)
  | x :: l, y :: m, hl, hm, h => by
    have hl' := List.pairwise_cons.1 hl
    have hm' := List.pairwise_cons.1 hm
    have hxy : x = y := by
      rcases List.mem_cons.1 ((h x).1 (by simp)) with e | hx
      · exact e
      · rcases List.mem_cons.1 ((h y).2 (by simp)) with e | hy
        · exact e.symm
        · exact absurd (ht (hm'.1 x hx) (hl'.1 y hy)) (hi _)
    subst hxy
    congr 1
    refine order_ext hi ht hl'.2 hm'.2 fun z => ?_
    constructor
    · intro hz
      rcases List.mem_cons.1 ((h z).1 (List.mem_cons_of_mem _ hz)) with e | hz'
      · subst e; exact absurd (hl'.1 _ hz) (hi _)
      · exact hz'
    · intro hz
      rcases List.mem_cons.1 ((h z).2 (List.mem_cons_of_mem _ hz)) with e | hz'
      · subst e; exact absurd (hm'.1 _ hz) (hi _)
      · exact hz'
theorem isOrder_ext {g : G} {l m : List BS} (hl : IsOrder g l) (hm : IsOrder g m) : l = m :=
  order_ext (olt_irrefl g) olt_trans hl.1 hm.1 (fun x => (hl.2 x).trans (hm.2 x).symm)

end Go.Proofs.YtppgjglfoibfcaaGreat
