import Derived.Test.YtoaebladjdnfjaaGreatDepth
set_option linter.unusedSimpArgs false
set_option linter.unusedVariables false
/-
  The order of the reference's graphs: the walk, and the plain law.
-/
namespace Go.Proofs.YtoaebladjdnfjaaGreat
open Go.RowKit

def rowD (g : G) (n : Nat) : List BS := ofL ((g.filter fun x => decide (depth g x.id = n)).map (·.id))
def ordL (g : G) (m : Nat) : List BS := (List.range m).flatMap fun i => rowD g (i + 1)
theorem ordL_succ (g : G) (m : Nat) : ordL g (m + 1) = ordL g m ++ rowD g (m + 1) := by simp [ordL, List.range_succ, List.flatMap_append]

theorem rowD_snoc {g : G} {k n : Nat} {x : Nd} (hx : g[k]? = some x) (h : G) :
    ((g.take (k + 1)).filter fun x => decide (depth h x.id = n)).map (·.id) = ((g.take k).filter fun x => decide (depth h x.id = n)).map (·.id) ++ if depth h x.id = n then [x.id] else [] := by
  rw [take_snoc hx, List.filter_append, List.map_append]
  split <;> simp [*]
theorem length_rowD (g : G) (n : Nat) : (rowD g n).length ≤ g.length := by
  refine Nat.le_trans (length_ofL _) ?_
  rw [List.length_map]; exact List.length_filter_le _ _
theorem length_ordL (g : G) (m : Nat) : (ordL g m).length ≤ m * g.length := by
  induction m with
  | zero => simp [ordL]
  | succ m ih => rw [ordL_succ, List.length_append, Nat.add_mul]; have := length_rowD g (m + 1); omega

theorem Wf.uniq {g : G} (hw : Wf g) {k : Nat} {x : Nd} (hx : g[k]? = some x) : x.id ∉ ids (g.take k) := (hw k x hx).2.2.1

set_option maxRecDepth 100000 in
set_option maxHeartbeats 2000000 in
theorem order16 (v : Value) (g : G) (w : World) (hs : Nodes w v g) (hl : g.length ≤ 5000) (hwf : Wf g) :
    Calls Tryz.prog 39 #[.agg #[v]] w fun e w' => ∃ u, e = .returned u ∧ Strs w' u (ordL g g.length) ∧ Fr [] w w' := by
  obtain ⟨a, c, rfl, hc, hm, hn⟩ := hs.form
  obtain ⟨n, hnx⟩ : ∃ n, n = g.length := ⟨_, rfl⟩
  have hlg : g.length ≤ 1000000 := by omega
  rw [← hnx] at hs hc hn hl ⊢
  have Hn := Lib.hid hnx; clear hnx
  have Hwf := Lib.hid hwf; clear hwf
  have f0 := (Fr.refl w).alloc (.cells #[.slice a n c] 29)
  have hs := hs.fr f0
  go_enter Tryz.func39, Tryz.ntmps39
  go_wp2_with (go_at_call 75; refine (depths16 _ _ _ hs hlg Hwf.out).mono ?_; rintro e w1 ⟨du, rfl, hd, hfd⟩; obtain ⟨da, dc, rfl, _, _, _⟩ := Sl.form hd)
  have hc0 := hfd.cell (World.cell?_alloc_new (w := w) #[.slice a n c] 29 0)
  have hs := hs.fr hfd
  have f1 := f0.then hfd
  go_loopw [4, 5] (fun u i wr => ∃ k : Nat, k ≤ n ∧ i = .int .i64 ((k : Int) + 1) ∧ wr.ownsRow w1.heap.size 9 1 u (ordL g k).length ((ordL g k).map .string) ∧ Fr [] w1 wr) (fun _ i _ => n + 1 - (intOf i).toNat)
  case atStart => exact ⟨0, Nat.zero_le _, rfl, World.ownsRow_nil _ _ _ _, .refl _⟩
  case round =>
    obtain ⟨k, hk, rfl, hsu, hf⟩ := hrel
    obtain ⟨wo, rfl⟩ : ∃ wo : World, wo = wr := ⟨_, rfl⟩
    have hs := hs.fr hf
    have hc1 := hf.cell hc0
    have hd := hd.fr hf
    have f2 := f1.then hf
    have hlo : (ordL g k).length ≤ 25000000 := by
      have := length_ordL g k
      have h2 : k * g.length ≤ 5000 * 5000 := Nat.mul_le_mul (by omega) (by have := Hn.out; omega)
      omega
    by_cases hlt : k < n
    · have hb : decide ((k : Int) + 1 ≤ (n : Int)) = true := by simp; omega
      go_wp2
      go_loopw [6, 7] (fun u i wr => ∃ q : Nat, q ≤ n ∧ i = .int .i64 q ∧ wr.ownsRow wo.heap.size 9 1 u (((g.take q).filter fun x => decide (depth g x.id = k + 1)).map (·.id)).length ((((g.take q).filter fun x => decide (depth g x.id = k + 1)).map (·.id)).map .string) ∧ Fr [] wo wr) (fun _ i _ => n - (intOf i).toNat)
      case atStart => exact ⟨0, Nat.zero_le _, rfl, World.ownsRow_nil _ _ _ _, .refl _⟩
      case round =>
        obtain ⟨q, hq, rfl, hsr, hf2⟩ := hrel
        have hs := hs.fr hf2
        have hc1 := hf2.cell hc1
        have hd := hd.fr hf2
        have hlu : (((g.take q).filter fun x => decide (depth g x.id = k + 1)).map (·.id)).length ≤ 1000000 := by
          have := List.length_filter_le (fun x : Nd => decide (depth g x.id = k + 1)) (g.take q); simp only [List.length_take, List.length_map] at this ⊢; omega
        by_cases hlt2 : q < n
        · obtain ⟨x, hx⟩ : ∃ x, g[q]? = some x := ⟨_, List.getElem?_eq_getElem (Hn.out ▸ hlt2)⟩
          obtain ⟨b, o, pv, hidx, hcell, _, _⟩ := hs.at_ Hn.out 27 71 Tryz.underlying27 Tryz.sizeOf71 q x hx
          obtain ⟨b2, o2, hidx2, hcell2⟩ := hd.at_ rfl 96 3 Tryz.underlying96 Tryz.sizeOf3 q _ (dl_at hx (Hwf.out.uniq hx))
          have Hx := Lib.hid hx; clear hx
          by_cases hr : depth g x.id = k + 1
          · have hr' : ((depth g x.id : Int) == (k : Int) + 1) = true := by rw [beq_iff_eq]; omega
            have Hr := Lib.hid hr; clear hr
            go_wp2_with (first
              | (at_builtin; refine wpList_appS rfl _ _ rfl _ _ _ rfl (own_fr hsr ((Fr.refl _).alloc _)) _ _ rfl (strs_new _ x.id) (by simp only [List.length_cons, List.length_nil]; omega) (by have := hf2.size; simp at this ⊢; omega) ?_; intro v1 w2 hown1 hg1 hat1; have g1 := (hf2.alloc (.cells #[.string x.id] 9)).grown hg1 (own_base0 hsr)))
            go_roundw
            case rel => exact ⟨q + 1, by omega, by go_num, by rw [rowD_snoc Hx.out, if_pos Hr.out]; exact hown1, g1⟩
            case measure => simp [intOf]; omega
          · have hr' : ((depth g x.id : Int) == (k : Int) + 1) = false := by rw [beq_eq_false_iff_ne]; omega
            have Hr := Lib.hid hr; clear hr
            go_wp2
            go_roundw
            case rel => exact ⟨q + 1, by omega, by go_num, by rw [rowD_snoc Hx.out, if_neg Hr.out, List.append_nil]; exact hsr, hf2⟩
            case measure => simp [intOf]; omega
        · have hsr' := Strs.of_own hsr (by omega)
          have hqn : ofL (((g.take q).filter fun x => decide (depth g x.id = k + 1)).map (·.id)) = rowD g (k + 1) := by rw [List.take_of_length_le (by have := Hn.out; omega)]; rfl
          have Hqn := Lib.hid hqn; clear hqn
          go_wp2_with (first
            | (go_at_call 43; refine (of04 _ _ _ hsr' hlu).mono ?_; rintro e w2 ⟨u', rfl, hsu', hf3⟩; rw [Hqn.out] at hsu')
            | (at_builtin; refine wpList_appS rfl _ _ rfl _ _ _ rfl (own_fr hsu (hf2.then hf3)) _ _ rfl hsu' (by have := length_rowD g (k + 1); have := Hn.out; omega) (hf.then (hf2.then hf3)).size ?_; intro v1 w3 hown1 hg1 hat1; have g1 := ((hf.then hf2).then hf3).grown hg1 (own_base0 hsu)))
          go_roundw
          case rel => exact ⟨k + 1, by omega, by go_num, by rw [ordL_succ]; exact hown1, g1⟩
          case measure => simp [intOf]; omega
    · have hb : decide ((k : Int) + 1 ≤ (n : Int)) = false := by simp; omega
      have hkn : k = n := by omega
      have Hkn := Lib.hid hkn; clear hkn
      have hsu' := Strs.of_own hsu (by omega)
      go_wp2
      go_ret
      exact ⟨_, rfl, by rw [← Hkn.out]; exact hsu', f2⟩

/-! ### the plain law: what it comes to is an order -/
theorem depth_pos {g : G} {x : BS} (h : x ∈ ids g) : 1 ≤ depth g x := by
  have key : ∀ g : G, ∀ p ∈ deps g, 1 ≤ p.2 := by
    intro g
    induction g using snoc_ind with
    | nil => intro p h; simp [deps] at h
    | snoc g n ih =>
      intro p hp
      rw [deps_snoc] at hp
      rcases List.mem_append.1 hp with h | h
      · exact ih p h
      · simp at h; subst h; simp
  unfold depth lookD
  cases hf : (deps g).find? (fun p => decide (p.1 = x)) with
  | none =>
    rw [List.find?_eq_none] at hf
    rw [← fst_deps] at h
    obtain ⟨p, hp, e⟩ := List.mem_map.1 h
    exact absurd e (by simpa using hf p hp)
  | some p => simpa using key g p (List.mem_of_find?_eq_some hf)
theorem Wf.right {g : G} (h : Wf g) {x : BS} (hx : x ∈ ids g) : x.size = 32 := by
  obtain ⟨n, hn, rfl⟩ := List.mem_map.1 hx
  obtain ⟨i, hi⟩ := List.mem_iff_getElem?.1 hn
  exact (h i n hi).1
theorem mem_rowD {g : G} (hw : Wf g) {n : Nat} {x : BS} : x ∈ rowD g n ↔ x ∈ ids g ∧ depth g x = n := by
  unfold rowD
  rw [mem_ofL]
  constructor
  · rintro ⟨h, _⟩
    obtain ⟨m, hm, rfl⟩ := List.mem_map.1 h
    simp only [List.mem_filter, decide_eq_true_eq] at hm
    exact ⟨List.mem_map.2 ⟨m, hm.1, rfl⟩, hm.2⟩
  · rintro ⟨h, hd⟩
    refine ⟨?_, hw.right h⟩
    obtain ⟨m, hm, rfl⟩ := List.mem_map.1 h
    exact List.mem_map.2 ⟨m, by simp [hm, hd], rfl⟩
theorem isOrder_ordL {g : G} (hw : Wf g) : IsOrder g (ordL g g.length) := by
  have key : ∀ m, (ordL g m).Pairwise (OLt g) ∧ ∀ x, x ∈ ordL g m ↔ x ∈ ids g ∧ depth g x ≤ m := by
    intro m
    induction m with
    | zero =>
      refine ⟨by simp [ordL], fun x => ?_⟩
      simp only [ordL, List.range_zero, List.flatMap_nil, List.not_mem_nil, false_iff]
      rintro ⟨h, h2⟩
      have := depth_pos h; omega
    | succ m ih =>
      rw [ordL_succ]
      refine ⟨List.pairwise_append.2 ⟨ih.1, ?_, ?_⟩, fun x => ?_⟩
      · have h1 : (rowD g (m + 1)).Pairwise BLt := sorted_ofL _
        refine h1.imp_of_mem fun {a b} ha hb h => .inr ⟨?_, h⟩
        rw [((mem_rowD hw).1 ha).2, ((mem_rowD hw).1 hb).2]
      · intro a ha b hb
        have h1 := ((ih.2 a).1 ha).2
        have h2 := ((mem_rowD hw).1 hb).2
        exact .inl (by omega)
      · rw [List.mem_append, ih.2, mem_rowD hw]
        constructor
        · rintro (⟨h1, h2⟩ | ⟨h1, h2⟩) <;> exact ⟨h1, by omega⟩
        · rintro ⟨h1, h2⟩
          by_cases h3 : depth g x = m + 1
          · exact .inr ⟨h1, h3⟩
          · exact .inl ⟨h1, by omega⟩
  obtain ⟨h1, h2⟩ := key g.length
  exact ⟨h1, fun x => ⟨fun h => ((h2 x).1 h).1, fun h => (h2 x).2 ⟨h, depth_le g x⟩⟩⟩
theorem olt_irrefl (g : G) (a : BS) : ¬ OLt g a a := by
  rintro (h | ⟨_, h⟩)
  · omega
  · exact blt_irrefl _ h
theorem olt_trans {g : G} {a b c : BS} (h : OLt g a b) (k : OLt g b c) : OLt g a c := by
  rcases h with h | ⟨h1, h2⟩ <;> rcases k with k | ⟨k1, k2⟩
  · exact .inl (by omega)
  · exact .inl (by omega)
  · exact .inl (by omega)
  · exact .inr ⟨by omega, blt_trans h2 k2⟩
theorem olt_total (g : G) (a b : BS) : OLt g a b ∨ a = b ∨ OLt g b a := by
  rcases Nat.lt_trichotomy (depth g a) (depth g b) with h | h | h
  · exact .inl (.inl h)
  · rcases blt_total a b with k | k | k
    · exact .inl (.inr ⟨h, k⟩)
    · exact .inr (.inl k)
    · exact .inr (.inr (.inr ⟨h.symm, k⟩))
  · exact .inr (.inr (.inl h))
/-- A list that is ordered is known by what is in it. -/
theorem order_ext {α : Type} {R : α → α → Prop} (hi : ∀ a, ¬ R a a) (ht : ∀ {a b c}, R a b → R b c → R a c) : ∀ {l m : List α}, l.Pairwise R → m.Pairwise R → (∀ x, x ∈ l ↔ x ∈ m) → l = m
  | [], [], _, _, _ => rfl
  | [], y :: m, _, _, h => absurd ((h y).2 (by simp)) (by simp)
  | x :: l, [], _, _, h => absurd ((h x).1 (by simp)) (by simp)
  | x :: l, y :: m, hl, hm, h => by
    have hl' := List.pairwise_cons.1 hl
    have hm' := List.pairwise_cons.1 hm
    have hxy : x = y := by
      rcases List.mem_cons.1 ((h x).1 (by simp)) with e | hx
      · exact e
      · rcases List.mem_cons.1 ((h y).2 (by simp)) with e | hy
        · exact e.symm
        · exact absurd (ht (hm'.1 x hx) (hl'.1 y hy)) (hi _)
    subst hxy
    congr 1
    refine order_ext hi ht hl'.2 hm'.2 fun z => ?_
    constructor
    · intro hz
      rcases List.mem_cons.1 ((h z).1 (List.mem_cons_of_mem _ hz)) with e | hz'
      · subst e; exact absurd (hl'.1 _ hz) (hi _)
      · exact hz'
    · intro hz
      rcases List.mem_cons.1 ((h z).2 (List.mem_cons_of_mem _ hz)) with e | hz'
      · subst e; exact absurd (hm'.1 _ hz) (hi _)
      · exact hz'
theorem isOrder_ext {g : G} {l m : List BS} (hl : IsOrder g l) (hm : IsOrder g m) : l = m :=
  order_ext (olt_irrefl g) olt_trans hl.1 hm.1 (fun x => (hl.2 x).trans (hm.2 x).symm)

end Go.Proofs.YtoaebladjdnfjaaGreat
