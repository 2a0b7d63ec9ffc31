import Derived.Test.YtppgjglfoibfcaaGreatVals2
set_option linter.unusedSimpArgs false
set_option linter.unusedVariables false
/-
  Package values: Of, names, Tell, Rows.
-/
namespace Go.Proofs.YtppgjglfoibfcaaGreat
open Go.Shelf Go.RowKit Go.Lib

theorem strs_new1 (w : World) (o : Obj) (x : BS) : Strs ((w.alloc o).alloc (.cells #[.string x] 9)) (.slice (some ⟨w.heap.size + 1, 0, none⟩) 1 1) [x] := by have := strs_new (w.alloc o) x; rwa [World.size_alloc] at this
theorem row_new1 (w : World) (o : Obj) (x : Rw) : RowsR ((w.alloc o).alloc (.cells #[.int .i64 x.kind, .string x.name, .string x.text, .int .i64 x.n, .string x.id, .string x.at_, .bool x.gone] 56)) (.slice (some ⟨w.heap.size + 1, 0, none⟩) 1 1) [x] := by have := row_new (w.alloc o) x; rwa [World.size_alloc] at this
theorem own_in {w : World} {base e size n : Nat} {v : Value} {xs : List Value} (h : w.ownsRow base e size v n xs) (g : Nat) (hg : v.ownBlock = some g) : base ≤ g ∧ g < w.heap.size := by
  rcases h.2 with ⟨rfl, _⟩ | ⟨g', cap, cur, rfl, hb, hgg, _⟩
  · cases hg
  · cases hg; exact ⟨hb, rowLt hgg⟩
theorem own_sep {w w' : World} {base e size n : Nat} {v : Value} {xs : List Value} (h : w.ownsRow base e size v n xs) {r : Option Nat} (hg : w.grownBy w' r) (hs : ∀ g, v.ownBlock = some g → r ≠ some g) : w'.ownsRow base e size v n xs := by
  refine ⟨h.1, ?_⟩
  rcases h.2 with hn | ⟨g, cap, cur, rfl, hb, hgg, rest⟩
  · exact .inl hn
  · exact .inr ⟨g, cap, cur, rfl, hb, (hg.block g (rowLt hgg) (fun e => hs g rfl e.symm)).trans hgg, rest⟩
theorem comp_texts (L : List Wr) (n : BS) : compB (sortB ((regW L n).map (·.text))) = ofW L n := by
  obtain ⟨h1, h2⟩ := comp_sort_bytes ((regW L n).map (·.text))
  refine sorted_ext h1 (sorted_ofW L n) fun x => ?_
  rw [h2, mem_ofW, List.mem_map]
  constructor
  · rintro ⟨y, hy, rfl⟩; exact ⟨y, ((mem_regW L n y).1 hy).1, ((mem_regW L n y).1 hy).2, rfl⟩
  · rintro ⟨y, h1, h2, rfl⟩; exact ⟨y, (mem_regW L n y).2 ⟨h1, h2⟩, rfl⟩

set_option maxRecDepth 100000 in
set_option maxHeartbeats 2000000 in
theorem ofV (vb bm : Nat) (dv : Value) (L : List Wr) (K : Nat) (n : BS) (w : World) (h : ValsAt w vb bm dv L K) (hL : L.length ≤ 100000) :
    Calls Tryz.prog 27 #[.pointer (some ⟨vb, 0, none⟩), .string n] w fun e w' => ∃ u, e = .returned u ∧ w'.ownsRow w.heap.size 9 1 u (ofW L n).length ((ofW L n).map .string) ∧ Fr [] w w' := by
  obtain ⟨l, hM, -, -, hent⟩ := h.map
  have hb1 := rowAt h.blk (j := 1) rfl
  have hlk := lookW hM n
  have hs := entOwn hent n
  have hrl : (regW L n).length ≤ 100000 := Nat.le_trans (List.length_filter_le _ _) hL
  obtain ⟨xs, hxs⟩ : ∃ xs, xs = regW L n := ⟨_, rfl⟩
  rw [← hxs] at hs hrl
  have Hxs := Lib.hid hxs
  generalize (lk l n).getD (.slice none 0 0) = u at hlk hs
  obtain ⟨a, c, rfl, hc, hm, hn⟩ := hs.form
  obtain ⟨m, hmx⟩ : ∃ m, m = xs.length := ⟨_, rfl⟩
  rw [← hmx] at hs hc hn hrl hlk
  have Hm := Lib.hid hmx
  have HL := Lib.hid hL
  clear hmx h hM hent hL hxs
  go_enter Tryz.func27, Tryz.ntmps27
  go_upto_region 5 with fail
  clear hlk hb1
  go_wp2
  go_loopw [5, 18] (fun u i wr => ∃ k : Nat, k ≤ m ∧ i = .int .i64 k ∧ wr.ownsRow w.heap.size 9 1 u ((xs.take k).map (·.text)).length (((xs.take k).map (·.text)).map .string) ∧ Fr [] w wr) (fun _ i _ => m - (intOf i).toNat)
  case atStart => exact ⟨0, Nat.zero_le _, rfl, World.ownsRow_nil _ _ _ _, .refl _⟩
  case round =>
    obtain ⟨k, hk, rfl, ho, hf⟩ := hrel
    by_cases hlt : k < m
    · obtain ⟨x, hx⟩ : ∃ s, xs[k]? = some s := ⟨_, List.getElem?_eq_getElem (Hm.out ▸ hlt)⟩
      obtain ⟨b, o, hidx, hcell⟩ := (hs.fr hf).at_ lenWt Hm.out 134 132 Tryz.underlying134 Tryz.sizeOf132 k x hx
      obtain ⟨c1, c2⟩ := cellsWt hcell
      have Hx := Lib.hid hx
      have hbs := hf.size
      have hlen : ((xs.take k).map (·.text)).length ≤ 100000 := by rw [List.length_map]; have := List.length_take_le k xs; omega
      clear hx hcell
      go_wp2_with (at_builtin; refine wpList_appS rfl (.tmp 22) (.tmp 25) rfl _ _ _ rfl (own_fr ho (((Fr.refl _).alloc (.cells #[.string x.text, .string x.id] 132)).alloc (.cells #[.string x.text] 9))) _ _ rfl (strs_new1 _ _ x.text) (by simp only [List.length_cons, List.length_nil]; omega) (by simp; omega) ?_; intro v1 w1 hown1 hg1 hat1; have f1 := ((hf.alloc (.cells #[.string x.text, .string x.id] 132)).alloc (.cells #[.string x.text] 9)).grown hg1 (fun j hj => own_base0 ho j hj); clear hg1 hat1)
      go_roundw
      case rel => exact ⟨k + 1, by omega, by go_num, by rw [take_snoc Hx.out, List.map_append]; exact hown1, f1⟩
      case measure => simp [intOf]; omega
    · have hzl2 : ((xs.take k).map (·.text)).length ≤ 1000000 := by rw [List.length_map]; have := List.length_take_le k xs; omega
      obtain ⟨T, hT, hTb⟩ := own_T ho
      have C1 := Lib.hid (sortOwn _ _ _ T _ ho hzl2 hT)
      have Hk := Lib.hid hlt
      have Hls := Lib.hid (length_sortB ((xs.take k).map (·.text)))
      clear ho
      go_wp2_with (first
        | (go_at_call 80; refine C1.out.mono ?_; rintro e w1 ⟨rfl, ho1, k1⟩; rw [← Hls.out] at ho1; have f1 := k1.fr hf hTb; have C2 := Lib.hid (compOwn _ _ _ T _ ho1 (by rw [Hls.out]; exact hzl2) hT); clear ho1)
        | (go_at_call 81; refine C2.out.mono ?_; rintro e w2 ⟨u, rfl, ho2, -, k2⟩; have f2 := k2.fr f1 hTb))
      go_ret
      refine ⟨_, rfl, ?_, f2⟩
      rw [List.take_of_length_le (by have := Hm.out; omega), Hxs.out, comp_texts] at ho2
      exact ho2

theorem keysW (b : Nat) (w : World) : Calls Tryz.prog 163 #[.map (some b)] w fun e w' => e = .returned (.func (.func 237) #[] #[.pointer (some ⟨w.heap.size, 0, none⟩)]) ∧ w' = w.alloc (.cells #[.map (some b)] 126) :=
  (callsIn_wide (n := 5)).1 (AnyZ.keys_in Tryz.layKeysW Fence.wide 5 trivial rfl (some b) w)
theorem sortedW (b : Nat) (l : Ents) (w : World) (h : Mp w b l) (hs : ∀ x ∈ keysL l, x.size ≤ 1000000) (hl : l.length ≤ 1000000) :
    Calls Tryz.prog 148 #[.func (.func 237) #[] #[.pointer (some ⟨w.heap.size, 0, none⟩)]] (w.alloc (.cells #[.map (some b)] 126)) fun e w' =>
      ∃ v xs, e = .returned v ∧ Strs w' v xs ∧ xs.Pairwise BLt ∧ (∀ x, x ∈ xs ↔ x ∈ keysL l) ∧ xs.length = l.length ∧ Fr [] (w.alloc (.cells #[.map (some b)] 126)) w' := by
  obtain ⟨D, hown, hsize, hperm⟩ := h.owns Tryz.underlying9 (fun x hx => Nat.le_trans (hs x hx) (by decide)) (Nat.le_trans hl (by decide))
  have hbl := hown.lt
  have hseq : SeqGives Fence.wide 2 Tryz.prog 237 #[.pointer (some ⟨w.heap.size, 0, none⟩)] encStr (fun ss => ss.Perm (strKeys D)) (Maps.size D) (w.alloc (.cells #[.map (some b)] 126)) :=
    AnyZ.keys_gives (ρ := Tryz.layKeysW_ren) { Tryz.layKeysW with } Fence.wide _ trivial rfl (by omega) w.heap.size b l.length D _ (by simp) (by simp) (hown.alloc _)
  have cS := AnyZ.sorted_in Tryz.laySorted Fence.wide 5 trivial trivial trivial trivial rfl (by omega) (sortsA _) (enters_of Tryz.func80 (by kernel_rfl) rfl) 237 #[.pointer (some ⟨w.heap.size, 0, none⟩)] trivial (enters_of Tryz.func237 (by kernel_rfl) rfl) _ _ (by rw [hsize]; exact Nat.le_trans hl (by decide)) (by rw [hsize]; omega) _ hseq
  refine Calls.mono ((callsIn_wide (n := 5)).1 cS) ?_
  rintro e w' ⟨v, ss, rfl, hS, hrow, _, hb⟩
  obtain ⟨h1, h2⟩ := sorted_keys (keysL l) h.nodup ss (hS.trans hperm)
  have h3 := hS.length_eq
  have h4 := hperm.length_eq
  simp [keysL] at h4
  refine ⟨v, _, rfl, ?_, h1, h2, by simp; omega, Fr.of_below hb⟩
  have e1 : (ss.mergeSort fun x y => decide (x ≤ y)).map encStr = ((ss.mergeSort fun x y => decide (x ≤ y)).map bsOf).map Value.string := by
    rw [List.map_map]; rfl
  rw [e1] at hrow
  have hll : ss.length = ((ss.mergeSort fun x y => decide (x ≤ y)).map bsOf).length := by simp
  rw [hll] at hrow
  exact Strs.of_own hrow (by simp; omega)

set_option maxRecDepth 100000 in
theorem namesV (vb bm : Nat) (dv : Value) (L : List Wr) (K : Nat) (w : World) (h : ValsAt w vb bm dv L K) (hK : K ≤ 1000000) :
    Calls Tryz.prog 79 #[.pointer (some ⟨vb, 0, none⟩)] w fun e w' => ∃ v xs, e = .returned v ∧ Strs w' v xs ∧ xs.Pairwise BLt ∧ (∀ x ∈ L, x.name ∈ xs) ∧ xs.length ≤ K ∧ Fr [] w w' := by
  obtain ⟨l, hM, hl, hk, hent⟩ := h.map
  have hb1 := rowAt h.blk (j := 1) rfl
  have f0 := (Fr.refl w).alloc (.cells #[.map (some bm)] 126)
  have C1 := Lib.hid (keysW bm w)
  have C2 := Lib.hid (sortedW bm l w hM (fun x hx => by have := hk x hx; omega) (by omega))
  have Hent := Lib.hid hent
  have Hl := Lib.hid hl
  clear hM hk hent hl h
  go_enter Tryz.func79, Tryz.ntmps79
  go_wp2_with (first
    | (go_at_call 163; refine C1.out.mono ?_; rintro e w1 ⟨rfl, rfl⟩)
    | (go_at_call 148; refine C2.out.mono ?_; rintro e w2 ⟨v, xs, rfl, hs, hp, hm, hln, f2⟩))
  go_ret
  refine ⟨_, xs, rfl, hs, hp, fun x hx => ?_, by rw [hln]; exact Hl.out, f0.then f2⟩
  rw [hm]
  rcases Hent.out x.name with ⟨u, h1, _⟩ | ⟨_, h2⟩
  · exact Decidable.byContradiction fun hn => by rw [lk_none hn] at h1; cases h1
  · have : x ∈ regW L x.name := (mem_regW _ _ _).2 ⟨hx, rfl⟩
    rw [h2] at this; cases this

set_option maxRecDepth 100000 in
set_option maxHeartbeats 4000000 in
theorem tellV (vb bm : Nat) (dv : Value) (L : List Wr) (K : Nat) (w : World) (h : ValsAt w vb bm dv L K) (hL : L.length ≤ 100000) (hK : K ≤ 1000000) :
    Calls Tryz.prog 22 #[.pointer (some ⟨vb, 0, none⟩)] w fun e w' => ∃ u, e = .returned u ∧ Words w' u (tellW L) ∧ Fr [] w w' := by
  have CN := Lib.hid (namesV vb bm dv L K w h hK)
  have HL := Lib.hid hL
  go_enter Tryz.func22, Tryz.ntmps22
  go_wp2_with (go_at_call 79; refine CN.out.mono ?_; rintro e w1 ⟨v, N, rfl, hs, hp, hall, hNl, f1⟩; obtain ⟨a, c, rfl, hc, hm, hn⟩ := hs.form; have Hp0 := Lib.hid hp; have Hall0 := Lib.hid hall; clear hp hall)
  have hp := Hp0.out
  have hall := Hall0.out
  clear Hp0 Hall0
  obtain ⟨m, hmx⟩ : ∃ m, m = N.length := ⟨_, rfl⟩
  rw [← hmx] at hs hc hn ⊢
  have Hm := Lib.hid hmx
  have HT := Lib.hid (tell_of_names hp hall)
  have Hp := Lib.hid hp
  have h1 := h.fr f1 (by simp)
  clear hmx hp hall hNl CN hL
  obtain ⟨F, hF⟩ : ∃ F : BS → List (BS × BS), F = fun n => (ofW L n).map fun t => (n, t) := ⟨_, rfl⟩
  rw [← hF] at HT
  have HF := Lib.hid hF
  clear hF
  have HF1 := Lib.hid f1
  go_loopw [3, 11] (fun u i wr => ∃ (k q : Nat), k ≤ m ∧ i = .int .i64 k ∧ Hid (q = ((N.take k).flatMap F).length) ∧ wr.ownsRow w1.heap.size 125 2 u q (((N.take k).flatMap F).flatMap encWd) ∧ Fr [] w1 wr) (fun _ i _ => m - (intOf i).toNat)
  case atStart => exact ⟨0, 0, Nat.zero_le _, rfl, Lib.hid rfl, World.ownsRow_nil _ _ _ _, .refl _⟩
  case round =>
    obtain ⟨k, q, hk, rfl, Hq, ho, hf⟩ := hrel
    by_cases hlt : k < m
    · obtain ⟨x, hx⟩ : ∃ s, N[k]? = some s := ⟨_, List.getElem?_eq_getElem (Hm.out ▸ hlt)⟩
      obtain ⟨b, o, hidx, hcell⟩ := (hs.fr hf).at_ Hm.out 51 9 Tryz.underlying51 Tryz.sizeOf9 k x hx
      have Hx := Lib.hid hx
      have CO := Lib.hid (ofV vb bm dv L K x wr (h1.fr hf (by simp)) HL.out)
      clear hx
      obtain ⟨wo, rfl⟩ : ∃ wo : World, wo = wr := ⟨_, rfl⟩
      go_wp2_with (go_at_call 27; refine CO.out.mono ?_; rintro e w2 ⟨ov, rfl, hov, f2⟩; obtain ⟨oa, oc, rfl⟩ := own_form hov)
      clear hidx hcell CO
      have hsep : ∀ g, u3.ownBlock = some g → g < wo.heap.size ∨ w2.heap.size ≤ g := fun g hg => .inl (own_in ho g hg).2
      have Hsep := Lib.hid hsep
      have HovL := Lib.hid (own_in hov)
      have hfx : Hid (F x = (ofW L x).map fun t => (x, t)) := Lib.hid (by rw [HF.out])
      obtain ⟨n, hnx⟩ : ∃ n, n = (ofW L x).length := ⟨_, rfl⟩
      rw [← hnx] at hov HovL ⊢
      have Hn := Lib.hid hnx
      have hnb : n ≤ 100000 := by rw [hnx]; exact Nat.le_trans (len_ofW L x) HL.out
      have ho2 := own_fr ho f2
      have hf2 := hf.then f2
      clear hnx hsep ho
      go_loopw [3, 19] (fun u i wr => ∃ (j q : Nat), j ≤ n ∧ i = .int .i64 j ∧ Hid (q = ((N.take k).flatMap F ++ (F x).take j).length) ∧ wr.ownsRow w1.heap.size 125 2 u q (((N.take k).flatMap F ++ (F x).take j).flatMap encWd) ∧ Hid (∀ g, u.ownBlock = some g → g < wo.heap.size ∨ w2.heap.size ≤ g) ∧ wr.ownsRow wo.heap.size 9 1 (.slice oa n oc) n ((ofW L x).map .string) ∧ w2.heap.size ≤ wr.heap.size ∧ Fr [] w1 wr) (fun _ i _ => n - (intOf i).toNat)
      case atStart => exact ⟨0, q, Nat.zero_le _, rfl, Lib.hid (by rw [Hq.out]; simp), by simpa using ho2, Hsep, hov, Nat.le_refl _, hf2⟩
      case round =>
        obtain ⟨j, q', hj, rfl, Hq', ho3, Hsep3, hov3, hsz3, hf3⟩ := hrel
        by_cases hlt2 : j < n
        · obtain ⟨t, ht⟩ : ∃ s, (ofW L x)[j]? = some s := ⟨_, List.getElem?_eq_getElem (Hn.out ▸ hlt2)⟩
          have hstr : Strs wr (.slice oa n oc) (ofW L x) := Strs.of_own hov3 (by have := len_ofW L x; have := HL.out; omega)
          obtain ⟨b, o, hidx, hcell⟩ := hstr.at_ Hn.out 51 9 Tryz.underlying51 Tryz.sizeOf9 j t ht
          have hFt : (F x)[j]? = some (x, t) := by rw [hfx.out, List.getElem?_map, ht]; rfl
          have hpre := flat_prefix (f := F) Hx.out j
          have hql : ((N.take k).flatMap F ++ (F x).take j).length ≤ 100000 := by rw [HT.out] at hpre; have := len_tellW L; have := HL.out; omega
          have hmore := flat_more (N := N) (k := k) (f := F) hFt
          have Hmore := Lib.hid hmore
          have Hql := Lib.hid hql
          have hb3 := hf3.size
          have ho3 : wr.ownsRow w1.heap.size 125 2 u3 ((N.take k).flatMap F ++ (F x).take j).length (((N.take k).flatMap F ++ (F x).take j).flatMap encWd) := by rw [← Hq'.out]; exact ho3
          clear ht hFt hpre hmore hstr hql
          go_wp2_with (at_builtin; refine wpList_appWd rfl (.tmp 23) (.tmp 27) rfl w1.heap.size _ _ rfl (own_fr ho3 ((Fr.refl _).alloc _)) _ [(x, t)] rfl (word_new _ (x, t)) (by have := Hql.out; simp only [List.length_singleton]; omega) (by simp; omega) ?_; intro v1 w4 hown1 hg1 hat1; have f4 := (hf3.alloc _).grown hg1 (own_base0 ho3); have hov4 := own_sep (own_fr hov3 ((Fr.refl wr).alloc (.cells #[.string x, .string t] 125))) hg1 (fun g hg e => by { have h1 := HovL.out g hg; rcases Hsep3.out g e with h2 | h2 <;> omega }); have Hsep4 : Hid (∀ g, v1.ownBlock = some g → g < wo.heap.size ∨ w2.heap.size ≤ g) := Lib.hid (fun g hg => by { rcases hat1 with e | e; exact Hsep3.out g (e ▸ hg); rw [e] at hg; injection hg with hg; simp at hg; omega }); have hsz4 := hg1.size; clear hg1 hat1)
          rw [Hmore.out] at hown1
          go_roundw
          case rel => exact ⟨j + 1, _, by omega, by go_num, Lib.hid rfl, hown1, Hsep4, hov4, by simp at hsz4; omega, f4⟩
          case measure => simp [intOf]; omega
        · have hst := flat_step (f := F) Hx.out (j := j) (by rw [hfx.out, List.length_map, ← Hn.out]; omega)
          have Hst := Lib.hid hst
          clear hst
          go_wp2
          go_roundw
          case rel =>
            refine ⟨k + 1, q', by omega, by go_num, Lib.hid (by rw [← Hst.out]; exact Hq'.out), by rw [← Hst.out]; exact ho3, hf3⟩
          case measure => simp [intOf]; omega
    · have HR := Lib.hid (show (N.take k).flatMap F = tellW L by rw [List.take_of_length_le (by have := Hm.out; omega)]; exact HT.out)
      go_wp2
      go_ret
      rw [HR.out] at ho
      exact ⟨_, rfl, Recs.of_own ho (by rw [Hq.out, HR.out]) (by have := len_tellW L; have := HL.out; omega), HF1.out.then hf⟩

set_option maxRecDepth 100000 in
set_option maxHeartbeats 4000000 in
theorem rowsV (vb bm : Nat) (dv : Value) (L : List Wr) (K : Nat) (w : World) (h : ValsAt w vb bm dv L K) (hL : L.length ≤ 100000) (hK : K ≤ 1000000) :
    Calls Tryz.prog 25 #[.pointer (some ⟨vb, 0, none⟩)] w fun e w' => ∃ u, e = .returned u ∧ w'.ownsRow w.heap.size 56 7 u (L.map Wr.rw).length ((L.map Wr.rw).flatMap encRw) ∧ Fr [] w w' := by
  have CN := Lib.hid (namesV vb bm dv L K w h hK)
  have HL := Lib.hid hL
  go_enter Tryz.func25, Tryz.ntmps25
  go_wp2_with (go_at_call 79; refine CN.out.mono ?_; rintro e w1 ⟨v, N, rfl, hs, hp, hall, hNl, f1⟩; obtain ⟨a, c, rfl, hc, hm, hn⟩ := hs.form; have Hp0 := Lib.hid hp; have Hall0 := Lib.hid hall; clear hp hall)
  have hp := Hp0.out
  have hall := Hall0.out
  clear Hp0 Hall0
  obtain ⟨m, hmx⟩ : ∃ m, m = N.length := ⟨_, rfl⟩
  rw [← hmx] at hs hc hn ⊢
  have Hm := Lib.hid hmx
  obtain ⟨F, hF⟩ : ∃ F : BS → List Rw, F = fun n => (regW L n).map Wr.rw := ⟨_, rfl⟩
  have HT : Hid (N.flatMap F = L.map Wr.rw) := Lib.hid (by rw [hF, ← List.map_flatMap, rows_names h.srt hp hall])
  have h1 := h.fr f1 (by simp)
  obtain ⟨l, hM, -, -, hent⟩ := h1.map
  have hblk := h1.blk
  clear hmx hp hall hNl CN hL h h1
  have HF := Lib.hid hF
  have Hent := Lib.hid hent
  clear hF hent
  have hbs1 := f1.size
  have HF1 := Lib.hid f1
  go_loopw [3, 11] (fun u i wr => ∃ (k q : Nat), k ≤ m ∧ i = .int .i64 k ∧ Hid (q = ((N.take k).flatMap F).length) ∧ wr.ownsRow w1.heap.size 56 7 u q (((N.take k).flatMap F).flatMap encRw) ∧ Fr [] w1 wr) (fun _ i _ => m - (intOf i).toNat)
  case atStart => exact ⟨0, 0, Nat.zero_le _, rfl, Lib.hid rfl, World.ownsRow_nil _ _ _ _, .refl _⟩
  case round =>
    obtain ⟨k, q, hk, rfl, Hq, ho, hf⟩ := hrel
    by_cases hlt : k < m
    · obtain ⟨x, hx⟩ : ∃ s, N[k]? = some s := ⟨_, List.getElem?_eq_getElem (Hm.out ▸ hlt)⟩
      obtain ⟨b, o, hidx, hcell⟩ := (hs.fr hf).at_ Hm.out 51 9 Tryz.underlying51 Tryz.sizeOf9 k x hx
      have Hx := Lib.hid hx
      have hlk := lookW (hM.fr hf (by simp)) x
      have hb1 := rowAt (hf.row hblk) (j := 1) rfl
      have hrec := entOwn Hent.out x
      obtain ⟨n, hnx⟩ : ∃ n, n = (regW L x).length := ⟨_, rfl⟩
      have hnb : n ≤ 100000 := by rw [hnx]; exact Nat.le_trans (List.length_filter_le _ _) HL.out
      have Hn := Lib.hid hnx
      generalize (lk l x).getD (.slice none 0 0) = u at hlk hrec
      obtain ⟨oa, oc, rfl⟩ := hrec.formN n hnx.symm
      have hfx : Hid (F x = (regW L x).map Wr.rw) := Lib.hid (by rw [HF.out])
      clear hx hnx
      obtain ⟨wo, rfl⟩ : ∃ wo : World, wo = wr := ⟨_, rfl⟩
      go_wp2
      clear hidx hcell hlk hb1
      go_loopw [3, 22] (fun u i wr => ∃ (j q : Nat), j ≤ n ∧ i = .int .i64 j ∧ Hid (q = ((N.take k).flatMap F ++ (F x).take j).length) ∧ wr.ownsRow w1.heap.size 56 7 u q (((N.take k).flatMap F ++ (F x).take j).flatMap encRw) ∧ Fr [] w1 wr) (fun _ i _ => n - (intOf i).toNat)
      case atStart => exact ⟨0, q, Nat.zero_le _, rfl, Lib.hid (by rw [Hq.out]; simp), by simpa using ho, hf⟩
      case round =>
        obtain ⟨j, q', hj, rfl, Hq', ho3, hf3⟩ := hrel
        by_cases hlt2 : j < n
        · obtain ⟨t, ht⟩ : ∃ s, (regW L x)[j]? = some s := ⟨_, List.getElem?_eq_getElem (Hn.out ▸ hlt2)⟩
          obtain ⟨b, o, hidx, hcell⟩ := (hrec.fr hf3).at_ lenWt Hn.out 134 132 Tryz.underlying134 Tryz.sizeOf132 j t ht
          obtain ⟨c1, c2⟩ := cellsWt hcell
          have htn := ((mem_regW L x t).1 (List.mem_of_getElem? ht)).2
          have hFt : (F x)[j]? = some (⟨3, x, t.text, 0, t.id, ⟨#[]⟩, false⟩ : Rw) := by rw [hfx.out, List.getElem?_map, ht, ← htn]; rfl
          have hpre := flat_prefix (f := F) Hx.out j
          have hql : ((N.take k).flatMap F ++ (F x).take j).length ≤ 100000 := by rw [HT.out, List.length_map] at hpre; have := HL.out; omega
          have hmore := flat_more (N := N) (k := k) (f := F) hFt
          have Hmore := Lib.hid hmore
          have Hql := Lib.hid hql
          have hb3 := hf3.size
          have ho3 : wr.ownsRow w1.heap.size 56 7 u3 ((N.take k).flatMap F ++ (F x).take j).length (((N.take k).flatMap F ++ (F x).take j).flatMap encRw) := by rw [← Hq'.out]; exact ho3
          clear ht hFt hpre hmore hql hcell htn
          go_wp2_with (at_builtin; refine wpList_appRw rfl (.tmp 26) (.tmp 33) rfl w1.heap.size _ _ rfl (own_fr ho3 (((Fr.refl _).alloc (.cells #[.string t.text, .string t.id] 132)).alloc _)) _ [⟨3, x, t.text, 0, t.id, ⟨#[]⟩, false⟩] rfl (row_new1 _ _ ⟨3, x, t.text, 0, t.id, ⟨#[]⟩, false⟩) (by have := Hql.out; simp only [List.length_singleton]; omega) (by simp; omega) ?_; intro v1 w4 hown1 hg1 hat1; have f4 := ((hf3.alloc (.cells #[.string t.text, .string t.id] 132)).alloc _).grown hg1 (own_base0 ho3); clear hg1 hat1)
          rw [Hmore.out] at hown1
          go_roundw
          case rel => exact ⟨j + 1, _, by omega, by go_num, Lib.hid rfl, hown1, f4⟩
          case measure => simp [intOf]; omega
        · have hst := flat_step (f := F) Hx.out (j := j) (by rw [hfx.out, List.length_map, ← Hn.out]; omega)
          have Hst := Lib.hid hst
          clear hst
          go_wp2
          go_roundw
          case rel =>
            refine ⟨k + 1, q', by omega, by go_num, Lib.hid (by rw [← Hst.out]; exact Hq'.out), by rw [← Hst.out]; exact ho3, hf3⟩
          case measure => simp [intOf]; omega
    · have HR := Lib.hid (show (N.take k).flatMap F = L.map Wr.rw by rw [List.take_of_length_le (by have := Hm.out; omega)]; exact HT.out)
      go_wp2
      go_ret
      rw [HR.out] at ho
      have hqe := Hq.out
      rw [HR.out] at hqe
      rw [hqe] at ho
      exact ⟨_, rfl, own_mono ho hbs1, HF1.out.then hf⟩
end Go.Proofs.YtppgjglfoibfcaaGreat
