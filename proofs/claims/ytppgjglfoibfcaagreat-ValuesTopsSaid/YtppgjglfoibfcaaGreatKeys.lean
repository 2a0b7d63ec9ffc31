import Derived.Test.YtppgjglfoibfcaaGreatMaps
import Derived.Test.YtppgjglfoibfcaaGreatLay
set_option linter.unusedSimpArgs false
set_option linter.unusedVariables false
/-
  A map's keys, sorted.
-/
namespace Go.Proofs.YtppgjglfoibfcaaGreat
open Go.RowKit Go.Maps Go.Sort Go.Shelf Go.WideElems

def blind (_ : Value) : Option (DataW Unit × List MemPlace) := some (.agg [], [])
theorem Mp.owns {P : Program} {k : TypeId} {w : World} {b : Nat} {l : Ents} (h : Mp w b l) (hk : P.underlying k = some .string) (hs : ∀ x ∈ keysL l, x.size ≤ maxLen) (hl : l.length ≤ maxLen) :
    ∃ D, w.ownsMap P k blind b l.length D ∧ Maps.size D = l.length ∧ (strKeys D).Perm ((keysL l).map fun x => x.data.toList) := by
  obtain ⟨es, clock, hb, hst, he⟩ := h
  have hlen := ents_len he
  have hread : ∀ e ∈ es.toList, ∃ x, e.key = .string x ∧ x ∈ keysL l ∧ rd P k blind e = some (.string x.data.toList, .agg []) := fun e hm => by
    obtain ⟨j, hj⟩ := List.mem_iff_getElem?.1 hm
    obtain ⟨p, hp, hk', _⟩ := ents_key he hj
    have hx : p.1 ∈ keysL l := List.mem_map.2 ⟨p, List.mem_of_getElem? hp, rfl⟩
    refine ⟨p.1, hk', hx, ?_⟩
    cases e with
    | mk key val born =>
      simp only at hk'; subst hk'
      exact rd_mk (R := blind) (yv := (.agg [], [])) (WideMaps.keyOf_string_mk hk (hs _ hx)) rfl
  refine ⟨_, ⟨es, clock, hb, ⟨by simp at hlen; omega, hst, fun e hm => ⟨_, (hread e hm).choose_spec.2.2⟩⟩, by simp at hlen; omega, rfl⟩, ?_, ?_⟩
  · simp [Maps.size, length_sorted] at hlen ⊢; exact hlen
  · have h1 : (strKeys (DataW.map ((es.toList.map (rg P k blind)).foldr DataW.insert []))).Perm ((es.toList.map (rg P k blind)).map fun p => strOf p.1) := (WideShapes.sorted_perm _).map _
    refine h1.trans (List.Perm.of_eq ?_)
    rw [List.map_map]
    have h2 : (keysL l).map (fun x => x.data.toList) = es.toList.map fun e => match e.key with | .string s => s.data.toList | _ => [] := by
      have := congrArg (List.map fun p : Value × Value => match p.1 with | .string s => s.data.toList | _ => []) he
      simp only [entsOf, List.map_map, Function.comp_def] at this
      rw [this]
      simp [keysL, Function.comp_def]
    rw [h2]
    refine List.map_congr_left fun e hm => ?_
    obtain ⟨x, hx, _, hr⟩ := hread e hm
    simp only [Function.comp, rg_of hr, strOf, hx]

def bsOf (l : List UInt8) : BS := ⟨l.toArray⟩
theorem bsOf_inj {a b : List UInt8} (h : bsOf a = bsOf b) : a = b := by
  have := congrArg (fun x : BS => x.data.toList) h
  simpa [bsOf] using this
theorem sorted_keys (L : List BS) (hn : L.Nodup) (ss : List (List UInt8)) (hp : ss.Perm (L.map fun x => x.data.toList)) :
    ((ss.mergeSort fun x y => decide (x ≤ y)).map bsOf).Pairwise BLt ∧ ∀ x, x ∈ (ss.mergeSort fun x y => decide (x ≤ y)).map bsOf ↔ x ∈ L := by
  have tr : ∀ a b c : List UInt8, decide (a ≤ b) = true → decide (b ≤ c) = true → decide (a ≤ c) = true := fun a b c h1 h2 => by simp only [decide_eq_true_eq] at *; exact List.le_trans h1 h2
  have to : ∀ a b : List UInt8, (decide (a ≤ b) || decide (b ≤ a)) = true := fun a b => by simp only [Bool.or_eq_true, decide_eq_true_eq]; exact List.le_total a b
  have hs := List.pairwise_mergeSort tr to ss
  have hperm := (List.mergeSort_perm ss fun x y => decide (x ≤ y)).trans hp
  have hnd : (ss.mergeSort fun x y => decide (x ≤ y)).Nodup := hperm.nodup_iff.2 (List.pairwise_map.2 (hn.imp fun {a b} hab e => hab (bs_ext e)))
  refine ⟨?_, fun x => ?_⟩
  · rw [List.pairwise_map]
    refine (hs.and hnd).imp ?_
    rintro a b ⟨h1, h2⟩
    simp only [decide_eq_true_eq] at h1
    show (bsOf a).data.toList < (bsOf b).data.toList
    simp only [bsOf, List.toList_toArray]
    exact Decidable.byContradiction fun h => h2 (List.le_antisymm h1 h)
  · constructor
    · intro h
      obtain ⟨a, ha, rfl⟩ := List.mem_map.1 h
      obtain ⟨y, hy, rfl⟩ := List.mem_map.1 (hperm.mem_iff.1 ha)
      have : bsOf y.data.toList = y := bs_ext (by simp [bsOf])
      rw [this]; exact hy
    · intro h
      refine List.mem_map.2 ⟨x.data.toList, hperm.mem_iff.2 (List.mem_map.2 ⟨x, h, rfl⟩), bs_ext (by simp [bsOf])⟩

/-- slices.Sort's two contracts here. -/
theorem sortsA (m : Nat) : AnyZ.SortsIn Tryz.prog Tryz.laySorted_ren Fence.wide m :=
  ⟨fun blk off cap ss W hH hblk hsz => callsIn_wide.2 (AnyM.slices_Sort_string Tryz.laySort blk off cap ss W hH hblk hsz),
   fun p cap W => callsIn_wide.2 (AnyM.slices_Sort_string_none Tryz.laySort p cap W)⟩

theorem keys46 (b : Nat) (w : World) : Calls Tryz.prog 149 #[.map (some b)] w fun e w' => e = .returned (.func (.func 218) #[] #[.pointer (some ⟨w.heap.size, 0, none⟩)]) ∧ w' = w.alloc (.cells #[.map (some b)] 224) :=
  (callsIn_wide (n := 5)).1 (AnyZ.keys_in Tryz.layKeysI Fence.wide 5 trivial rfl (some b) w)

theorem sorted45 (b : Nat) (l : Ents) (w : World) (h : Mp w b l) (hs : ∀ x ∈ keysL l, x.size ≤ 1000000) (hl : l.length ≤ 1000000) :
    Calls Tryz.prog 148 #[.func (.func 218) #[] #[.pointer (some ⟨w.heap.size, 0, none⟩)]] (w.alloc (.cells #[.map (some b)] 224)) fun e w' =>
      ∃ v xs, e = .returned v ∧ Strs w' v xs ∧ xs.Pairwise BLt ∧ (∀ x, x ∈ xs ↔ x ∈ keysL l) ∧ Fr [] (w.alloc (.cells #[.map (some b)] 224)) w' := by
  obtain ⟨D, hown, hsize, hperm⟩ := h.owns Tryz.underlying9 (fun x hx => Nat.le_trans (hs x hx) (by decide)) (Nat.le_trans hl (by decide))
  have hbl := hown.lt
  have hseq : SeqGives Fence.wide 2 Tryz.prog 218 #[.pointer (some ⟨w.heap.size, 0, none⟩)] encStr (fun ss => ss.Perm (strKeys D)) (Maps.size D) (w.alloc (.cells #[.map (some b)] 224)) :=
    AnyZ.keys_gives (ρ := Tryz.layKeysI_ren) { Tryz.layKeysI with } Fence.wide _ trivial rfl (by omega) w.heap.size b l.length D _ (by simp) (by simp) (hown.alloc _)
  have cS := AnyZ.sorted_in Tryz.laySorted Fence.wide 5 trivial trivial trivial trivial rfl (by omega) (sortsA _) (enters_of Tryz.func80 (by kernel_rfl) rfl) 218 #[.pointer (some ⟨w.heap.size, 0, none⟩)] trivial (enters_of Tryz.func218 (by kernel_rfl) rfl) _ _ (by rw [hsize]; exact Nat.le_trans hl (by decide)) (by rw [hsize]; omega) _ hseq
  refine Calls.mono ((callsIn_wide (n := 5)).1 cS) ?_
  rintro e w' ⟨v, ss, rfl, hS, hrow, _, hb⟩
  obtain ⟨h1, h2⟩ := sorted_keys (keysL l) h.nodup ss (hS.trans hperm)
  refine ⟨v, _, rfl, ?_, h1, h2, Fr.of_below hb⟩
  have e1 : (ss.mergeSort fun x y => decide (x ≤ y)).map encStr = ((ss.mergeSort fun x y => decide (x ≤ y)).map bsOf).map Value.string := by
    rw [List.map_map]; rfl
  rw [e1] at hrow
  have hll : ss.length = ((ss.mergeSort fun x y => decide (x ≤ y)).map bsOf).length := by simp
  rw [hll] at hrow
  have h3 := hS.length_eq
  have h4 := hperm.length_eq
  simp [keysL] at h4
  exact Strs.of_own hrow (by simp; omega)
end Go.Proofs.YtppgjglfoibfcaaGreat
