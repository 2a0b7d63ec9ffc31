import Derived.Test.YtppgjglfoibfcaaGreatRef16
import Derived.Deep.Slices
import Derived.SizedLaws
import Derived.Test.YtppgjglfoibfcaaGreatReg1
set_option linter.unusedSimpArgs false
set_option linter.unusedVariables false
/-
  What comes in, opened: slices of whatever elements, texts, structs.
-/
namespace Go.Proofs.YtppgjglfoibfcaaGreat
open Go.RowKit Go.ChangeShapes Go.Deep

section
variable {H : Type} {enc : TypeId × Value → H} {P : Program} {w : World} {base : Nat} {spare : Nat → Bool} {held : Bool}

def SmallD (P : Program) (t : TypeId) (d : DataW H) : Prop := ∀ n ∈ d.weights P t, n ≤ reachBytes
theorem weights_all {e : TypeId} : ∀ {l : List (DataW H)} {d : DataW H}, d ∈ l → ∀ n ∈ d.weights P e, n ∈ DataW.weightsAll P e l
  | d0 :: l, d, hd, n, hn => by
    simp only [DataW.weightsAll, List.mem_append]
    rcases List.mem_cons.1 hd with rfl | hd
    · exact .inl hn
    · exact .inr (weights_all hd n hn)

theorem open_sl {t e : TypeId} {fuel size bytes : Nat} {cs : List Value} {x : DataW H × List MemPlace} (ht : P.underlying t = some (.slice e)) (hc : P.cellsOf e = size) (hb : P.bytesOf e = bytes) (hs0 : 0 < size) (hb0 : 0 < bytes)
    (h : DataW.trod enc P w base spare held fuel t cs = some x) (hz : SmallD P t x.1) :
    ∃ (a : Option Addr) (n c : Nat) (cells : List Value), cs = [.slice a n c] ∧ Sl w (.slice a n c) n size cells ∧ n * bytes ≤ reachBytes ∧
      ∀ i, i < n → ∃ (m : Nat) (y : DataW H × List MemPlace), DataW.trod enc P w base spare held m e ((cells.drop (i * size)).take size) = some y ∧ SmallD P e y.1 := by
  subst hc
  subst hb
  rcases open_slice ht h with ⟨rfl, rfl⟩ | ⟨a, len, cap, m, n, D, Pl, rfl, hbs, hl, hm, hmm, rfl, hi⟩
  · exact ⟨none, 0, 0, [], rfl, Sl.nil w _, by simp [reachBytes], fun i hi => absurd hi (Nat.not_lt_zero _)⟩
  · have hlm : len ≤ m := by subst hmm; split <;> omega
    have hwt : (len + (m - len)) * P.bytesOf e ≤ reachBytes := hz _ (by simp [DataW.weights, ht])
    have hwl : len * P.bytesOf e ≤ reachBytes := Nat.le_trans (Nat.mul_le_mul_right _ (by omega)) hwt
    have hln : len ≤ 140737488355328 := by
      have : len * 1 ≤ len * P.bytesOf e := Nat.mul_le_mul_left _ hb0
      have : reachBytes ≤ 140737488355328 := by decide
      omega
    have key : ∀ j, j < len * P.cellsOf e → ∃ u, w.cell? (a.add j) = some u := by
      intro j hj
      have hq : j / P.cellsOf e < len := Nat.div_lt_of_lt_mul (by rw [Nat.mul_comm]; exact hj)
      obtain ⟨cs', h1, _⟩ := hi (j / P.cellsOf e) (by omega)
      obtain ⟨_, hcl, hat⟩ := World.cells?_some h1
      have hr := Nat.mod_lt j hs0
      have := hat (j % P.cellsOf e) hr
      rw [Go.Deep.add_add, Nat.div_add_mod' j (P.cellsOf e)] at this
      exact ⟨cs'[j % P.cellsOf e]'(by omega), by rw [this]; exact List.getElem?_eq_getElem _⟩
    have cellsEq : ∀ j, j < len * P.cellsOf e → ((List.range (len * P.cellsOf e)).map fun j => (w.cell? (a.add j)).getD undef)[j]? = w.cell? (a.add j) := by
      intro j hj
      obtain ⟨u, hu⟩ := key j hj
      rw [List.getElem?_map, List.getElem?_range hj, hu]; simp [hu]
    refine ⟨some a, len, cap, (List.range (len * P.cellsOf e)).map fun j => (w.cell? (a.add j)).getD undef, rfl, ⟨by simp, hln, some a, cap, rfl, hl, hm, (fun e => by cases e), fun h0 => ?_⟩, hwl, fun i hil => ?_⟩
    · have hpos : 0 < len * P.cellsOf e := Nat.mul_pos h0 hs0
      obtain ⟨u, hu⟩ := key 0 hpos
      have hsp : a.spot = none := by
        have h1 : a.add 0 = a := by simp [Addr.add]
        rw [h1] at hu
        unfold World.cell? at hu
        split at hu
        · split at hu
          · cases hu
          · rename_i h2; simpa using h2
        · cases hu
      obtain ⟨b, o, sp⟩ := a
      simp only at hsp
      subst hsp
      refine ⟨b, o, rfl, fun i x hx => ?_⟩
      have hil : i < len * P.cellsOf e := by have := lt_of_getElem? hx; simpa using this
      rw [cellsEq i hil, Addr.add_lit] at hx
      exact hx
    · obtain ⟨cs', h1, h2⟩ := hi i (by omega)
      obtain ⟨_, hcl, hat⟩ := World.cells?_some h1
      have hE : (((List.range (len * P.cellsOf e)).map fun j => (w.cell? (a.add j)).getD undef).drop (i * P.cellsOf e)).take (P.cellsOf e) = cs' := by
        apply List.ext_getElem?
        intro j
        rw [List.getElem?_take]
        split
        · rename_i hj
          have hle : i * P.cellsOf e + P.cellsOf e ≤ len * P.cellsOf e := by rw [← Nat.succ_mul]; exact Nat.mul_le_mul_right _ hil
          rw [List.getElem?_drop, cellsEq _ (by omega), ← hat j hj, Go.Deep.add_add]
        · rw [List.getElem?_eq_none (by omega)]
      refine ⟨n, (D i, Pl i), by rw [hE]; exact h2, fun k hk => hz k ?_⟩
      simp only [DataW.weights, ht, List.mem_cons, List.mem_append]
      exact .inr (.inl (weights_all (List.mem_map.2 ⟨i, List.mem_range.2 hil, rfl⟩) k hk))

theorem open_str {t : TypeId} {fuel : Nat} {cs : List Value} {x : DataW H × List MemPlace} (ht : P.underlying t = some .string) (h : DataW.trod enc P w base spare held fuel t cs = some x) (hz : SmallD P t x.1) :
    ∃ s : BS, cs = [.string s] ∧ s.size ≤ reachBytes := by
  obtain ⟨s, rfl, rfl, _⟩ := DataW.trod_string ht h
  exact ⟨s, rfl, hz _ (by simp [DataW.weights])⟩

theorem open_field {t : TypeId} {fs : Array Field} {fuel : Nat} {cs : List Value} {x : DataW H × List MemPlace} (ht : P.underlying t = some (.struct fs)) (h : DataW.trod enc P w base spare held fuel t cs = some x) (hz : SmallD P t x.1)
    (i : Nat) (f : Field) (hf : fs[i]? = some f) : ∃ (m : Nat) (y : DataW H × List MemPlace), DataW.trod enc P w base spare held m f.type ((cs.drop f.offset).take (P.cellsOf f.type)) = some y ∧ SmallD P f.type y.1 := by
  obtain ⟨xs, n, _, rfl, hl, hxs, hfs⟩ := DataW.trod_struct ht h
  have hi : i < xs.length := by rw [hxs]; exact (Array.getElem?_eq_some_iff.1 hf).1
  refine ⟨n, xs[i], by rw [hfs i f hf]; exact List.getElem?_eq_getElem hi, fun k hk => hz k ?_⟩
  simp only [DataW.weights, ht]
  exact DataW.weights_mem_each (j := i) (t := f.type) (d := (xs[i]).1) (by simp [hf]) (by simp [List.getElem?_eq_getElem hi]) k hk

def strV : Value → BS | .string s => s | _ => ByteArray.empty
theorem open_strs {t e : TypeId} {fuel : Nat} {cs : List Value} {x : DataW H × List MemPlace} (ht : P.underlying t = some (.slice e)) (he : P.underlying e = some .string) (hc : P.cellsOf e = 1) (hb : P.bytesOf e = 16)
    (h : DataW.trod enc P w base spare held fuel t cs = some x) (hz : SmallD P t x.1) :
    ∃ (v : Value) (xs : List BS), cs = [v] ∧ Strs w v xs ∧ xs.length * 16 ≤ reachBytes ∧ ∀ s ∈ xs, s.size ≤ reachBytes := by
  obtain ⟨a, n, c, cells, rfl, hs, hn, hi⟩ := open_sl ht hc hb (by decide) (by decide) h hz
  have hl : cells.length = n := by have := hs.1; omega
  have each : ∀ i, i < n → ∃ s : BS, cells[i]? = some (.string s) ∧ s.size ≤ reachBytes := by
    intro i hin
    obtain ⟨m, y, h1, h2⟩ := hi i hin
    obtain ⟨s, h3, h4⟩ := open_str he h1 h2
    refine ⟨s, ?_, h4⟩
    have := congrArg (fun l => l[0]?) h3
    simpa using this
  have hmap : (cells.map strV).map Value.string = cells := by
    rw [List.map_map]
    conv => rhs; rw [← List.map_id cells]
    refine List.map_congr_left fun u hu => ?_
    obtain ⟨i, hiu⟩ := List.mem_iff_getElem?.1 hu
    obtain ⟨s, h1, _⟩ := each i (by have := lt_of_getElem? hiu; omega)
    rw [hiu] at h1
    cases h1
    rfl
  refine ⟨_, cells.map strV, rfl, ?_, by simpa [hl] using hn, fun s hs' => ?_⟩
  · unfold Strs
    rw [hmap, List.length_map, hl]
    exact hs
  · obtain ⟨u, hu, rfl⟩ := List.mem_map.1 hs'
    obtain ⟨i, hiu⟩ := List.mem_iff_getElem?.1 hu
    obtain ⟨s, h1, h2⟩ := each i (by have := lt_of_getElem? hiu; omega)
    rw [hiu] at h1
    cases h1
    exact h2

/-- A slice of structs of an ID and predecessors. -/
theorem open_nodes {t e ts : TypeId} {f0 f1 : Field} {fuel : Nat} {cs : List Value} {x : DataW H × List MemPlace} (ht : P.underlying t = some (.slice e)) (he : P.underlying e = some (.struct #[f0, f1])) (hc : P.cellsOf e = 2) (hb : P.bytesOf e = 40)
    (h0 : P.underlying f0.type = some .string) (ho0 : f0.offset = 0) (hc0 : P.cellsOf f0.type = 1) (h1 : P.underlying f1.type = some (.slice ts)) (ho1 : f1.offset = 1) (hc1 : P.cellsOf f1.type = 1)
    (hts : P.underlying ts = some .string) (hcs : P.cellsOf ts = 1) (hbs : P.bytesOf ts = 16)
    (h : DataW.trod enc P w base spare held fuel t cs = some x) (hz : SmallD P t x.1) :
    ∃ (v : Value) (L : List Nd), cs = [v] ∧ Nodes w v L := by
  obtain ⟨a, n, c, cells, rfl, hs, hn, hi⟩ := open_sl ht hc hb (by decide) (by decide) h hz
  have each : ∀ i, i < n → ∃ (nd : Nd) (pv : Value), cells[i * 2]? = some (.string nd.id) ∧ cells[i * 2 + 1]? = some pv ∧ Strs w pv nd.preds := by
    intro i hin
    obtain ⟨m, y, h2, h3⟩ := hi i hin
    obtain ⟨m0, y0, h4, h5⟩ := open_field he h2 h3 0 f0 (by simp)
    obtain ⟨m1, y1, h6, h7⟩ := open_field he h2 h3 1 f1 (by simp)
    rw [hc0] at h4
    rw [hc1] at h6
    obtain ⟨s, h8, _⟩ := open_str h0 h4 h5
    obtain ⟨pv, ps, h9, h10, _, _⟩ := open_strs h1 hts hcs hbs h6 h7
    refine ⟨⟨s, ps⟩, pv, ?_, ?_, h10⟩
    · have := congrArg (fun l => l[0]?) h8
      simpa [ho0] using this
    · have := congrArg (fun l => l[0]?) h9
      simpa [ho1] using this
  have hch : ∃ f : Nat → Nd, ∀ i, i < n → ∃ pv, cells[i * 2]? = some (.string (f i).id) ∧ cells[i * 2 + 1]? = some pv ∧ Strs w pv (f i).preds := by
    classical
    refine ⟨fun i => if hi : i < n then Classical.choose (each i hi) else ⟨ByteArray.empty, []⟩, fun i hi => ?_⟩
    simp only [dif_pos hi]
    exact Classical.choose_spec (each i hi)
  obtain ⟨f, hf⟩ := hch
  refine ⟨_, (List.range n).map f, rfl, cells, by simpa using hs, fun i nd hnd => ?_⟩
  have hin : i < n := by have := lt_of_getElem? hnd; simpa using this
  rw [List.getElem?_map, List.getElem?_range hin] at hnd
  cases hnd
  exact hf i hin
end
end Go.Proofs.YtppgjglfoibfcaaGreat

set_option linter.unusedSimpArgs false
set_option linter.unusedVariables false
/-
  What comes in, opened: slices of structs; deeds, rows.
-/
namespace Go.Proofs.YtppgjglfoibfcaaGreat
open Go.RowKit Go.ChangeShapes Go.Deep

theorem list_blocks {α : Type} {k : Nat} {enc : α → List Value} (he : ∀ x, (enc x).length = k) {n : Nat} {cells : List Value} {f : Nat → α} (hl : cells.length = n * k) (h : ∀ i, i < n → (cells.drop (i * k)).take k = enc (f i)) :
    cells = ((List.range n).map f).flatMap enc := by
  have hl2 := flat_len he ((List.range n).map f)
  rw [List.length_map, List.length_range] at hl2
  apply List.ext_getElem?
  intro t
  by_cases ht : t < n * k
  · have hk : 0 < k := by rcases Nat.eq_zero_or_pos k with h | h; (subst h; simp at ht); exact h
    have hd : t / k < n := Nat.div_lt_of_lt_mul (by rw [Nat.mul_comm]; exact ht)
    have hm : t % k < k := Nat.mod_lt _ hk
    have hte : t / k * k + t % k = t := by rw [Nat.mul_comm]; exact Nat.div_add_mod t k
    have h1 := flat_get he (xs := (List.range n).map f) (i := t / k) (x := f (t / k)) (by rw [List.getElem?_map, List.getElem?_range hd]; rfl) hm
    rw [hte] at h1
    rw [h1, ← h _ hd, List.getElem?_take_of_lt hm, List.getElem?_drop, hte]
  · rw [List.getElem?_eq_none (by omega), List.getElem?_eq_none (by omega)]
section
variable {H : Type} {enc : TypeId × Value → H} {P : Program} {w : World} {base : Nat} {spare : Nat → Bool} {held : Bool}
theorem open_recs {α : Type} [Inhabited α] {k : Nat} {en : α → List Value} (he : ∀ x, (en x).length = k) {t e : TypeId} {fuel bytes : Nat} {cs : List Value} {x : DataW H × List MemPlace} (ht : P.underlying t = some (.slice e)) (hc : P.cellsOf e = k) (hb : P.bytesOf e = bytes) (hk : 0 < k) (hb0 : 0 < bytes)
    (each : ∀ (m : Nat) (y : DataW H × List MemPlace) (cs' : List Value), DataW.trod enc P w base spare held m e cs' = some y → SmallD P e y.1 → ∃ a : α, cs' = en a)
    (h : DataW.trod enc P w base spare held fuel t cs = some x) (hz : SmallD P t x.1) :
    ∃ (v : Value) (xs : List α), cs = [v] ∧ Recs k en w v xs := by
  obtain ⟨a, n, c, cells, rfl, hs, hn, hi⟩ := open_sl ht hc hb hk hb0 h hz
  have hch : ∃ f : Nat → α, ∀ i, i < n → (cells.drop (i * k)).take k = en (f i) := by
    classical
    have h1 : ∀ i, i < n → ∃ a : α, (cells.drop (i * k)).take k = en a := fun i hi' => by obtain ⟨m, y, h2, h3⟩ := hi i hi'; exact each m y _ h2 h3
    refine ⟨fun i => if hi : i < n then Classical.choose (h1 i hi) else default, fun i hi' => ?_⟩
    simp only [dif_pos hi']
    exact Classical.choose_spec (h1 i hi')
  obtain ⟨f, hf⟩ := hch
  have hcells := list_blocks he hs.1 hf
  refine ⟨_, (List.range n).map f, rfl, ?_⟩
  unfold Recs
  rw [← hcells]
  simpa using hs
theorem open_bool1 {t : TypeId} {fuel : Nat} {cs : List Value} {x : DataW H × List MemPlace} (ht : P.underlying t = some .bool) (h : DataW.trod enc P w base spare held fuel t cs = some x) : ∃ b : Bool, cs = [.bool b] := by
  obtain ⟨s, rfl, _⟩ := DataW.trod_bool ht h
  exact ⟨s, rfl⟩
theorem take_one {cs : List Value} {o : Nat} {v : Value} (h : (cs.drop o).take 1 = [v]) : cs[o]? = some v := by
  have := congrArg (fun l => l[0]?) h
  simpa using this
theorem open_int1 {t : TypeId} {k : IntKind} {fuel : Nat} {cs : List Value} {x : DataW H × List MemPlace} (ht : P.underlying t = some (.int k)) (h : DataW.trod enc P w base spare held fuel t cs = some x) : ∃ n : Int, cs = [.int k n] := by
  obtain ⟨n, rfl, _⟩ := DataW.trod_int ht h
  exact ⟨n, rfl⟩
theorem cells_eq {cs : List Value} {l : List Value} (h : cs.length = l.length) (g : ∀ (i : Nat) (v : Value), l[i]? = some v → cs[i]? = some v) : cs = l := by
  apply List.ext_getElem?
  intro i
  cases hv : l[i]? with
  | some v => exact g i v hv
  | none => exact List.getElem?_eq_none (by rw [h]; exact List.getElem?_eq_none_iff.1 hv)
theorem trod_len {t : TypeId} {fs : Array Field} {fuel : Nat} {cs : List Value} {x : DataW H × List MemPlace} (ht : P.underlying t = some (.struct fs)) (h : DataW.trod enc P w base spare held fuel t cs = some x) : cs.length = P.cellsOf t := by
  obtain ⟨xs, n, _, rfl, hl, hxs, hfs⟩ := DataW.trod_struct ht h
  exact hl
end
instance ddInh : Inhabited Dd := ⟨⟨false, ⟨#[]⟩, ⟨#[]⟩, ⟨#[]⟩⟩⟩
instance rwInh : Inhabited Rw := ⟨⟨0, ⟨#[]⟩, ⟨#[]⟩, 0, ⟨#[]⟩, ⟨#[]⟩, false⟩⟩
section
variable {H : Type} {enc : TypeId × Value → H} {w : World} {base : Nat} {spare : Nat → Bool} {held : Bool}
theorem open_deeds {fuel : Nat} {cs : List Value} {x : DataW H × List MemPlace} (h : DataW.trod enc Tryz.prog w base spare held fuel 23 cs = some x) (hz : SmallD Tryz.prog 23 x.1) :
    ∃ (v : Value) (xs : List Dd), cs = [v] ∧ Deeds w v xs := by
  have hcB : Tryz.prog.cellsOf 4 = 1 := by kernel_rfl
  have hcS : Tryz.prog.cellsOf 9 = 1 := by kernel_rfl
  refine open_recs lenDd Tryz.underlying23 (by kernel_rfl) (bytes := 56) (by kernel_rfl) (by decide) (by decide) (fun m y cs' h1 h2 => ?_) h hz
  have he := Tryz.underlying42
  have hlen := trod_len he h1
  rw [show Tryz.prog.cellsOf 42 = 4 by kernel_rfl] at hlen
  obtain ⟨m0, y0, a0, b0⟩ := open_field he h1 h2 0 _ rfl
  obtain ⟨m1, y1, a1, b1⟩ := open_field he h1 h2 1 _ rfl
  obtain ⟨m2, y2, a2, b2⟩ := open_field he h1 h2 2 _ rfl
  obtain ⟨m3, y3, a3, b3⟩ := open_field he h1 h2 3 _ rfl
  have a0 : DataW.trod enc Tryz.prog w base spare held m0 4 ((cs'.drop 0).take (Tryz.prog.cellsOf 4)) = some y0 := a0
  have b0 : SmallD Tryz.prog 4 y0.1 := b0
  have a1 : DataW.trod enc Tryz.prog w base spare held m1 9 ((cs'.drop 1).take (Tryz.prog.cellsOf 9)) = some y1 := a1
  have b1 : SmallD Tryz.prog 9 y1.1 := b1
  have a2 : DataW.trod enc Tryz.prog w base spare held m2 9 ((cs'.drop 2).take (Tryz.prog.cellsOf 9)) = some y2 := a2
  have b2 : SmallD Tryz.prog 9 y2.1 := b2
  have a3 : DataW.trod enc Tryz.prog w base spare held m3 9 ((cs'.drop 3).take (Tryz.prog.cellsOf 9)) = some y3 := a3
  have b3 : SmallD Tryz.prog 9 y3.1 := b3
  rw [hcB] at a0
  rw [hcS] at a1 a2 a3
  obtain ⟨v0, e0⟩ := open_bool1 Tryz.underlying4 a0
  obtain ⟨v1, e1, _⟩ := open_str Tryz.underlying9 a1 b1
  obtain ⟨v2, e2, _⟩ := open_str Tryz.underlying9 a2 b2
  obtain ⟨v3, e3, _⟩ := open_str Tryz.underlying9 a3 b3
  refine ⟨⟨v0, v1, v2, v3⟩, cells_eq hlen fun i v hv => ?_⟩
  match i, hv, lt_of_getElem? hv with
  | 0, hv, _ => simp [encDd] at hv; subst hv; exact take_one e0
  | 1, hv, _ => simp [encDd] at hv; subst hv; exact take_one e1
  | 2, hv, _ => simp [encDd] at hv; subst hv; exact take_one e2
  | 3, hv, _ => simp [encDd] at hv; subst hv; exact take_one e3
  | i + 4, _, h => simp [encDd] at h; omega
theorem open_rows {fuel : Nat} {cs : List Value} {x : DataW H × List MemPlace} (h : DataW.trod enc Tryz.prog w base spare held fuel 35 cs = some x) (hz : SmallD Tryz.prog 35 x.1) :
    ∃ (v : Value) (xs : List Rw), cs = [v] ∧ RowsR w v xs := by
  have hcB : Tryz.prog.cellsOf 4 = 1 := by kernel_rfl
  have hcS : Tryz.prog.cellsOf 9 = 1 := by kernel_rfl
  have hcI : Tryz.prog.cellsOf 3 = 1 := by kernel_rfl
  refine open_recs lenRw Tryz.underlying35 (by kernel_rfl) (bytes := 88) (by kernel_rfl) (by decide) (by decide) (fun m y cs' h1 h2 => ?_) h hz
  have he := Tryz.underlying56
  have hlen := trod_len he h1
  rw [show Tryz.prog.cellsOf 56 = 7 by kernel_rfl] at hlen
  obtain ⟨m0, y0, a0, b0⟩ := open_field he h1 h2 0 _ rfl
  obtain ⟨m1, y1, a1, b1⟩ := open_field he h1 h2 1 _ rfl
  obtain ⟨m2, y2, a2, b2⟩ := open_field he h1 h2 2 _ rfl
  obtain ⟨m3, y3, a3, b3⟩ := open_field he h1 h2 3 _ rfl
  obtain ⟨m4, y4, a4, b4⟩ := open_field he h1 h2 4 _ rfl
  obtain ⟨m5, y5, a5, b5⟩ := open_field he h1 h2 5 _ rfl
  obtain ⟨m6, y6, a6, b6⟩ := open_field he h1 h2 6 _ rfl
  have a0 : DataW.trod enc Tryz.prog w base spare held m0 3 ((cs'.drop 0).take (Tryz.prog.cellsOf 3)) = some y0 := a0
  have b0 : SmallD Tryz.prog 3 y0.1 := b0
  have a1 : DataW.trod enc Tryz.prog w base spare held m1 9 ((cs'.drop 1).take (Tryz.prog.cellsOf 9)) = some y1 := a1
  have b1 : SmallD Tryz.prog 9 y1.1 := b1
  have a2 : DataW.trod enc Tryz.prog w base spare held m2 9 ((cs'.drop 2).take (Tryz.prog.cellsOf 9)) = some y2 := a2
  have b2 : SmallD Tryz.prog 9 y2.1 := b2
  have a3 : DataW.trod enc Tryz.prog w base spare held m3 3 ((cs'.drop 3).take (Tryz.prog.cellsOf 3)) = some y3 := a3
  have b3 : SmallD Tryz.prog 3 y3.1 := b3
  have a4 : DataW.trod enc Tryz.prog w base spare held m4 9 ((cs'.drop 4).take (Tryz.prog.cellsOf 9)) = some y4 := a4
  have b4 : SmallD Tryz.prog 9 y4.1 := b4
  have a5 : DataW.trod enc Tryz.prog w base spare held m5 9 ((cs'.drop 5).take (Tryz.prog.cellsOf 9)) = some y5 := a5
  have b5 : SmallD Tryz.prog 9 y5.1 := b5
  have a6 : DataW.trod enc Tryz.prog w base spare held m6 4 ((cs'.drop 6).take (Tryz.prog.cellsOf 4)) = some y6 := a6
  have b6 : SmallD Tryz.prog 4 y6.1 := b6
  rw [hcI] at a0 a3
  rw [hcS] at a1 a2 a4 a5
  rw [hcB] at a6
  obtain ⟨v0, e0⟩ := open_int1 Tryz.underlying3 a0
  obtain ⟨v1, e1, _⟩ := open_str Tryz.underlying9 a1 b1
  obtain ⟨v2, e2, _⟩ := open_str Tryz.underlying9 a2 b2
  obtain ⟨v3, e3⟩ := open_int1 Tryz.underlying3 a3
  obtain ⟨v4, e4, _⟩ := open_str Tryz.underlying9 a4 b4
  obtain ⟨v5, e5, _⟩ := open_str Tryz.underlying9 a5 b5
  obtain ⟨v6, e6⟩ := open_bool1 Tryz.underlying4 a6
  refine ⟨⟨v0, v1, v2, v3, v4, v5, v6⟩, cells_eq hlen fun i v hv => ?_⟩
  match i, hv, lt_of_getElem? hv with
  | 0, hv, _ => simp [encRw, Rw.cells] at hv; subst hv; exact take_one e0
  | 1, hv, _ => simp [encRw, Rw.cells] at hv; subst hv; exact take_one e1
  | 2, hv, _ => simp [encRw, Rw.cells] at hv; subst hv; exact take_one e2
  | 3, hv, _ => simp [encRw, Rw.cells] at hv; subst hv; exact take_one e3
  | 4, hv, _ => simp [encRw, Rw.cells] at hv; subst hv; exact take_one e4
  | 5, hv, _ => simp [encRw, Rw.cells] at hv; subst hv; exact take_one e5
  | 6, hv, _ => simp [encRw, Rw.cells] at hv; subst hv; exact take_one e6
  | i + 7, _, h => simp [encRw, Rw.cells] at h; omega
end
end Go.Proofs.YtppgjglfoibfcaaGreat
