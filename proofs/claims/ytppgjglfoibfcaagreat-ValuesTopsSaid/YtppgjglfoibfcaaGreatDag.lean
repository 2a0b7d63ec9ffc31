import Derived.Test.YtppgjglfoibfcaaGreatPast
import Derived.Test.YtppgjglfoibfcaaGreatAdd16
import Derived.Test.YtppgjglfoibfcaaGreatMaps
import Derived.Test.YtppgjglfoibfcaaGreatLib
set_option linter.unusedSimpArgs false
set_option linter.unusedVariables false
/-
  Package dag: what lies in memory, and what is asked of it.
-/
namespace Go.Proofs.YtppgjglfoibfcaaGreat
open Go.RowKit

def zeroNode : Value := .agg #[.slice none 0 0, .slice none 0 0, .int .i64 0]
/-- The world has drawn and grown, no more. -/
def Gr (w w' : World) : Prop := ∃ n os, w' = Go.Sort.grow (w.drewN n) os
theorem Gr.refl (w : World) : Gr w w := ⟨0, #[], by simp [Go.Sort.grow]; rfl⟩
theorem Gr.alloc {w w' : World} (h : Gr w w') (o : Obj) : Gr w (w'.alloc o) := by
  obtain ⟨n, os, rfl⟩ := h
  exact ⟨n, os ++ #[o], by rw [Go.Sort.alloc_eq_grow, Go.Sort.grow_grow]⟩
theorem Gr.trans {w w1 w2 : World} (h : Gr w w1) (k : Gr w1 w2) : Gr w w2 := by
  obtain ⟨n, os, rfl⟩ := h
  obtain ⟨m, os', rfl⟩ := k
  refine ⟨n + m, os ++ os', ?_⟩
  rw [← World.drewN_drewN]
  show Go.Sort.grow (Go.Sort.grow ((w.drewN n).drewN m) os) os' = _
  rw [Go.Sort.grow_grow]
theorem Gr.drew {w w' : World} (h : Gr w w') : Gr w w'.drew := h.trans ⟨1, #[], by simp [Go.Sort.grow]; rfl⟩
theorem Gr.pre : Pre Gr := ⟨Gr.refl, fun h k => h.trans k⟩
theorem Gr.fr {w w' : World} (h : Gr w w') : Fr [] w w' := by
  obtain ⟨n, os, rfl⟩ := h
  exact ⟨rfl, rfl, rfl, by simp [Go.Sort.grow, World.drewN], fun k hk _ => by simp [Go.Sort.grow, World.drewN, Array.getElem?_append, hk], fun _ h => by simp at h, fun _ h => by simp at h⟩
/-- What a map's element tells of x. -/
def NodeV (w : World) (v : Value) (g : G) (x : BS) : Prop := ∃ pv kv, v = .agg #[pv, kv, .int .i64 (depth g x : Nat)] ∧ Strs w pv (preds g x) ∧ Strs w kv (kids g x)
theorem NodeV.fr {S : List Nat} {w w' : World} {v : Value} {g : G} {x : BS} (h : NodeV w v g x) (hf : Fr S w w') : NodeV w' v g x := by
  obtain ⟨pv, kv, h1, h2, h3⟩ := h; exact ⟨pv, kv, h1, h2.fr hf, h3.fr hf⟩

theorem NodeV.form {w : World} {v : Value} {g : G} {x : BS} (h : NodeV w v g x) : ∃ pa pc ka kc, v = .agg #[.slice pa (preds g x).length pc, .slice ka (kids g x).length kc, .int .i64 (depth g x : Nat)] ∧
    Strs w (.slice pa (preds g x).length pc) (preds g x) ∧ Strs w (.slice ka (kids g x).length kc) (kids g x) := by
  obtain ⟨pv, kv, rfl, h2, h3⟩ := h
  obtain ⟨pa, pc, rfl, _⟩ := h2.form
  obtain ⟨ka, kc, rfl, _⟩ := h3.form
  exact ⟨pa, pc, ka, kc, rfl, h2, h3⟩
structure DagIs (w : World) (bD mN mH : Nat) (lN lH : Ents) (g : G) : Prop where
  c0 : w.cell? ⟨bD, 0, none⟩ = some (.map (some mN))
  c1 : w.cell? ⟨bD, 1, none⟩ = some (.map (some mH))
  ne : mN ≠ mH
  mapN : Mp w mN lN
  mapH : Mp w mH lH
  keysN : ∀ x, x ∈ keysL lN ↔ x ∈ ids g
  lenN : lN.length = g.length
  nodes : ∀ x, NodeV w ((lk lN x).getD zeroNode) g x
  keysH : ∀ x, x ∈ keysL lH ↔ x ∈ heads g
/-- A graph in memory. -/
def DagAt (w : World) (v : Value) (mN mH : Nat) (g : G) : Prop := ∃ bD lN lH, v = .pointer (some ⟨bD, 0, none⟩) ∧ DagIs w bD mN mH lN lH g
/-- .. or none. -/
def DagR (w : World) (v : Value) (g : G) : Prop := (v = .pointer none ∧ g = []) ∨ ∃ mN mH, DagAt w v mN mH g

theorem DagIs.fr {S : List Nat} {w w' : World} {bD mN mH : Nat} {lN lH : Ents} {g : G} (h : DagIs w bD mN mH lN lH g) (hf : Fr S w w') (h1 : mN ∉ S) (h2 : mH ∉ S) : DagIs w' bD mN mH lN lH g :=
  ⟨hf.cell h.c0, hf.cell h.c1, h.ne, h.mapN.fr hf h1, h.mapH.fr hf h2, h.keysN, h.lenN, fun x => (h.nodes x).fr hf, h.keysH⟩
theorem DagAt.fr {S : List Nat} {w w' : World} {v : Value} {mN mH : Nat} {g : G} (h : DagAt w v mN mH g) (hf : Fr S w w') (h1 : mN ∉ S) (h2 : mH ∉ S) : DagAt w' v mN mH g := by
  obtain ⟨bD, lN, lH, rfl, h⟩ := h; exact ⟨bD, lN, lH, rfl, h.fr hf h1 h2⟩
theorem DagR.fr {w w' : World} {v : Value} {g : G} (h : DagR w v g) (hf : Fr [] w w') : DagR w' v g := by
  rcases h with h | ⟨mN, mH, h⟩
  · exact .inl h
  · exact .inr ⟨mN, mH, h.fr hf (by simp) (by simp)⟩
theorem DagAt.r {w : World} {v : Value} {mN mH : Nat} {g : G} (h : DagAt w v mN mH g) : DagR w v g := .inr ⟨_, _, h⟩

theorem zeroNodeV : (zeroValue 235).run Tryz.prog = fun w => .ok zeroNode w := by
  funext w
  exact Tryz.zeroValue235 w

section
variable {w : World} {bD mN mH : Nat} {lN lH : Ents} {g : G}
theorem DagIs.look (h : DagIs w bD mN mH lN lH g) (x : BS) (c : Bool) : (Instr.lookup 231 (.map (some mN)) (.string x) c).run Tryz.prog w = .ok (if c then .tuple #[(lk lN x).getD zeroNode, .bool (decide (x ∈ ids g))] else (lk lN x).getD zeroNode) w := by
  rw [h.mapN.look Tryz.underlying231 Tryz.underlying9 (z := zeroNode) (Tryz.zeroValue235 w) x c]
  have : decide (x ∈ keysL lN) = decide (x ∈ ids g) := by simp [h.keysN x]
  rw [this]
end

theorem empty8 (w : World) : Calls Tryz.prog 63 #[] w fun e w' => ∃ v, e = .returned v ∧ DagAt w' v w.heap.size (w.heap.size + 1) [] ∧ Fr [] w w' := by
  have hmm := @run_makeMap Tryz.prog
  go_enter Tryz.func63, Tryz.ntmps63
  go_wp2
  go_ret
  have f1 := (Fr.refl w).alloc (.map #[] 0)
  have f2 := (Fr.refl (w.alloc (.map #[] 0))).alloc (.map #[] 0)
  have f3 := (Fr.refl ((w.alloc (.map #[] 0)).alloc (.map #[] 0))).alloc (.cells #[.map (some w.heap.size), .map (some (w.heap.size + 1))] 233)
  have m1 := ((Mp.made w).fr f2 (by simp)).fr f3 (by simp)
  have m2 := (Mp.made (w.alloc (.map #[] 0))).fr f3 (by simp)
  rw [World.size_alloc] at m2
  refine ⟨_, rfl, ⟨_, [], [], rfl, ⟨(World.cell?_alloc_at _ _ _ _ (by simp)).trans rfl, (World.cell?_alloc_at _ _ _ _ (by simp)).trans rfl, by omega, m1, m2, by simp [keysL, ids], rfl, fun x => ⟨_, _, rfl, Strs.nil _, Strs.nil _⟩, by simp [keysL, heads, ids, ofL]⟩⟩, (f1.then f2).then f3⟩

theorem has18 (v : Value) (x : BS) (g : G) (w : World) (hd : DagR w v g) :
    Calls Tryz.prog 105 #[v, .string x] w fun e w' => e = .returned (.bool (decide (x ∈ ids g))) ∧ Fr [] w w' := by
  rcases hd with ⟨rfl, rfl⟩ | ⟨mN, mH, bD, lN, lH, rfl, h⟩
  · go_enter Tryz.func105, Tryz.ntmps105
    go_wp2
    go_ret
    exact ⟨by simp [ids], .refl _⟩
  · have c0 := h.c0
    have hk := h.look x true
    obtain ⟨pa, pc, ka, kc, hv, _⟩ := (h.nodes x).form
    rw [hv] at hk
    simp only [if_true] at hk
    go_enter Tryz.func105, Tryz.ntmps105
    go_wp2
    go_ret
    exact ⟨rfl, (Fr.refl w).alloc _⟩

theorem len30 (v : Value) (g : G) (w : World) (hd : DagR w v g) :
    Calls Tryz.prog 220 #[v] w fun e w' => e = .returned (.int .i64 (g.length : Nat)) ∧ w = w' := by
  rcases hd with ⟨rfl, rfl⟩ | ⟨mN, mH, bD, lN, lH, rfl, h⟩
  · go_enter Tryz.func220, Tryz.ntmps220
    go_wp2
    go_ret
    exact ⟨rfl, rfl⟩
  · have c0 := h.c0
    have hk := fun ty => h.mapN.len Tryz.underlying231 ty
    rw [h.lenN] at hk
    go_enter Tryz.func220, Tryz.ntmps220
    go_wp2
    go_ret
    exact ⟨rfl, rfl⟩

theorem fld0 (a b c : Value) (w : World) : (Instr.field 235 (.agg #[a, b, c]) 0).run Tryz.prog w = .ok a w := by kernel_rfl
theorem fld1 (a b c : Value) (w : World) : (Instr.field 235 (.agg #[a, b, c]) 1).run Tryz.prog w = .ok b w := by kernel_rfl
theorem fld2 (a b c : Value) (w : World) : (Instr.field 235 (.agg #[a, b, c]) 2).run Tryz.prog w = .ok c w := by kernel_rfl
theorem kids_nil (x : BS) : kids [] x = [] := rfl
theorem preds_nil (x : BS) : preds [] x = [] := rfl

theorem of44b (v : Value) (x : BS) (g : G) (w0 w : World) (hd : DagR w0 v g) (F : Fr [] w0 w) :
    Calls Tryz.prog 159 #[v, .string x] w fun e w' => ∃ u, e = .returned u ∧ NodeV w0 u g x ∧ Gr w w' := by
  rcases hd with ⟨rfl, rfl⟩ | ⟨mN, mH, bD, lN, lH, rfl, h⟩
  · go_enter Tryz.func159, Tryz.ntmps159
    go_wp2
    refine bodyPost_ret (v := zeroNode) ?_ rfl ⟨_, rfl, ⟨_, _, rfl, Strs.nil _, Strs.nil _⟩, ?_⟩
    · simp [results, Tryz.f159, zeroNode]
      go_simp
    · exact (Gr.refl w).alloc _
  · have c0 := F.cell h.c0
    have hk := (h.fr F (by simp) (by simp)).look x false
    obtain ⟨pa, pc, ka, kc, hv, hp, hq⟩ := (h.nodes x).form
    rw [hv] at hk
    simp only [Bool.false_eq_true, if_false] at hk
    have f0 := (Fr.refl w).alloc (.cells #[.slice none 0 0, .slice none 0 0, .int .i64 0] 235)
    have c0' := f0.cell c0
    have hk' := ((h.fr F (by simp) (by simp)).fr f0 (by simp) (by simp)).look x false
    rw [hv] at hk'
    simp only [Bool.false_eq_true, if_false] at hk'
    go_enter Tryz.func159, Tryz.ntmps159
    go_wp2
    refine bodyPost_ret (v := .agg #[.slice pa (preds g x).length pc, .slice ka (kids g x).length kc, .int .i64 (depth g x : Nat)]) ?_ rfl ⟨_, rfl, ⟨_, _, rfl, hp, hq⟩, (Gr.refl w).alloc _⟩
    simp [results, Tryz.f159]
    go_simp

theorem of44 (v : Value) (x : BS) (g : G) (w : World) (hd : DagR w v g) :
    Calls Tryz.prog 159 #[v, .string x] w fun e w' => ∃ u, e = .returned u ∧ NodeV w' u g x ∧ Gr w w' := by
  refine (of44b v x g w w hd (.refl w)).mono ?_
  rintro e w' ⟨u, rfl, hu, hg⟩
  exact ⟨u, rfl, hu.fr hg.fr, hg⟩

set_option maxRecDepth 100000 in
theorem depth20 (v : Value) (x : BS) (g : G) (w : World) (hd : DagR w v g) :
    Calls Tryz.prog 158 #[v, .string x] w fun e w' => e = .returned (.int .i64 (depth g x : Nat)) ∧ Gr w w' := by
  have hfd := fld2
  go_enter Tryz.func158, Tryz.ntmps158
  go_wp2_with (go_at_call 159; refine (of44 _ _ _ _ hd).mono ?_; rintro e w1 ⟨u, rfl, hu, h1⟩; obtain ⟨pa, pc, ka, kc, rfl, hp, hq⟩ := hu.form)
  go_ret
  exact ⟨rfl, h1⟩
end Go.Proofs.YtppgjglfoibfcaaGreat
