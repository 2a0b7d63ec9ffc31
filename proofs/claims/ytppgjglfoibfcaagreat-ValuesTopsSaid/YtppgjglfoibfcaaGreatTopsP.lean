import Derived.Test.YtppgjglfoibfcaaGreatLDoes
set_option linter.unusedSimpArgs false
set_option linter.unusedVariables false
/-
  Chapter 21, plain: which writes stay, in whichever order they come.
-/
namespace Go.Proofs.YtppgjglfoibfcaaGreat
open Go.RowKit

theorem at_depth {g : G} (hw : Wf g) {a b : BS} (h : aheadB g a b = true) : depth g a < depth g b := by
  obtain ⟨h1, h2, h3, h4⟩ := (aheadB_iff hw a b).1 h
  exact reach_depth_lt hw h4 (Ne.symm h1)
theorem at_self (g : G) (a : BS) : aheadB g a a = false := by unfold aheadB; simp
theorem at_not {g : G} (hw : Wf g) {a b : BS} (h : aheadB g a b = true) : aheadB g b a = false := by
  cases hb : aheadB g b a with
  | false => rfl
  | true => have h1 := at_depth hw h; have h2 := at_depth hw hb; omega
theorem at_trans {g : G} (hw : Wf g) {a b c : BS} (h : aheadB g a b = true) (k : aheadB g b c = true) : aheadB g a c = true := by
  have h5 := at_depth hw h
  have h6 := at_depth hw k
  obtain ⟨h1, h2, h3, h4⟩ := (aheadB_iff hw a b).1 h
  obtain ⟨k1, k2, k3, k4⟩ := (aheadB_iff hw b c).1 k
  rw [aheadB_iff hw]
  exact ⟨fun e => by subst e; omega, h2, k3, k4.trans h4⟩

/-- L: what is there; A: what was taken. -/
structure TInv (g : G) (L : List Wr) (A : List Dd) : Prop where
  sub : ∀ x ∈ L, ∃ d ∈ A, d.wr = x
  up : ∀ d ∈ A, ∃ y ∈ L, y.name = d.name ∧ (y = d.wr ∨ aheadB g d.id y.id = true)
  anti : ∀ x ∈ L, ∀ y ∈ L, x.name = y.name → aheadB g x.id y.id = false
  nd : A.Pairwise fun a b => ¬ (a.name = b.name ∧ a.id = b.id)
  srt : WSorted L
theorem TInv.nil (g : G) : TInv g [] [] := ⟨by simp, by simp, by simp, .nil, .nil⟩
theorem keepW_iff {g : G} {r x : Wr} : keepW g r x = true ↔ (x.name = r.name → aheadB g x.id r.id = false) := by
  unfold keepW
  by_cases h : x.name = r.name <;> simp [h]
theorem oldW_iff {g : G} {L : List Wr} {r : Wr} : oldW g L r = true ↔ ∃ x ∈ L, x.name = r.name ∧ aheadB g r.id x.id = true := by
  simp [oldW, List.any_eq_true]
theorem oldW_no {g : G} {L : List Wr} {r : Wr} : oldW g L r = false ↔ ∀ x ∈ L, x.name = r.name → aheadB g r.id x.id = false := by
  rw [← Bool.not_eq_true, oldW_iff]
  constructor
  · intro h x hx hn
    cases ha : aheadB g r.id x.id with
    | false => rfl
    | true => exact absurd ⟨x, hx, hn, ha⟩ h
  · rintro h ⟨x, hx, hn, ha⟩
    rw [h x hx hn] at ha; cases ha
theorem TInv.put {g : G} (hw : Wf g) {L : List Wr} {A : List Dd} (h : TInv g L A) (d : Dd) (hd : ∀ a ∈ A, ¬ (a.name = d.name ∧ a.id = d.id)) (he : writeE L d.wr = 0) : TInv g (writeL g L d.wr) (A ++ [d]) := by
  have hsrt := sorted_writeL (g := g) (r := d.wr) h.srt
  rw [writeL_ok he] at hsrt ⊢
  refine ⟨?_, ?_, ?_, ?_, hsrt⟩
  · intro x hx
    rcases (mem_putW g L d.wr x).1 hx with ⟨rfl, _⟩ | ⟨hx, _⟩
    · exact ⟨d, by simp, rfl⟩
    · obtain ⟨e, he, hee⟩ := h.sub x hx
      exact ⟨e, by simp [he], hee⟩
  · intro e he2
    cases ho : oldW g L d.wr with
    | false =>
      have hin : d.wr ∈ putW g L d.wr := (mem_putW g L d.wr d.wr).2 (.inl ⟨rfl, ho⟩)
      rcases List.mem_append.1 he2 with he2 | he2
      · obtain ⟨y, hy, hn, hya⟩ := h.up e he2
        by_cases hk : keepW g d.wr y = true
        · exact ⟨y, (mem_putW g L d.wr y).2 (.inr ⟨hy, hk⟩), hn, hya⟩
        · have hk' : y.name = d.wr.name ∧ aheadB g y.id d.wr.id = true := by
            rw [keepW_iff] at hk
            by_cases hyn : y.name = d.wr.name
            · refine ⟨hyn, ?_⟩
              cases ha : aheadB g y.id d.wr.id with
              | true => rfl
              | false => exact absurd (fun _ => ha) hk
            · exact absurd (fun h => absurd h hyn) hk
          refine ⟨d.wr, hin, hk'.1.symm.trans hn, .inr ?_⟩
          rcases hya with rfl | hya
          · exact hk'.2
          · exact at_trans hw hya hk'.2
      · obtain rfl : e = d := by simpa using he2
        exact ⟨_, hin, rfl, .inl rfl⟩
    | true =>
      obtain ⟨z, hz, hzn, hza⟩ := oldW_iff.1 ho
      have hkz : ∀ y ∈ L, y.name = d.wr.name → keepW g d.wr y = true := by
        intro y hy hyn
        rw [keepW_iff]
        intro _
        cases ha : aheadB g y.id d.wr.id with
        | false => rfl
        | true =>
          have := h.anti y hy z hz (hyn.trans hzn.symm)
          rw [at_trans hw ha hza] at this; cases this
      rcases List.mem_append.1 he2 with he2 | he2
      · obtain ⟨y, hy, hn, hya⟩ := h.up e he2
        by_cases hyn : y.name = d.wr.name
        · exact ⟨y, (mem_putW g L d.wr y).2 (.inr ⟨hy, hkz y hy hyn⟩), hn, hya⟩
        · exact ⟨y, (mem_putW g L d.wr y).2 (.inr ⟨hy, keepW_iff.2 fun h => absurd h hyn⟩), hn, hya⟩
      · obtain rfl : e = d := by simpa using he2
        exact ⟨z, (mem_putW g L e.wr z).2 (.inr ⟨hz, hkz z hz hzn⟩), hzn, .inr hza⟩
  · intro x hx y hy hn
    rcases (mem_putW g L d.wr x).1 hx with ⟨rfl, hox⟩ | ⟨hx, hkx⟩
    · rcases (mem_putW g L d.wr y).1 hy with ⟨rfl, _⟩ | ⟨hy, _⟩
      · exact at_self g _
      · exact oldW_no.1 hox y hy hn.symm
    · rcases (mem_putW g L d.wr y).1 hy with ⟨rfl, _⟩ | ⟨hy, _⟩
      · exact keepW_iff.1 hkx hn
      · exact h.anti x hx y hy hn
  · rw [List.pairwise_append]
    refine ⟨h.nd, by simp, fun a ha b hb => ?_⟩
    obtain rfl : b = d := by simpa using hb
    exact hd a ha
theorem TInv.skip {g : G} {L : List Wr} {A : List Dd} (h : TInv g L A) (d : Dd) (he : writeE L d.wr ≠ 0) : TInv g (writeL g L d.wr) A := by
  rw [writeL_no rfl he]; exact h
/-- What is there is what is ahead of no other one of its name. -/
def topD (g : G) (A : List Dd) (d : Dd) : Bool := A.all fun b => !(decide (b.name = d.name) && aheadB g d.id b.id)
def thereD (L : List Wr) (d : Dd) : Bool := decide (d.wr ∈ L)
theorem top_there {g : G} (hw : Wf g) {L : List Wr} {A : List Dd} (h : TInv g L A) {d : Dd} (hd : d ∈ A) : topD g A d = thereD L d := by
  rw [Bool.eq_iff_iff]
  simp only [topD, thereD, List.all_eq_true, Bool.not_eq_true', Bool.and_eq_false_iff, decide_eq_false_iff_not, decide_eq_true_eq]
  constructor
  · intro ht
    obtain ⟨y, hy, hn, hya⟩ := h.up d hd
    rcases hya with rfl | hya
    · exact hy
    · obtain ⟨b, hb, rfl⟩ := h.sub y hy
      rcases ht b hb with h1 | h1
      · exact absurd hn h1
      · have : aheadB g d.id b.id = true := hya
        rw [h1] at this; cases this
  · intro hin b hb
    by_cases hbn : b.name = d.name
    · right
      cases ha : aheadB g d.id b.id with
      | false => rfl
      | true =>
        obtain ⟨y, hy, hn, hya⟩ := h.up b hb
        have h1 := h.anti _ hin y hy (hbn.symm.trans hn.symm)
        rcases hya with rfl | hya
        · have h2 : aheadB g d.id b.id = false := h1
          rw [ha] at h2; cases h2
        · have h2 : aheadB g d.id y.id = false := h1
          rw [at_trans hw ha hya] at h2; cases h2
    · exact .inl hbn
theorem count_there {g : G} {L : List Wr} {A : List Dd} (h : TInv g L A) : (A.filter (thereD L)).length = L.length := by
  have h1 : ((A.filter (thereD L)).map Dd.wr).Nodup := by
    rw [List.Nodup, List.pairwise_map]
    refine (h.nd.filter _).imp fun {a b} hab e => hab ?_
    have e1 := congrArg Wr.name e
    have e2 := congrArg Wr.id e
    exact ⟨e1, e2⟩
  have h2 : L.Nodup := by
    have h3 : L.Pairwise WLt := h.srt
    show L.Pairwise (· ≠ ·)
    refine h3.imp ?_
    intro a b hab e
    subst e
    exact wlt_irr _ hab
  have hp : ((A.filter (thereD L)).map Dd.wr).Perm L := by
    rw [List.perm_ext_iff_of_nodup h1 h2]
    intro x
    simp only [List.mem_map, List.mem_filter, thereD, decide_eq_true_eq]
    constructor
    · rintro ⟨d, ⟨_, hd⟩, rfl⟩; exact hd
    · intro hx
      obtain ⟨d, hd, rfl⟩ := h.sub x hx
      exact ⟨d, ⟨hd, hx⟩, rfl⟩
  have := hp.length_eq
  simpa using this
end Go.Proofs.YtppgjglfoibfcaaGreat
