/- A script of acts that came in. -/
import Derived.Test.YtjghnfnlhmhmkaaDoorOpen
import Derived.Test.YtjghnfnlhmhmkaaDoorScript
namespace Go.Proofs.YtjghnfnlhmhmkaaDoor
open Go Go.RowKit Go.MapKept Go.ChangeShapes Go.WideShapes Go.ChangeAt Go.Deep Go.Lib

section
variable {H : Type} {enc : TypeId × Value → H} {w : World} {base : Nat} {spare : Nat → Bool} {held : Bool}
theorem cell_spot {w : World} {a : Addr} {v : Value} (h : w.cell? a = some v) : a.spot = none := by
  unfold World.cell? at h
  split at h
  · split at h
    · cases h
    · rename_i hs; cases hh : a.spot <;> simp_all
  · cases h
theorem actsElem : Tryd.prog.underlying 22 = some (.slice 28) := Tryd.underlying22
instance : Inhabited ActS := ⟨⟨0, ⟨#[]⟩, ⟨#[]⟩, ⟨#[]⟩, 0⟩⟩
set_option maxRecDepth 100000 in
theorem open_script {r : Reach} {b0 : Nat} {v : Value} {d : DataW H} {p : List MemPlace} (hv : Value.okWide Tryd.prog w r b0 22 v) (h : DataW.Trod enc Tryd.prog w base spare held 22 v d p) : ∃ acts : List ActS, ScriptAt w v acts := by
  obtain ⟨a0, len0, cap0, rfl⟩ := okWide_slice actsElem hv
  obtain ⟨fuel, hf⟩ := h
  obtain ⟨f0, f1, f2, f3, f4, hs, t0, t1, t2, t3, t4, hone⟩ := actFields
  rcases open_slice actsElem hf with ⟨hcs, _⟩ | ⟨a, len, cap, m, n, D, Pl, hcs, hb, hl, hm, hmm, _, hi⟩
  · have e : Value.slice a0 len0 cap0 = .slice none 0 0 := by simpa [Value.cells] using hcs
    cases e
    exact ⟨[], none, 0, rfl, by simp, by simp⟩
  · have e : Value.slice a0 len0 cap0 = .slice (some a) len cap := by simpa [Value.cells] using hcs
    cases e
    have hlm : len0 ≤ m := by rw [hmm]; split <;> omega
    have hel : ∀ i, i < len0 → ∃ x : ActS, x.Fit ∧ ∀ j c, x.cells[j]? = some c → w.cell? (a.add (i * 5 + j)) = some c := by
      intro i hil
      obtain ⟨cs', hc, ht⟩ := hi i (by omega)
      rw [actCells] at hc
      obtain ⟨_, hcl, hat⟩ := World.cells?_some hc
      obtain ⟨c0, c1, c2, c3, c4, rfl⟩ := list5 hcl
      obtain ⟨xs, n', _, hx, _, hlen, hg⟩ := DataW.trod_struct hs ht
      obtain ⟨o0, k0⟩ := hone_of hone 0 f0 rfl
      obtain ⟨o1, k1⟩ := hone_of hone 1 f1 rfl
      obtain ⟨o2, k2⟩ := hone_of hone 2 f2 rfl
      obtain ⟨o3, k3⟩ := hone_of hone 3 f3 rfl
      obtain ⟨o4, k4⟩ := hone_of hone 4 f4 rfl
      have hxl : xs.length = 5 := hlen
      obtain ⟨y0, y1, y2, y3, y4, rfl⟩ := list5 hxl
      have g0 := hg 0 f0 rfl
      have g1 := hg 1 f1 rfl
      have g2 := hg 2 f2 rfl
      have g3 := hg 3 f3 rfl
      have g4 := hg 4 f4 rfl
      simp only [o0, o1, o2, o3, o4, k0, k1, k2, k3, k4, List.drop_zero, List.drop_succ_cons, List.take_succ_cons, List.take_zero, List.getElem?_cons_zero, List.getElem?_cons_succ] at g0 g1 g2 g3 g4
      rw [t0] at g0; rw [t1] at g1; rw [t2] at g2; rw [t3] at g3; rw [t4] at g4
      obtain ⟨x, hx, hfit⟩ := act_of_cells g0 g1 g2 g3 g4
      refine ⟨x, hfit, fun j c hj => ?_⟩
      rw [← hx] at hj
      have hj5 : j < 5 := by have := (List.getElem?_eq_some_iff.1 hj).1; simpa using this
      rw [← Go.Deep.add_add]
      exact (hat j hj5).trans hj
    obtain ⟨f, hf⟩ := choose_lt hel
    refine ⟨(List.range len0).map f, some a, cap0, by simp, by simp; omega, fun i x hx => ?_⟩
    rw [List.getElem?_map, Option.map_eq_some_iff] at hx
    obtain ⟨i', hi', rfl⟩ := hx
    obtain ⟨hi1, hi2⟩ := List.getElem?_eq_some_iff.1 hi'
    rw [List.getElem_range] at hi2
    subst hi2
    rw [List.length_range] at hi1
    obtain ⟨hfit, hcell⟩ := hf i hi1
    have hz := (hf 0 (by omega)).2 0 _ rfl
    have hsp := cell_spot hz
    have hblk := World.block_lt_of_cell? w _ hz
    obtain ⟨g, o, sp⟩ := a
    have : sp = none := by simpa [Addr.add] using hsp
    subst this
    refine ⟨hfit, g, o, rfl, by simpa [Addr.add] using hblk, ?_⟩
    have e : ∀ j, (⟨g, o, none⟩ : Addr).add (i * 5 + j) = ⟨g, o + i * 5 + j, none⟩ := fun j => by rw [add_none, Nat.add_assoc]
    have h0 := hcell 0 _ rfl
    have h1 := hcell 1 _ rfl
    have h2 := hcell 2 _ rfl
    have h3 := hcell 3 _ rfl
    have h4 := hcell 4 _ rfl
    rw [e] at h0 h1 h2 h3 h4
    exact ⟨h0, h1, h2, h3, h4⟩
end
end Go.Proofs.YtjghnfnlhmhmkaaDoor
