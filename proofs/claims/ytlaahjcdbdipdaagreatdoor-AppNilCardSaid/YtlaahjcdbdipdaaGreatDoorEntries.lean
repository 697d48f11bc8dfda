/- The bank's entries: the contract of Entries. -/
import Derived.Test.YtlaahjcdbdipdaaGreatDoorDigits
import Derived.Test.YtlaahjcdbdipdaaGreatDoorActs
import Derived.Test.YtlaahjcdbdipdaaGreatDoorSort
import Derived.Deep.RegionHeld3
import Derived.Deep.AppendLies
namespace Go.Proofs.YtlaahjcdbdipdaaGreatDoor
open Go Go.RowKit Go.MapKept Go.ChangeMaps Go.Sort

theorem infoEntry : (Tryz.prog.info? 93).map (fun i => (i.zero, i.size, i.bytes)) = some (some (.agg #[.string ⟨#[]⟩, .string ⟨#[]⟩]), 2, 32) := by kernel_rfl
/-- An amount's entry: its key, its value. -/
def entK (p : BA × BA) : BA := ⟨#[98, 97, 110, 107, 47]⟩ ++ p.2 ++ ⟨#[47]⟩ ++ p.1
def entOf (x : (BA × BA) × Nat) : BA × BA := (entK x.1, digitsOf x.2)
theorem after_append {w4 w5 : World} {v : Value} {t2 b : Nat} {ys : Array Value} {a d : BA} (hS : w4.cell? ⟨b, 0, none⟩ = some (.string a) ∧ w4.cell? ⟨b, 1, none⟩ = some (.string d)) 
    (hg : (w4.alloc (.cells ys t2)).grownBy w5 v.ownBlock) (hne : v.ownBlock ≠ some b) : w5.cell? ⟨b, 0, none⟩ = some (.string a) ∧ w5.cell? ⟨b, 1, none⟩ = some (.string d) := by
  have hb : b < w4.heap.size := World.block_lt_of_cell? w4 _ hS.1
  have e : ∀ j, w5.cell? ⟨b, j, none⟩ = w4.cell? ⟨b, j, none⟩ := fun j =>
    (World.cell?_of_block (w := w4.alloc (.cells ys t2)) (hg.block b (by simp; omega) (fun e => hne e.symm))).trans (World.cell?_of_block (w := w4) (Below.heap_alloc _ _ _ hb))
  exact ⟨(e 0).trans hS.1, (e 1).trans hS.2⟩
/-- What Entries hands back. -/
def EntriesPost (w : World) (A : List ((BA × BA) × Nat)) (e : Ending) (w' : World) : Prop :=
  ∃ v M, e = .returned v ∧ M.Perm (A.map entOf) ∧ ByKeys M ∧ w'.ownsRow w.heap.size 93 2 v M.length (M.flatMap encEnt) ∧ Kept Nowhere w w'
set_option maxRecDepth 100000 in
set_option maxHeartbeats 1600000 in
theorem Entries_any (w : World) (p m1 m2 : Nat) (A : List ((BA × BA) × Nat)) (S : List (BA × Nat)) (h : BankIs w p m1 m2 A S) (hL : Laid w) (hA : A.length ≤ 1000000) (hAn : ∀ x ∈ A, x.1.1.size ≤ 16 ∧ x.1.2.size ≤ 40 ∧ x.2 ≤ 18446744073709551615) :
    Calls Tryz.prog 33 #[ptr p] w (EntriesPost w A) := by
  obtain ⟨i0, hi0, hz0, hz1, hz2⟩ := info_parts infoEntry
  have hc0 := h.c0
  have HB := Lib.hid h; clear h
  have HAN := Lib.hid hAn; clear hAn
  go_enter Tryz.func33, Tryz.ntmps33
  go_wp2_with (at_range; refine wpList_range_is rfl _ 149 rfl 159 23 Tryz.underlying149 m1 A rfl HB.out.am ?_; intro w1 hr1 hk1)
  go_frame
  go_loopw [3] (fun v wr => ∃ done todo, A.Perm (done ++ todo) ∧ MapRange wr purseV u64V m1 w.heap.size todo ∧ wr.ownsRow (w.heap.size + 1) 93 2 v done.length ((done.map entOf).flatMap encEnt) ∧ Kept Nowhere w wr ∧ w.heap.size + 1 ≤ wr.heap.size) (fun _ wr => rangeTodo wr m1 w.heap.size)
  case atStart => exact ⟨[], A, by simp, hr1, ⟨rfl, Or.inl ⟨rfl, rfl⟩⟩, hk1, by have := hr1.lt.1; omega⟩
  case round =>
    obtain ⟨done, todo, hperm, hrg, hown, hk, hwz⟩ := hrel
    have HP := Lib.hid hperm; clear hperm
    go_wp2_with (at_next; refine wpList_next_is rfl _ rfl m1 w.heap.size todo rfl hrg ?_ ?_)
    · intro htodo
      subst htodo
      rw [List.append_nil] at HP
      have hlen := HP.out.length_eq
      have hown' : wr.ownsRow (w.heap.size + 1) 93 2 u3 (done.map entOf).length ((done.map entOf).flatMap encEnt) := by rw [List.length_map]; exact hown
      have hsort := Lib.hid (SortFunc_any wr (w.heap.size + 1) u3 (done.map entOf) (by rw [List.length_map]; omega) hown')
      have HX := Lib.hid (And.intro hk hown)
      clear hk hown hown' hrg hr1 hk1 HAN hlen hL
      go_wp2_with fail
      refine hsort.out.mono ?_
      rintro e w3 ⟨rfl, M, hp, hs, ho, hk3⟩
      have HQ := Lib.hid (And.intro hp (And.intro hs (And.intro ho hk3)))
      clear hp hs ho hk3
      go_wp2_with fail
      go_ret
      obtain ⟨hp, hs, ho, hk3⟩ := HQ.out
      have hlm : M.length = (done.map entOf).length := hp.length_eq
      refine ⟨_, M, rfl, hp.trans (HP.out.map _).symm, hs, ?_, ?_⟩
      · rw [hlm]; exact ownsRow_lower ho (Nat.le_succ _)
      · refine HX.out.1.andThen hk3 (fun i hi hb => ?_)
        rcases HX.out.2.2 with ⟨rfl, _⟩ | ⟨g, cap, cur, rfl, hg, _⟩
        · cases hb
        · simp only [Value.ownBlock, Option.some.injEq] at hb
          omega
    · intro acc den n todo' w2 hpt hrg2 hk2 hen
      have HPT := Lib.hid hpt; clear hpt
      have hk' : Kept Nowhere w w2 := hk.andThen hk2 (fun i hi e => by omega)
      have hown2 := ownsRow_kept hown hk2 (fun k hk e => by omega)
      have hLW := Lib.hid (fun o => ((hL.still hk').alloc o).drew)
      obtain ⟨hacc, hden, hn⟩ : acc.size ≤ 16 ∧ den.size ≤ 40 ∧ n ≤ 18446744073709551615 := HAN.out ((acc, den), n) (HP.out.mem_iff.2 (List.mem_append_right _ (HPT.out.mem_iff.2 (List.mem_cons_self ..))))
      have hF := Lib.hid (fun o => FormatUint_any n hn _ (hLW.out o))
      have HS : Hid (∀ w4, Kept Nowhere (w2.alloc (.cells #[.string acc, .string den] 159)).drew w4 → w4.cell? ⟨w2.heap.size, 0, none⟩ = some (.string acc) ∧ w4.cell? ⟨w2.heap.size, 1, none⟩ = some (.string den)) := fun w4 hk4 =>
        ⟨(hk4.cell (p := ⟨w2.heap.size, 0, none⟩) (by simp [World.drew]) id).trans (cell_of_alloc w2 _ _ 0 _ rfl), (hk4.cell (p := ⟨w2.heap.size, 1, none⟩) (by simp [World.drew]) id).trans (cell_of_alloc w2 _ _ 1 _ rfl)⟩
      have hs1 : ∀ W, (Op.stringOp .add ⟨#[98, 97, 110, 107, 47]⟩ den).run Tryz.prog W = .ok (.string (⟨#[98, 97, 110, 107, 47]⟩ ++ den)) W := fun W => run_string_add_sum W _ _ (by show 5 + den.size ≤ _; omega)
      have hs2 : ∀ W, (Op.stringOp .add (⟨#[98, 97, 110, 107, 47]⟩ ++ den) ⟨#[47]⟩).run Tryz.prog W = .ok (.string (⟨#[98, 97, 110, 107, 47]⟩ ++ den ++ ⟨#[47]⟩)) W := fun W => run_string_add_sum W _ _ (by rw [ByteArray.size_append]; show 5 + den.size + 1 ≤ _; omega)
      have hs3 : ∀ W, (Op.stringOp .add (⟨#[98, 97, 110, 107, 47]⟩ ++ den ++ ⟨#[47]⟩) acc).run Tryz.prog W = .ok (.string (entK (acc, den))) W := fun W => run_string_add_sum W _ _ (by rw [ByteArray.size_append, ByteArray.size_append]; show 5 + den.size + 1 + acc.size ≤ _; omega)
      have hlen : done.length + 1 ≤ 1000000 := by
        have e1 := HP.out.length_eq
        have e2 := HPT.out.length_eq
        simp only [List.length_append, List.length_cons] at e1 e2
        omega
      have hw2 : w.heap.size + 1 ≤ w2.heap.size := Nat.le_trans hwz hk2.size
      have HOW : Hid (∀ w4, Kept Nowhere (w2.alloc (.cells #[.string acc, .string den] 159)).drew w4 → w4.ownsRow (w.heap.size + 1) 93 2 u3 done.length ((done.map entOf).flatMap encEnt) ∧ w.heap.size + 1 ≤ w4.heap.size) := fun w4 hk4 =>
        ⟨ownsRow_kept hown2 (((Kept.refl Nowhere w2).alloc _).drew.trans hk4) (fun _ _ => id), by have := hk4.size; simp [World.drew] at this; omega⟩
      have HNE : Hid (u3.ownBlock ≠ some w2.heap.size) := fun e => by
        rcases hown2.2 with ⟨rfl, _⟩ | ⟨g, cap, cur, rfl, _, hg, _⟩
        · cases e
        · simp only [Value.ownBlock, Option.some.injEq] at e
          subst e
          exact absurd (Array.getElem?_eq_some_iff.1 hg).1 (Nat.lt_irrefl _)
      clear hn hwz hown
      have HX := Lib.hid (And.intro hk (And.intro hk2 (And.intro hk' hrg2)))
      clear hk hk2 hk' hrg2 hk1 hr1 HAN hLW
      have HRG := Lib.hid hrg; clear hrg
      have Hown2 := Lib.hid hown2; clear hown2
      go_wp2_with fail
      go_region_held3 (fun W => W.cell? ⟨w2.heap.size, 0, none⟩ = some (.string acc) ∧ W.cell? ⟨w2.heap.size, 1, none⟩ = some (.string den))
        (first
          | go_keep
          | exact HS.out _ hkF
          | exact after_append (HS.out _ hkF) hgrow HNE.out)
        (first
          | (go_at_call 75; refine (hF.out _).mono ?_; rintro e w4 ⟨rfl, hkF⟩)
          | (refine step_append_lies _ (by rfl) _ _ _ (by rfl) (w.heap.size + 1) 93 i0 _ 2 32 Tryz.underlying49 hi0 hz0 hz1 hz2 rfl (by omega) u3 done.length ((done.map entOf).flatMap encEnt) (by rfl) ((HOW.out _ hkF).1.alloc _) ⟨w4.heap.size, 0, none⟩ 1 1 (encEnt (entOf ((acc, den), n))) (by rfl) (by rfl) (World.news_of_block (cs := #[.string (entK (acc, den)), .string (digitsOf n)]) (t := 93) (fr := (0, 0)) (heap_alloc_new w4 _)) (by simp [Value.oneCell', encEnt]) (by omega) (by unfold maxLen; omega) (by omega) (by have := (HOW.out _ hkF).2; simp; omega) (w4.heap.size + 1) (by simp) ?_; intro g cap w5 hown5 hgrow hat hlt))
      have hgo : ∀ i, u3.ownBlock = some i → w.heap.size + 1 ≤ i := fun i hi => by
        rcases (HOW.out _ hkF).1.2 with ⟨rfl, _⟩ | ⟨g, cap, cur, rfl, hg, _⟩
        · cases hi
        · simp only [Value.ownBlock, Option.some.injEq] at hi
          omega
      obtain ⟨hk, hk2, hk', hrg2⟩ := HX.out
      have hk5 : Kept (fun k => u3.ownBlock = some k) w4 w5 := ((Kept.refl _ w4).alloc _).trans (Kept.of_grown hgrow)
      have hk25 : Kept (fun k => u3.ownBlock = some k) w2 w5 := (((Kept.refl _ w2).alloc _).drew.trans (hkF.weaken (fun _ _ h => h.elim))).trans hk5
      have hm1 : m1 < w.heap.size := HB.out.lt.2.1
      have hrg5 := hrg2.kept hk25 (fun e => by have := hgo _ e; omega) (fun e => by have := hgo _ e; omega)
      have hkw5 : Kept Nowhere w w5 := hk'.andThen hk25 (fun i hi e => by have := hgo _ e; omega)
      have hz5 : w.heap.size + 1 ≤ w5.heap.size := Nat.le_trans hw2 hk25.size
      have HR := Lib.hid (And.intro hrg5 (And.intro hkw5 (And.intro hz5 hown5)))
      clear hrg5 hkw5 hz5 hown5 hk25 hk5 hgo hk hk2 hk' hrg2
      go_wp2_with fail
      refine ⟨⟨done ++ [((acc, den), n)], todo', ?_, HR.out.1, ?_, HR.out.2.1, HR.out.2.2.1⟩, ?_⟩
      · refine HP.out.trans ((HPT.out.append_left _).trans (List.Perm.of_eq ?_))
        simp
      · have h5 := HR.out.2.2.2
        rw [List.map_append, List.flatMap_append, List.length_append]
        simpa using h5
      · rw [HR.out.1.todo, HRG.out.todo, HPT.out.length_eq]
        simp
end Go.Proofs.YtlaahjcdbdipdaaGreatDoor
