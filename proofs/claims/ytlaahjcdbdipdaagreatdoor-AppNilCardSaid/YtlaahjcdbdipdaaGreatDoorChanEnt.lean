/- A channel's entries: the contract of Entries. -/
import Derived.Test.YtlaahjcdbdipdaaGreatDoorSortC
import Derived.Test.YtlaahjcdbdipdaaGreatDoorChan
import Derived.Deep.RegionHeld3
import Derived.Deep.AppendLies
namespace Go.Proofs.YtlaahjcdbdipdaaGreatDoor
open Go Go.RowKit Go.MapKept Go.ChangeMaps Go.Sort

theorem infoEntryC : (Tryz.prog.info? 93).map (fun i => (i.zero, i.size, i.bytes)) = some (some (.agg #[.string ⟨#[]⟩, .string ⟨#[]⟩]), 2, 32) := by kernel_rfl
/-- What a channel's Entries hands back. -/
def ChanEntPost (w : World) (E : List (BA × BA)) (e : Ending) (w' : World) : Prop :=
  ∃ v M, e = .returned v ∧ M.Perm E ∧ ByKeys M ∧ w'.ownsRow w.heap.size 93 2 v M.length (M.flatMap encEnt) ∧ Kept Nowhere w w' ∧ (E = [] → v = .slice none 0 0)
set_option maxRecDepth 100000 in
set_option maxHeartbeats 1600000 in
theorem ChanEntries_any (w : World) (c m : Nat) (own other : BA) (next : Int) (E : List (BA × BA)) (h : ChanIs w c m own other next E) (hE : E.length ≤ 1000000) :
    Calls Tryz.prog 52 #[ptr c] w (ChanEntPost w E) := by
  obtain ⟨i0, hi0, hz0, hz1, hz2⟩ := info_parts infoEntryC
  have hc3 : w.cell? ⟨c, 3, none⟩ = some (.map (some m)) := by simp [World.cell?, h.cells]
  have HB := Lib.hid h; clear h
  go_enter Tryz.func52, Tryz.ntmps52
  go_wp2_with (at_range; refine wpList_range_is rfl _ 171 rfl 9 195 Tryz.underlying171 m E rfl HB.out.en ?_; intro w1 hr1 hk1)
  go_frame
  go_loopw [3] (fun v wr => ∃ done todo, E.Perm (done ++ todo) ∧ MapRange wr Value.string itemV m w.heap.size todo ∧ wr.ownsRow (w.heap.size + 1) 93 2 v done.length (done.flatMap encEnt) ∧ Kept Nowhere w wr ∧ w.heap.size + 1 ≤ wr.heap.size ∧ (done = [] → v = .slice none 0 0)) (fun _ wr => rangeTodo wr m w.heap.size)
  case atStart => exact ⟨[], E, by simp, hr1, ⟨rfl, Or.inl ⟨rfl, rfl⟩⟩, hk1, by have := hr1.lt.1; omega, fun _ => rfl⟩
  case round =>
    obtain ⟨done, todo, hperm, hrg, hown, hk, hwz, hnil⟩ := hrel
    have HP := Lib.hid hperm; clear hperm
    go_wp2_with (at_next; refine wpList_next_is rfl _ rfl m w.heap.size todo rfl hrg ?_ ?_)
    · intro htodo
      subst htodo
      rw [List.append_nil] at HP
      have hlen := HP.out.length_eq
      have hsort := Lib.hid (SortFuncC_any wr (w.heap.size + 1) u3 done (by omega) hown)
      have HX := Lib.hid (And.intro hk (And.intro hown hnil))
      clear hk hown hrg hr1 hk1 hlen hnil
      go_wp2_with fail
      refine hsort.out.mono ?_
      rintro e w3 ⟨rfl, M, hp, hs, ho, hk3⟩
      have HQ := Lib.hid (And.intro hp (And.intro hs (And.intro ho hk3)))
      clear hp hs ho hk3
      go_wp2_with fail
      go_ret
      obtain ⟨hp, hs, ho, hk3⟩ := HQ.out
      have hlm : M.length = done.length := hp.length_eq
      refine ⟨_, M, rfl, hp.trans HP.out.symm, hs, ?_, ?_, fun hE0 => HX.out.2.2 (by have := HP.out.length_eq; rw [hE0] at this; exact List.eq_nil_of_length_eq_zero this.symm)⟩
      · rw [hlm]; exact ownsRow_lower ho (Nat.le_succ _)
      · refine HX.out.1.andThen hk3 (fun i hi hb => ?_)
        rcases HX.out.2.1.2 with ⟨rfl, _⟩ | ⟨g, cap, cur, rfl, hg, _⟩
        · cases hb
        · simp only [Value.ownBlock, Option.some.injEq] at hb
          omega
    · intro key val todo' w2 hpt hrg2 hk2 hen
      have HPT := Lib.hid hpt; clear hpt
      have hk' : Kept Nowhere w w2 := hk.andThen hk2 (fun i hi e => by omega)
      have hown2 := ownsRow_kept hown hk2 (fun k hk e => by omega)
      have hlen : done.length + 1 ≤ 1000000 := by
        have e1 := HP.out.length_eq
        have e2 := HPT.out.length_eq
        simp only [List.length_append, List.length_cons] at e1 e2
        omega
      have hw2 : w.heap.size + 1 ≤ w2.heap.size := Nat.le_trans hwz hk2.size
      have HX := Lib.hid (And.intro hk (And.intro hk2 (And.intro hk' hrg2)))
      clear hk hk2 hk' hrg2 hk1 hr1 hwz hown hnil
      have HRG := Lib.hid hrg; clear hrg
      have Hown2 := Lib.hid hown2; clear hown2
      go_wp2_with (at_builtin; refine wpList_append_lies _ rfl _ _ _ rfl (w.heap.size + 1) 93 i0 _ 2 32 Tryz.underlying49 hi0 hz0 hz1 hz2 rfl (by omega) u3 done.length (done.flatMap encEnt) rfl ((ownsRow_kept Hown2.out ((Kept.refl Nowhere w2).alloc (.cells #[.string val] 195)) (fun _ _ => id)).alloc _) ⟨w2.heap.size + 1, 0, none⟩ 1 1 (encEnt (key, val)) rfl rfl (World.news_of_block (cs := #[.string key, .string val]) (t := 93) (fr := (0, 0)) ?qn) (by simp [Value.oneCell', encEnt]) (by omega) (by unfold maxLen; omega) (by omega) (by simp; omega) (w2.heap.size + 2) (by simp) ?_)
      case qn => exact heap_alloc2_new w2 _ _
      intro g cap w5 hown5 hgrow hat hlt
      have hgo : ∀ i, u3.ownBlock = some i → w.heap.size + 1 ≤ i := fun i hi => by
        rcases Hown2.out.2 with ⟨rfl, _⟩ | ⟨g, cap, cur, rfl, hg, _⟩
        · cases hi
        · simp only [Value.ownBlock, Option.some.injEq] at hi
          omega
      obtain ⟨hk, hk2, hk', hrg2⟩ := HX.out
      have hk25 : Kept (fun k => u3.ownBlock = some k) w2 w5 := (((Kept.refl _ w2).alloc _).alloc _).trans (Kept.of_grown hgrow)
      have hrg5 := hrg2.kept hk25 (fun e => by have := hgo _ e; have := HB.out.lt.2; omega) (fun e => by have := hgo _ e; omega)
      have hkw5 : Kept Nowhere w w5 := hk'.andThen hk25 (fun i hi e => by have := hgo _ e; omega)
      have hz5 : w.heap.size + 1 ≤ w5.heap.size := Nat.le_trans hw2 hk25.size
      have HR := Lib.hid (And.intro hrg5 (And.intro hkw5 (And.intro hz5 hown5)))
      clear hrg5 hkw5 hz5 hown5 hk25 hgo hk hk2 hk' hrg2 hgrow hat hlt
      go_wp2_with fail
      refine ⟨⟨done ++ [(key, val)], todo', ?_, HR.out.1, ?_, HR.out.2.1, HR.out.2.2.1, fun h => ?_⟩, ?_⟩
      · refine HP.out.trans ((HPT.out.append_left _).trans (List.Perm.of_eq ?_))
        simp
      · have h5 := HR.out.2.2.2
        rw [List.flatMap_append, List.length_append]
        simpa using h5
      · simp at h
      · rw [HR.out.1.todo, HRG.out.todo, HPT.out.length_eq]
        simp
end Go.Proofs.YtlaahjcdbdipdaaGreatDoor
