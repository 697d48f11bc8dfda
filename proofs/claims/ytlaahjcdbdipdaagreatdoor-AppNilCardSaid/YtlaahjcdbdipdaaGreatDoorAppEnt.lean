/- An app's entries: the contract of Entries. -/
import Derived.Test.YtlaahjcdbdipdaaGreatDoorSortA
import Derived.Test.YtlaahjcdbdipdaaGreatDoorChanEnt
import Derived.Test.YtlaahjcdbdipdaaGreatDoorEntries
import Derived.Test.YtlaahjcdbdipdaaGreatDoorRunAt
import Derived.Deep.MidRow
namespace Go.Proofs.YtlaahjcdbdipdaaGreatDoor
open Go Go.RowKit Go.MapKept Go.ChangeMaps Go.Sort

/-- Nothing is appended. -/
theorem run_append_none {P : Program} (w : World) (t ty e : TypeId) (i : TypeInfo) (ht : P.underlying t = some (.slice e)) (hi : P.info? e = some i) (a : Option Addr) (n c : Nat) (hn : n ≤ c) :
    (Builtin.append_ #[t, t] ty #[.slice a n c, .slice none 0 0]).run P w = .ok (.slice a n c) w := by
  cases a <;> simp [Builtin.append_, run_underlying ht, sizeOf, typeInfo, hi, Builtin.lenOf, Builtin.firstCells, hn, storeCells]
theorem own_le {w : World} {base e size n vn vc : Nat} {vp : Option Addr} {xs : List Value} (h : w.ownsRow base e size (.slice vp vn vc) n xs) : vn = n ∧ vn ≤ vc := by
  rcases h.2 with ⟨h1, h2⟩ | ⟨g, cap, cur, h1, h2, h3, h4, h5⟩
  · cases h1; exact ⟨h2.symm, Nat.le_refl _⟩
  · cases h1; exact ⟨rfl, h4⟩
theorem own_cells {w : World} {base e n n' k : Nat} {g cap : Nat} {xs : List Value} (h : w.ownsRow base e k (.slice (some ⟨g, 0, none⟩) n' cap) n xs) : ∀ j u, xs[j]? = some u → w.cell? ((⟨g, 0, none⟩ : Addr).add j) = some u := fun j u hu => by
  rcases h.2 with ⟨h1, h2⟩ | ⟨g', cap', cur, h1, h2, h3, h4, h5, h6, h7⟩
  · cases h1
  · cases h1
    rw [Addr.add_mid, Nat.zero_add]
    have hj : cur.toList[j]? = some u := by
      rw [← h7, List.getElem?_take] at hu
      split at hu
      · exact hu
      · cases hu
    simp only [World.cell?, h3]
    simpa using hj
theorem encEnt_one (M : List (BA × BA)) : ∀ u ∈ M.flatMap encEnt, u.oneCell' = true := fun u hu => by
  obtain ⟨x, _, hx⟩ := List.mem_flatMap.1 hu
  simp [encEnt] at hx
  rcases hx with rfl | rfl <;> rfl
theorem step_append_known {P : Program} {ops : Array Oper} {o : Oper} {a : Act} {w : World} {K : Act → World → Prop} {Q : Exit → Act → World → Prop} {R : Prop}
    (hg : o.guard = none) (d x : Operand) (t : TypeId) (hop : o.op = .call { callee := .builtin .append, args := #[d, x], argTypes := #[t, t] })
    (v u : Value) (hd : a.eval d = v) (hx : a.eval x = u) {v' : Value} {w' : World} (hr : (Builtin.append_ #[t, t] o.type #[v, u]).run P w = .ok v' w') (hK : K (a.put o.dst v') w') :
    if Region.wanted o (yielded ops a.tmps) = true then Oper.wp P o a w K Q else R := by
  have hw : Region.wanted o (yielded ops a.tmps) = true := by simp [Region.wanted, hg]
  rw [if_pos hw]
  unfold Oper.wp
  simp only [execOp, hop, resolve, invoke, builtin, Sem.run_bind, Sem.run_pure, Result.andThen_ok, List.map_toArray, List.map_cons, List.map_nil, hd, hx, hr]
  exact hK
/-- What an app's Entries hands back. -/
def AppEntPost (w : World) (A : List ((BA × BA) × Nat)) (E : List (BA × BA)) (e : Ending) (w' : World) : Prop :=
  ∃ v M, e = .returned v ∧ M.Perm (A.map entOf ++ E) ∧ ByKeys M ∧ w'.ownsRow w.heap.size 93 2 v M.length (M.flatMap encEnt) ∧ Kept Nowhere w w'
set_option maxRecDepth 100000 in
set_option maxHeartbeats 1600000 in
theorem AppEntries_any (w : World) (p pb m1 m2 pc m : Nat) (tv : Value) (own other : BA) (kv sv : Value) (b : BS) (next : Int) (E : List (BA × BA)) (set : List Val)
    (h : AppIs w p pb m1 m2 pc m tv own other kv sv b next E set) (hL : Laid w) (hA : b.A.length ≤ 1000000) (hAn : ∀ x ∈ b.A, x.1.1.size ≤ 16 ∧ x.1.2.size ≤ 40 ∧ x.2 ≤ 18446744073709551615) (hE : E.length ≤ 1000000) :
    Calls Tryz.prog 17 #[ptr p] w (AppEntPost w b.A E) := by
  obtain ⟨i0, hi0, hz0, hz1, hz2⟩ := info_parts infoEntryC
  have c2 := h.c2
  have c3 := h.c3
  have hp := h.lt.1
  have HC := Lib.hid (show ∀ W, Kept Nowhere w W → W.cell? ⟨p, 2, none⟩ = some (ptr pb) ∧ W.cell? ⟨p, 3, none⟩ = some (ptr pc) from fun W hk => ⟨(h.still hk).c2, (h.still hk).c3⟩)
  have HEb := Lib.hid (fun W (hk : Kept Nowhere w W) => Entries_any W pb m1 m2 b.A b.S (h.bank.still hk) (hL.still hk) hA hAn)
  have HEc := Lib.hid (fun W (hk : Kept Nowhere w W) => ChanEntries_any W pc m own other next E (h.chan.still hk) hE)
  have HSo := Lib.hid SortFuncA_any
  clear h hL hAn
  by_cases hE0 : E = []
  · have HEc0 := Lib.hid (show ∀ W (hk : Kept Nowhere w W), Calls Tryz.prog 52 #[ptr pc] W fun e w' => e = .returned (.slice none 0 0) ∧ Kept Nowhere W w' from fun W hk => (HEc.out W hk).mono fun e w' ⟨v, M, he, hp, _, _, hk', hn⟩ => by
      rw [hn hE0] at he
      exact ⟨he, hk'⟩)
    have HE0 := Lib.hid hE0
    clear hE0 HEc
    go_enter Tryz.func17, Tryz.ntmps17
    go_wp2_with fail
    go_region_held3 (fun W => W.cell? ⟨p, 2, none⟩ = some (ptr pb) ∧ W.cell? ⟨p, 3, none⟩ = some (ptr pc))
      (first
        | exact HC.out _ (Kept.refl _ _)
        | exact HC.out _ (Kept.refl _ _).drew
        | exact HC.out _ hq1.out
        | exact HC.out _ hq2.out)
      (first
        | (go_at_call 33; refine (HEb.out _ (Kept.refl _ _).drew).mono ?_; rintro e w1 ⟨v1, M1, rfl, hp1, hs1, ho1, hk1⟩; obtain ⟨vp, vn, vc, rfl⟩ := own_slice' ho1; have hq1 := Lib.hid (show Kept Nowhere w w1 from (Kept.refl _ _).drew.trans hk1))
        | (go_at_call 52; refine (HEc0.out _ hq1.out).mono ?_; rintro e w2 ⟨rfl, hk2⟩; have hq2 := Lib.hid (show Kept Nowhere w w2 from hq1.out.trans hk2))
        | (refine step_append_known (by rfl) _ _ 49 (by rfl) (.slice vp vn vc) (.slice none 0 0) (by rfl) (by rfl) (run_append_none _ _ _ 93 i0 Tryz.underlying49 hi0 _ _ _ (own_le ho1).2) ?_))
    have ho2 : w2.ownsRow w.heap.size 93 2 (.slice vp vn vc) M1.length (M1.flatMap encEnt) := ownsRow_kept ho1 hk2 (fun _ _ => id)
    have hm1 : M1.length ≤ 1000000 := by have := hp1.length_eq; rw [List.length_map] at this; omega
    have hsort := Lib.hid (HSo.out w2 w.heap.size (.slice vp vn vc) M1 (by omega) ho2)
    have HX := Lib.hid (And.intro ho2 hp1)
    clear ho1 ho2 hp1 hs1 hk1 hk2 hm1 hq1
    go_wp2_with fail
    refine hsort.out.mono ?_
    rintro e w3 ⟨rfl, M, hpM, hsM, ho, hk3⟩
    have HQ := Lib.hid (And.intro hpM (And.intro hsM (And.intro ho hk3)))
    clear hpM hsM ho hk3
    go_wp2_with fail
    go_ret
    obtain ⟨hpM, hsM, ho, hk3⟩ := HQ.out
    have hlm : M.length = M1.length := hpM.length_eq
    refine ⟨_, M, rfl, ?_, hsM, by rw [hlm]; exact ho, hq2.out.andThen hk3 (fun i hi hb => ?_)⟩
    · rw [HE0.out, List.append_nil]; exact hpM.trans HX.out.2
    · have := (own_row HX.out.1 hb).1
      omega
  · have hEl : 0 < E.length := by cases E with | nil => exact absurd rfl hE0 | cons x r => simp
    have HEc0 := Lib.hid (show ∀ W (hk : Kept Nowhere w W), Calls Tryz.prog 52 #[ptr pc] W fun e w' => ∃ (M : List (BA × BA)) (g n cap : Nat), e = .returned (.slice (some ⟨g, 0, none⟩) n cap) ∧ M.Perm E ∧ n = M.length ∧ w'.ownsRow W.heap.size 93 2 (.slice (some ⟨g, 0, none⟩) n cap) M.length (M.flatMap encEnt) ∧ Kept Nowhere W w' from fun W hk => (HEc.out W hk).mono fun e w' ⟨v, M, he, hp, _, ho, hk', hn⟩ => by
      have hl := hp.length_eq
      obtain ⟨g, cap, rfl, hb, hlt⟩ := ho.form (by omega)
      exact ⟨M, g, M.length, cap, he, hp, rfl, ho, hk'⟩)
    clear HEc hE0
    go_enter Tryz.func17, Tryz.ntmps17
    go_wp2_with fail
    go_region_held3 (fun W => W.cell? ⟨p, 2, none⟩ = some (ptr pb) ∧ W.cell? ⟨p, 3, none⟩ = some (ptr pc))
      (first
        | exact HC.out _ (Kept.refl _ _)
        | exact HC.out _ (Kept.refl _ _).drew
        | exact HC.out _ hq1.out
        | exact HC.out _ hq2.out
        | exact HC.out _ hq3.out)
      (first
        | (go_at_call 33; refine (HEb.out _ (Kept.refl _ _).drew).mono ?_; rintro e w1 ⟨v1, M1, rfl, hp1, hs1, ho1, hk1⟩; obtain ⟨vp, vn, vc, rfl⟩ := own_slice' ho1; have hq1 := Lib.hid (show Kept Nowhere w w1 from (Kept.refl _ _).drew.trans hk1))
        | (go_at_call 52; refine (HEc0.out _ hq1.out).mono ?_; rintro e w2 ⟨M2, g2, n2, k2, rfl, hp2, hn2, ho2, hk2⟩; have hq2 := Lib.hid (show Kept Nowhere w w2 from hq1.out.trans hk2); have hlen1 := hp1.length_eq; have hlen2 := hp2.length_eq; rw [List.length_map] at hlen1; have ho12 : w2.ownsRow w.heap.size 93 2 (.slice vp vn vc) M1.length (M1.flatMap encEnt) := ownsRow_kept ho1 hk2 (fun _ _ => id); have hnews := own_cells ho2; have hfl := flat_length (enc := encEnt) (k := 2) (fun _ => rfl) M2; have HEq := Lib.hid (And.intro (own_le ho12).1 (And.intro hlen1 (And.intro hlen2 (And.intro hn2 hfl)))); have hgr := hq2.out.size; clear hlen1 hlen2 hn2 hfl)
        | (refine step_append_lies _ (by rfl) _ _ _ (by rfl) w.heap.size 93 i0 _ 2 32 Tryz.underlying49 hi0 hz0 hz1 hz2 rfl (by omega) (.slice vp vn vc) M1.length (M1.flatMap encEnt) (by rfl) ho12 ⟨g2, 0, none⟩ n2 k2 (M2.flatMap encEnt) (by rfl) (by rw [HEq.out.2.2.2.1]; exact HEq.out.2.2.2.2) hnews (encEnt_one M2) (by have := HEq.out; omega) (by have := HEq.out; unfold maxLen; omega) (by have := HEq.out; omega) hgr w2.heap.size (by rfl) ?_; intro g cap w5 hown5 hgrow hat hlt; have hq3 := Lib.hid (show Kept Nowhere w w5 from hq2.out.andThen (Kept.of_grown hgrow) (fun i hi hb => by have := (own_row ho12 hb).1; omega))))
    have ho5 : w5.ownsRow w.heap.size 93 2 (.slice (some ⟨g, 0, none⟩) (M1.length + n2) cap) (M1 ++ M2).length ((M1 ++ M2).flatMap encEnt) := by
      rw [List.length_append, List.flatMap_append, ← HEq.out.2.2.2.1]
      exact hown5
    have hsort := Lib.hid (HSo.out w5 w.heap.size (.slice (some ⟨g, 0, none⟩) (M1.length + n2) cap) (M1 ++ M2) (by have := HEq.out; rw [List.length_append]; omega) ho5)
    have HX := Lib.hid (And.intro ho5 (And.intro hp1 hp2))
    clear ho1 ho2 hp1 hs1 hk1 hk2 hq1 hq2 hp2 ho12 hnews hgr hown5 hgrow hat hlt ho5
    go_wp2_with fail
    refine hsort.out.mono ?_
    rintro e w6 ⟨rfl, M, hpM, hsM, ho, hk3⟩
    have HQ := Lib.hid (And.intro hpM (And.intro hsM (And.intro ho hk3)))
    clear hpM hsM ho hk3
    go_wp2_with fail
    go_ret
    obtain ⟨hpM, hsM, ho, hk3⟩ := HQ.out
    have hlm : M.length = (M1 ++ M2).length := hpM.length_eq
    refine ⟨_, M, rfl, hpM.trans (List.Perm.append HX.out.2.1 HX.out.2.2), hsM, by rw [hlm]; exact ho, hq3.out.andThen hk3 (fun i hi hb => ?_)⟩
    have := (own_row HX.out.1 hb).1
    omega
end Go.Proofs.YtlaahjcdbdipdaaGreatDoor
