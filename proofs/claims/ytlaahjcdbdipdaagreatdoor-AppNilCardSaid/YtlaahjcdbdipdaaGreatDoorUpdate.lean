/- A set behind changes: the contract of valset.Update. -/
import Derived.Test.YtlaahjcdbdipdaaGreatDoorChange
namespace Go.Proofs.YtlaahjcdbdipdaaGreatDoor
open Go Go.RowKit Go.MapKept Go.ChangeMaps

theorem right_len' {l : List Val} (h : rightV l = true) : l.length ≤ 64 := by
  unfold rightV at h
  simp only [Bool.and_eq_true, decide_eq_true_eq] at h
  exact h.2
theorem boundary (key : Nat) : ∀ {l : List Val}, Rising l → ∃ i, i ≤ l.length ∧ (∀ t (h : t < l.length), t < i → l[t].1 < key) ∧ ∀ t (h : t < l.length), i ≤ t → key ≤ l[t].1
  | [], _ => ⟨0, Nat.le_refl _, fun t h => by simp at h, fun t h => by simp at h⟩
  | a :: r, hr => by
    obtain ⟨ha, hr'⟩ := List.pairwise_cons.1 hr
    obtain ⟨i, hi, h1, h2⟩ := boundary key hr'
    by_cases h : a.1 < key
    · refine ⟨i + 1, by simpa using hi, fun t ht hti => ?_, fun t ht hti => ?_⟩
      · rcases t with _ | t
        · exact h
        · exact h1 t (by simpa using ht) (by omega)
      · rcases t with _ | t
        · omega
        · exact h2 t (by simpa using ht) (by omega)
    · refine ⟨0, Nat.zero_le _, fun t _ h => by omega, fun t ht _ => ?_⟩
      rcases t with _ | t
      · show key ≤ a.1; omega
      · have := ha (r[t]'(by simpa using ht)) (List.getElem_mem _)
        show key ≤ (r[t]'(by simpa using ht)).1
        omega
theorem pos_facts {l : List Val} (hr : Rising l) (key : Nat) : (∀ t (h : t < l.length), t < posV l key → l[t].1 < key) ∧ ∀ t (h : t < l.length), posV l key ≤ t → key ≤ l[t].1 := by
  obtain ⟨i, hi, h1, h2⟩ := boundary key hr
  rw [posV_of hi h1 h2]
  exact ⟨h1, h2⟩
theorem rising_get {l : List Val} (hr : Rising l) {i j : Nat} (hj : j < l.length) (hij : i < j) : (l[i]'(by omega)).1 < l[j].1 := List.pairwise_iff_getElem.1 hr i j (by omega) hj hij
theorem rising_putAt {l : List Val} (hr : Rising l) {c : Val} (h : isV l c.1 = false) : Rising (putAt l (posV l c.1) c) := by
  obtain ⟨h1, h2⟩ := pos_facts hr c.1
  have hp := posV_le l c.1
  have h3 : ∀ t (ht : t < l.length), posV l c.1 ≤ t → c.1 < l[t].1 := fun t ht hpt => by
    have hpl : posV l c.1 < l.length := by omega
    have h4 : c.1 < (l[posV l c.1]'hpl).1 := by
      have h5 := h2 _ hpl (Nat.le_refl _)
      have h6 : ¬ (l[posV l c.1]'hpl).1 = c.1 := fun e => by
        have : isV l c.1 = true := by unfold isV; rw [getD_of hpl]; simp [e, hpl]
        rw [h] at this; cases this
      omega
    by_cases e : posV l c.1 = t
    · subst e; exact h4
    · have := rising_get hr ht (by omega : posV l c.1 < t)
      omega
  unfold putAt Rising
  rw [List.pairwise_append, List.pairwise_cons]
  refine ⟨List.Pairwise.sublist (List.take_sublist _ _) hr, ⟨fun x hx => ?_, List.Pairwise.sublist (List.drop_sublist _ _) hr⟩, fun x hx y hy => ?_⟩
  · obtain ⟨t, ht, rfl⟩ := List.getElem_of_mem hx
    rw [List.getElem_drop]
    exact h3 _ _ (by omega)
  · obtain ⟨t, ht, rfl⟩ := List.getElem_of_mem hx
    rw [List.length_take] at ht
    have hx1 := h1 t (by omega) (by omega)
    rw [List.getElem_take]
    rcases List.mem_cons.1 hy with rfl | hy
    · exact hx1
    · obtain ⟨u, hu, rfl⟩ := List.getElem_of_mem hy
      rw [List.getElem_drop]
      have := h3 (posV l c.1 + u) (by rw [List.length_drop] at hu; omega) (by omega)
      omega
theorem rising_set {l : List Val} (hr : Rising l) {c : Val} (h : isV l c.1 = true) : Rising (l.set (posV l c.1) c) := by
  have hl := isV_lt h
  have hk := isV_key h
  refine List.pairwise_iff_getElem.2 fun i j hi hj hij => ?_
  rw [List.length_set] at hi hj
  have h0 := rising_get hr hj hij
  rw [List.getElem_set, List.getElem_set]
  by_cases e1 : posV l c.1 = i
  · rw [if_pos e1, if_neg (by omega)]
    subst e1; omega
  · rw [if_neg e1]
    by_cases e2 : posV l c.1 = j
    · rw [if_pos e2]; subst e2; omega
    · rw [if_neg e2]; exact h0
theorem changeV_facts {l : List Val} (hr : Rising l) (hf : ∀ x ∈ l, x.Fit) {c : Val} (hc : c.Fit) (h0 : (changeV l c).1 = 0) : Rising (changeV l c).2 ∧ (∀ x ∈ (changeV l c).2, x.Fit) ∧ (changeV l c).2.length ≤ l.length + 1 := by
  unfold changeV at h0 ⊢
  split at h0
  · cases h0
  · rename_i h1
    rw [if_neg h1]
    split at h0
    · rename_i h2
      rw [if_pos h2]
      split at h0
      · rename_i h3
        rw [if_pos h3]
        exact ⟨List.Pairwise.sublist (List.eraseIdx_sublist _ _) hr, fun x hx => hf x ((List.eraseIdx_sublist _ _).subset hx), Nat.le_trans (List.Sublist.length_le (List.eraseIdx_sublist _ _)) (Nat.le_succ _)⟩
      · cases h0
    · rename_i h2
      rw [if_neg h2]
      split
      · rename_i h3
        refine ⟨rising_set hr h3, fun x hx => ?_, by simp⟩
        rcases List.mem_or_eq_of_mem_set hx with h | rfl
        · exact hf x h
        · exact hc
      · rename_i h3
        have h3' : isV l c.1 = false := by simpa using h3
        refine ⟨rising_putAt hr h3', fun x hx => ?_, by rw [putAt_length (posV_le _ _)]; exact Nat.le_refl _⟩
        unfold putAt at hx
        rcases List.mem_append.1 hx with h | h
        · exact hf x (List.mem_of_mem_take h)
        · rcases List.mem_cons.1 h with rfl | h
          · exact hc
          · exact hf x (List.mem_of_mem_drop h)
/-- All changes. -/
def updGo : List Val → List Val → Int × List Val
  | l, [] => (0, l)
  | l, c :: r => if (changeV l c).1 = 0 then updGo (changeV l c).2 r else ((changeV l c).1, [])
/-- A set behind changes: its error, or the set. -/
def updateV (l cs : List Val) : Int × List Val :=
  if rightV l then (if (updGo l cs).1 = 0 then (if (sumGo 0 (updGo l cs).2).2 then (if rightV (updGo l cs).2 then (0, (updGo l cs).2) else (71, [])) else (72, [])) else ((updGo l cs).1, [])) else (71, [])
theorem rightV_rising {l : List Val} (h : rightV l = true) : Rising l := by
  unfold rightV at h
  simp only [Bool.and_eq_true] at h
  have hu := h.1.1.2
  unfold upK at hu
  rw [List.all_eq_true] at hu
  have hs : ∀ i (hi : i + 1 < l.length), l[i].1 < l[i + 1].1 := fun i hi => by
    have := hu (i + 1) (List.mem_range.2 hi)
    simp only [Bool.or_eq_true, decide_eq_true_eq] at this
    rcases this with h | h
    · omega
    · rw [show i + 1 - 1 = i from rfl, getD_of (by omega), getD_of hi] at h; exact h
  refine List.pairwise_iff_getElem.2 fun i j hi hj hij => ?_
  obtain ⟨d, rfl⟩ : ∃ d, j = i + 1 + d := ⟨j - (i + 1), by omega⟩
  clear hij
  induction d with
  | zero => exact hs i hj
  | succ d ih =>
    have h1 := ih (by omega)
    have h2 := hs (i + 1 + d) (by omega)
    show l[i].1 < (l[i + 1 + d + 1]'(by omega)).1
    omega
theorem updGo_step {l cs : List Val} {k : Nat} (h : k < cs.length) : updGo l (cs.drop k) = if (changeV l cs[k]).1 = 0 then updGo (changeV l cs[k]).2 (cs.drop (k + 1)) else ((changeV l cs[k]).1, []) := by
  rw [List.drop_eq_getElem_cons h]; rfl
/-- What Update hands back. -/
def UpdatePost (w : World) (r : Int × List Val) (e : Ending) (w' : World) : Prop :=
  if r.1 = 0 then ∃ v', e = .returned (.tuple #[v', i64V 0]) ∧ w'.ownsRow w.heap.size 100 2 v' r.2.length (r.2.flatMap valC) ∧ (∀ x ∈ r.2, x.Fit) ∧ Kept Nowhere w w'
  else e = .returned (.tuple #[.slice none 0 0, i64V r.1]) ∧ Kept Nowhere w w'
set_option maxHeartbeats 4000000 in
set_option maxRecDepth 100000 in
theorem Update_any (w : World) (v cv : Value) (l cs : List Val) (hv : ValsAt w v l) (hcv : ValsAt w cv cs) (hbig : (cs.length + 65) * 16 ≤ 140737488355328) :
    Calls Tryz.prog 126 #[v, cv] w (UpdatePost w (updateV l cs)) := by
  have HR := Lib.hid (Right_any w v l hv)
  have hfit : ∀ x ∈ l, x.Fit := fun x hx => by
    obtain ⟨i, hi, rfl⟩ := List.getElem_of_mem hx
    obtain ⟨_, _, _, _, _, hat⟩ := hv
    exact (hat i _ (List.getElem?_eq_getElem hi)).1
  obtain ⟨res, hres⟩ : ∃ r, updateV l cs = r := ⟨_, rfl⟩
  rw [hres]
  have HRes := Lib.hid hres
  unfold updateV at HRes
  clear hres
  by_cases hright : rightV l = true
  · rw [hright] at HR
    have hlen := right_len' hright
    have hris := rightV_rising hright
    have HRes2 : Hid ((if (updGo l cs).1 = 0 then (if (sumGo 0 (updGo l cs).2).2 then (if rightV (updGo l cs).2 then ((0 : Int), (updGo l cs).2) else (71, [])) else (72, [])) else ((updGo l cs).1, [])) = res) := by
      show _ = res
      rw [← HRes.out, if_pos hright]
    have HV := Lib.hid hv
    have HCV := Lib.hid hcv
    obtain ⟨ca, ccap, rfl, hcl, hcc, hcat⟩ := hcv
    obtain ⟨n, hn⟩ : ∃ n, cs.length = n := ⟨_, rfl⟩
    rw [hn] at hcl hcc hbig ⊢
    unfold maxLen at hcl
    have HA := Lib.hid hcat
    have HN := Lib.hid hn
    have HF := Lib.hid (And.intro hfit (And.intro hris hlen))
    clear hright hlen hris hfit hv hcat hn HRes
    go_enter Tryz.func126, Tryz.ntmps126
    go_wp2_with fail
    refine HR.out.mono ?_
    rintro e w1 ⟨rfl, hk1⟩
    have HK1 := Lib.hid hk1
    clear hk1
    go_wp2_with fail
    refine (CloneV_any w1 v l (HV.out.still HK1.out) (by have := HF.out.2.2; omega)).mono ?_
    rintro e w2 ⟨v', rfl, hown, hk2⟩
    have H2 := Lib.hid (And.intro (ownsRow_lower hown HK1.out.size) (HK1.out.trans hk2))
    clear hown hk2
    go_wp2_with fail
    go_loopw [6, 19] (fun s i wr => ∃ (k : Nat) (out : List Val), k ≤ n ∧ i = .int .i64 k ∧ Hid (wr.ownsRow w.heap.size 100 2 s out.length (out.flatMap valC) ∧ updGo out (cs.drop k) = updGo l cs ∧ Rising out ∧ (∀ x ∈ out, x.Fit) ∧ out.length ≤ 64 + k ∧ Kept Nowhere w wr)) (fun _ i _ => n - (iOf i).toNat)
    case atStart => exact ⟨0, l, Nat.zero_le _, rfl, H2.out.1, rfl, HF.out.2.1, HF.out.1, by have := HF.out.2.2; omega, H2.out.2⟩
    case round =>
      obtain ⟨k, out, hk, rfl, HI⟩ := hrel
      by_cases hlt : k < n
      · have hk0 : (0 : Int) ≤ (k : Int) := Int.natCast_nonneg _
        obtain ⟨hcf, g, o, rfl, hg, c0, c1⟩ := HA.out k _ (List.getElem?_eq_getElem (by rw [HN.out]; exact hlt))
        have hstep := updGo_step (l := out) (cs := cs) (k := k) (by rw [HN.out]; exact hlt)
        generalize (cs[k]'(by rw [HN.out]; exact hlt)) = c at hcf c0 c1 hstep
        have hadd := add_none g o (k * 2)
        have d0 := (HI.out.2.2.2.2.2.cell (p := ⟨g, _, none⟩) hg id).trans c0
        have d1 := (HI.out.2.2.2.2.2.cell (p := ⟨g, _, none⟩) hg id).trans c1
        clear c0 c1
        have hfacts := changeV_facts HI.out.2.2.1 HI.out.2.2.2.1 hcf
        have kk : Kept Nowhere wr (wr.alloc (.cells #[u64V c.1, i64V c.2] 100)) := (Kept.refl _ _).alloc _
        have HC := Lib.hid (change_any (wr.alloc (.cells #[u64V c.1, i64V c.2] 100)) w.heap.size u6 out c HI.out.2.2.1 HI.out.2.2.2.1 hcf (by have := HI.out.2.2.2.2.2.size; simp; omega) (by have := HI.out.2.2.2.2.1; omega) (ownsRow_kept HI.out.1 kk (fun _ _ => id)))
        generalize changeV out c = r at HC hstep hfacts
        obtain ⟨re, rl⟩ := r
        obtain ⟨ck, cp⟩ := c
        simp only at hstep hfacts d0 d1 HC
        have HKA := Lib.hid (HI.out.2.2.2.2.2.trans kk)
        have HST := Lib.hid hstep
        have HFA := Lib.hid hfacts
        clear hstep hfacts kk hcf
        by_cases he : re = 0
        · subst he
          have hfx := HFA.out rfl
          have hst2 : updGo rl (cs.drop (k + 1)) = updGo l cs := by rw [← HI.out.2.1, HST.out, if_pos rfl]
          have HFX := Lib.hid (And.intro hfx hst2)
          clear hfx hst2 HFA HST
          go_wp2_with fail
          refine HC.out.mono ?_
          rintro e w3 ⟨v2, rfl, hown2, hk3⟩
          have HI2 : Hid (w3.ownsRow w.heap.size 100 2 v2 rl.length (rl.flatMap valC) ∧ updGo rl (cs.drop (k + 1)) = updGo l cs ∧ Rising rl ∧ (∀ x ∈ rl, x.Fit) ∧ rl.length ≤ 64 + (k + 1) ∧ Kept Nowhere w w3) := by
            obtain ⟨i1, i2, i3, i4, i5, i6⟩ := HI.out
            obtain ⟨⟨f1, f2, f3⟩, f4⟩ := HFX.out
            exact ⟨hown2, f4, f1, f2, by omega, HKA.out.andThen hk3 (fun j hj e => by have := (own_row i1 e).1; omega)⟩
          clear hown2 hk3 HI HFX HKA HC d0 d1
          go_wp2_with fail
          exact ⟨⟨k + 1, rl, by omega, by go_num, HI2.out⟩, by simp [iOf]; omega⟩
        · have hre : (re != 0) = true := by simpa using he
          have hr1 : res = (re, []) := by
            have h1 := HI.out.2.1
            rw [HST.out, if_neg he] at h1
            rw [← HRes2.out, ← h1, if_neg he]
          subst hr1
          have HC2 : Hid (Calls Tryz.prog 212 #[u6, .agg #[u64V ck, i64V cp]] (wr.alloc (.cells #[u64V ck, i64V cp] 100)) fun e w' => e = .returned (.tuple #[.slice none 0 0, i64V re]) ∧ Kept Nowhere (wr.alloc (.cells #[u64V ck, i64V cp] 100)) w') := HC.out.mono fun e w' h => by
            unfold ChangePost at h; rw [if_neg he] at h; exact h
          have HPost : Hid (∀ w', Kept Nowhere w w' → UpdatePost w (re, []) (.returned (.tuple #[.slice none 0 0, i64V re])) w') := fun w' hk => by
            unfold UpdatePost; rw [if_neg he]; exact ⟨rfl, hk⟩
          clear he HC HFA HST HI
          go_wp2_with fail
          refine HC2.out.mono ?_
          rintro e w3 ⟨rfl, hk3⟩
          have HK3 := Lib.hid (HKA.out.trans hk3)
          clear hk3 d0 d1
          go_wp2_with fail
          first | go_ret | go_ret2
          exact HPost.out _ HK3.out
      · obtain rfl : k = n := by omega
        obtain ⟨i1, i2, i3, i4, i5, i6⟩ := HI.out
        rw [← HN.out, List.drop_length] at i2
        have hu : updGo l cs = (0, out) := i2.symm
        have hres := HRes2.out
        rw [hu, if_pos rfl] at hres
        simp only at hres
        have hlo : out.length ≤ maxLen := by unfold maxLen; omega
        have HS := Lib.hid (Sum_any wr u6 out (vals_of_own i1 i4 hlo))
        have HRt := Lib.hid (fun W (h : Kept Nowhere wr W) => Right_any W u6 out ((vals_of_own i1 i4 hlo).still h))
        obtain ⟨up, un, uc, rfl⟩ := own_slice' i1
        have HO := Lib.hid (And.intro i1 (And.intro i4 i6))
        clear i1 i2 i3 i4 i5 i6 hu hlo HI
        generalize hsum : sumGo 0 out = sv at hres HS
        obtain ⟨s1, s2⟩ := sv
        clear hsum
        cases s2 with
        | false =>
          have hr1 : res = (72, []) := by rw [← hres]; rfl
          subst hr1
          clear hres HRes2
          go_wp2_with fail
          refine HS.out.mono ?_
          rintro e w3 ⟨rfl, hk3⟩
          have HK3 := Lib.hid (HO.out.2.2.trans hk3)
          clear hk3
          go_wp2_with fail
          first | go_ret | go_ret2
          exact ⟨rfl, HK3.out⟩
        | true =>
          rw [if_pos rfl] at hres
          generalize hrt : rightV out = rt at hres HRt
          clear hrt
          cases rt with
          | false =>
            have hr1 : res = (71, []) := by rw [← hres]; rfl
            subst hr1
            clear hres HRes2
            go_wp2_with fail
            refine HS.out.mono ?_
            rintro e w3 ⟨rfl, hk3⟩
            have HK3 := Lib.hid hk3
            clear hk3
            go_wp2_with fail
            refine (HRt.out w3 HK3.out).mono ?_
            rintro e w4 ⟨rfl, hk4⟩
            have HK4 := Lib.hid (HO.out.2.2.trans (HK3.out.trans hk4))
            clear hk4
            go_wp2_with fail
            first | go_ret | go_ret2
            exact ⟨rfl, HK4.out⟩
          | true =>
            have hr1 : res = (0, out) := by rw [← hres]; rfl
            subst hr1
            clear hres HRes2
            go_wp2_with fail
            refine HS.out.mono ?_
            rintro e w3 ⟨rfl, hk3⟩
            have HK3 := Lib.hid hk3
            clear hk3
            go_wp2_with fail
            refine (HRt.out w3 HK3.out).mono ?_
            rintro e w4 ⟨rfl, hk4⟩
            have HK4 := Lib.hid (HK3.out.trans hk4)
            clear hk4
            go_wp2_with fail
            first | go_ret | go_ret2
            exact ⟨_, rfl, ownsRow_kept HO.out.1 HK4.out (fun _ _ => id), HO.out.2.1, HO.out.2.2.trans HK4.out⟩
  · have hr' : rightV l = false := by simpa using hright
    rw [hr'] at HR
    have hr1 : res = (71, []) := by rw [← HRes.out, if_neg hright]
    subst hr1
    clear hright hr' HRes hv hcv
    go_enter Tryz.func126, Tryz.ntmps126
    go_wp2_with fail
    refine HR.out.mono ?_
    rintro e w1 ⟨rfl, hk1⟩
    have HK1 := Lib.hid hk1
    clear hk1
    go_wp2_with fail
    first | go_ret | go_ret2
    exact ⟨rfl, HK1.out⟩
end Go.Proofs.YtlaahjcdbdipdaaGreatDoor
