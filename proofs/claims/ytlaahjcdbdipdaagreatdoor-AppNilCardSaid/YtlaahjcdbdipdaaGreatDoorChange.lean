/- One change of a set: the contract of valset.change. -/
import Derived.Test.YtlaahjcdbdipdaaGreatDoorInsert
namespace Go.Proofs.YtlaahjcdbdipdaaGreatDoor
open Go Go.RowKit Go.MapKept Go.ChangeMaps

theorem Insert_any (w : World) (base : Nat) (v : Value) (l : List Val) (i : Nat) (x : Val) (vb : Nat) (hi : i ≤ l.length) (hbw : base ≤ w.heap.size) (hbig : (l.length + 1) * 16 ≤ 140737488355328)
    (h : w.ownsRow base 100 2 v l.length (l.flatMap valC)) (hvb : w.heap[vb]? = some (.cells #[u64V x.1, i64V x.2] 100 (0, 0))) (hne : v.ownBlock ≠ some vb) :
    Calls Tryz.prog 294 #[v, .int .i64 i, .slice (some ⟨vb, 0, none⟩) 1 1] w (InsPost base v l i x w) := by
  by_cases he : i = l.length
  · subst he; exact Insert_end w base v l x vb hbw hbig h hvb
  · obtain ⟨g, cap, cur, rfl, hbase, hlt, hh, h1, h2, h3, h4⟩ := own_some h (by omega)
    have hng : vb ≠ g := fun e => hne (by rw [e]; rfl)
    by_cases hroom : l.length + 1 ≤ cap
    · exact (Insert_shift w base g cap cur l i x vb (by omega) hroom hbase hh h2 h3 h4 hvb hng).mono fun e w' ⟨v', he, ho, hk⟩ => ⟨v', he, ho, hk.weaken (fun k _ hk => by rw [hk]; rfl)⟩
    · exact (Insert_grow w base g cap cur l i x vb (by omega) h1 (by omega) hbw hbig hh h3 h4 hvb).mono fun e w' ⟨v', he, ho, hk⟩ => ⟨v', he, ho, hk.weaken (fun _ _ h => h.elim)⟩
/-- What one change makes: its error, or the list. -/
def changeV (l : List Val) (c : Val) : Int × List Val :=
  if c.2 < 0 ∨ 1125899906842624 < c.2 then (72, []) else if c.2 = 0 then (if isV l c.1 then (0, l.eraseIdx (posV l c.1)) else (73, [])) else if isV l c.1 then (0, l.set (posV l c.1) c) else (0, putAt l (posV l c.1) c)
theorem isV_lt {l : List Val} {k : Nat} (h : isV l k = true) : posV l k < l.length := by
  unfold isV at h
  simp only [Bool.and_eq_true, decide_eq_true_eq] at h
  exact h.2
theorem isV_key {l : List Val} {k : Nat} (h : isV l k = true) : (l[posV l k]'(isV_lt h)).1 = k := by
  have hl := isV_lt h
  unfold isV at h
  simp only [Bool.and_eq_true, decide_eq_true_eq] at h
  rw [getD_of hl] at h
  exact h.1
theorem flat_set {l : List Val} {i : Nat} (h : i < l.length) (c : Val) : (l.set i c).flatMap valC = (l.take i).flatMap valC ++ valC c ++ (l.drop (i + 1)).flatMap valC := by
  rw [List.set_eq_take_append_cons_drop, if_pos h, List.flatMap_append, List.flatMap_cons, List.append_assoc]
theorem take_splice (A : List Value) (o n : Nat) (V : List Value) (h : o + V.length ≤ n) (ho : o ≤ A.length) : (A.take o ++ V ++ A.drop (o + V.length)).take n = A.take o ++ V ++ (A.take n).drop (o + V.length) := by
  have hl : (A.take o ++ V).length = o + V.length := by rw [List.length_append, List.length_take, Nat.min_eq_left ho]
  rw [List.take_append, hl, List.take_of_length_le (by rw [hl]; exact h), List.drop_take]
/-- Two cells written into a row of one's own. -/
theorem own_set {w : World} {base g cap : Nat} {cur : Array Value} {l : List Val} {i : Nat} (c : Val) (hi : i < l.length) (hbase : base ≤ g) (hh : w.heap[g]? = some (.cells cur 100 (0, 0))) (h1 : l.length ≤ cap) (h2 : cap ≤ maxLen) (h3 : cur.size = cap * 2) (h4 : cur.toList.take (l.length * 2) = l.flatMap valC) :
    ((w.setCell ⟨g, i * 2, none⟩ (u64V c.1)).setCell ⟨g, i * 2 + 1, none⟩ (i64V c.2)).ownsRow base 100 2 (.slice (some ⟨g, 0, none⟩) l.length cap) (l.set i c).length ((l.set i c).flatMap valC) := by
  have e1 : (w.setCell ⟨g, i * 2, none⟩ (u64V c.1)).setCell ⟨g, i * 2 + 1, none⟩ (i64V c.2) = w.setCells g (i * 2) (valC c) := rfl
  rw [e1]
  obtain ⟨cur', f1, f2, f3⟩ := heap_setCells_row (g := g) (t := 100) (valC c) (i * 2) hh (by rw [valC_length, h3]; omega)
  refine ⟨by rw [flat_length (enc := valC) (k := 2) (fun _ => rfl)], .inr ⟨g, cap, cur', by rw [List.length_set], hbase, f1, by rw [List.length_set]; exact h1, h2, by rw [f2, h3], ?_⟩⟩
  have hc2 : cur.toList.length = cap * 2 := by rw [Array.length_toList, h3]
  rw [f3, flat_set hi, List.length_set, take_splice _ _ _ _ (by rw [valC_length]; omega) (by omega), h4, valC_length, ← flat_take, ← flat_drop, ← h4, List.take_take, Nat.min_eq_left (by omega), show (i + 1) * 2 = i * 2 + 2 by omega]
/-- What change hands back. -/
def ChangePost (base : Nat) (v : Value) (r : Int × List Val) (w : World) (e : Ending) (w' : World) : Prop :=
  if r.1 = 0 then ∃ v', e = .returned (.tuple #[v', i64V 0]) ∧ w'.ownsRow base 100 2 v' r.2.length (r.2.flatMap valC) ∧ Kept (fun k => v.ownBlock = some k) w w'
  else e = .returned (.tuple #[.slice none 0 0, i64V r.1]) ∧ Kept Nowhere w w'
set_option maxHeartbeats 4000000 in
set_option maxRecDepth 100000 in
theorem change_any (w : World) (base : Nat) (v : Value) (l : List Val) (c : Val) (hr : Rising l) (hfit : ∀ x ∈ l, x.Fit) (hc : c.Fit) (hbw : base ≤ w.heap.size) (hbig : (l.length + 1) * 16 ≤ 140737488355328)
    (h : w.ownsRow base 100 2 v l.length (l.flatMap valC)) :
    Calls Tryz.prog 212 #[v, .agg #[u64V c.1, i64V c.2]] w (ChangePost base v (changeV l c) w) := by
  obtain ⟨key, pw⟩ := c
  simp only
  have hv : ValsAt w v l := vals_of_own h hfit (by unfold maxLen; omega)
  have k0 : Kept Nowhere w (w.alloc (.cells #[u64V key, i64V pw] 100)) := (Kept.refl _ _).alloc _
  have HS := Lib.hid (Search_any _ v l key (hv.still k0) hr (by omega))
  have hb0 := heap_alloc_new w (.cells #[u64V key, i64V pw] 100)
  have hown0 := ownsRow_kept h k0 (fun _ _ => id)
  have hposl := posV_le l key
  have HK0 := Lib.hid (And.intro k0 (And.intro hb0 hown0))
  obtain ⟨vp, vn, vc, rfl⟩ := own_slice' h
  have hcell0 : (w.alloc (.cells #[u64V key, i64V pw] 100)).cell? ⟨w.heap.size, 0, none⟩ = some (u64V key) := cell_of_alloc _ _ _ 0 _ rfl
  have hcell1 : (w.alloc (.cells #[u64V key, i64V pw] 100)).cell? ⟨w.heap.size, 1, none⟩ = some (i64V pw) := cell_of_alloc _ _ _ 1 _ rfl
  have hne : ¬ (Value.slice vp vn vc).ownBlock = some w.heap.size := fun e => by have := (own_row h e).2; omega
  obtain ⟨res, hres⟩ : ∃ r, changeV l (key, pw) = r := ⟨_, rfl⟩
  rw [hres]
  have HRes := Lib.hid hres
  obtain ⟨hf0, hp0, hp1⟩ := hc
  simp only at hf0 hp0 hp1
  have HR := Lib.hid hr
  have HF := Lib.hid hfit
  clear hres hv k0 hb0 hown0 h hr hfit hf0
  unfold changeV at HRes
  simp only at HRes
  go_enter Tryz.func212, Tryz.ntmps212
  go_wp2_with fail
  refine HS.out.mono ?_
  rintro e w1 ⟨rfl, hk1⟩
  have H1 := Lib.hid (And.intro (HK0.out.1.trans hk1) (And.intro ((hk1.block _ (by simp) id).trans HK0.out.2.1) (ownsRow_kept HK0.out.2.2 hk1 (fun _ _ => id))))
  have d0 := (hk1.cell (p := ⟨w.heap.size, 0, none⟩) (by simp) id).trans hcell0
  have d1 := (hk1.cell (p := ⟨w.heap.size, 1, none⟩) (by simp) id).trans hcell1
  clear hk1 hcell0 hcell1
  generalize hpos : posV l key = ps at HRes hposl
  generalize his : isV l key = is at HRes
  have HPI := Lib.hid (And.intro hpos his)
  clear hpos his
  by_cases hn : pw < 0
  · have hr1 : res = (72, []) := by rw [← HRes.out, if_pos (Or.inl hn)]
    subst hr1
    go_wp2_with fail
    first | go_ret | go_ret2
    exact ⟨rfl, H1.out.1⟩
  · by_cases hn2 : 1125899906842624 < pw
    · have hr1 : res = (72, []) := by rw [← HRes.out, if_pos (Or.inr hn2)]
      subst hr1
      go_wp2_with fail
      first | go_ret | go_ret2
      exact ⟨rfl, H1.out.1⟩
    · have hr0 := HRes.out
      rw [if_neg (by omega)] at hr0
      by_cases hz : pw = 0
      · rw [if_pos hz] at hr0
        subst hz
        cases is with
        | false =>
          have hr1 : res = (73, []) := by rw [← hr0]; rfl
          subst hr1
          clear hr0 HRes
          go_wp2_with fail
          first | go_ret | go_ret2
          exact ⟨rfl, H1.out.1⟩
        | true =>
          have hr1 : res = (0, l.eraseIdx ps) := by rw [← hr0]; rfl
          have hlt : ps < l.length := by have := isV_lt HPI.out.2; rw [HPI.out.1] at this; exact this
          subst hr1
          have HD := Lib.hid (Delete_any w1 base (.slice vp vn vc) l ps hlt H1.out.2.2)
          have hwi : IntKind.i64.wrap ((ps : Int) + 1) = (ps : Int) + 1 := by rw [IntKind.wrap_i64]; omega
          clear hr0 HRes
          go_wp2_with fail
          refine HD.out.mono ?_
          rintro e w2 ⟨v', rfl, hown, hk2⟩
          obtain ⟨up, un, uc, rfl⟩ := own_slice' hown
          have H2 := Lib.hid (And.intro hown ((H1.out.1.weaken (T := fun k => (Value.slice vp vn vc).ownBlock = some k) (fun _ _ h => h.elim)).trans hk2))
          clear hown hk2
          go_wp2_with fail
          first | go_ret | go_ret2
          exact ⟨_, rfl, H2.out.1, H2.out.2⟩
      · rw [if_neg hz] at hr0
        have hzb : (pw == 0) = false := by simpa using hz
        cases is with
        | false =>
          have hr1 : res = (0, putAt l ps (key, pw)) := by rw [← hr0]; rfl
          subst hr1
          clear hr0 HRes
          have hne1 : ¬ (Value.slice vp vn vc).ownBlock = some w1.heap.size := fun e => by have := (own_row H1.out.2.2 e).2; omega
          have k11 : Kept Nowhere w1 (w1.alloc (.cells #[u64V key, i64V pw] 100)) := (Kept.refl _ _).alloc _
          have HI := Lib.hid (Insert_any _ base (.slice vp vn vc) l ps (key, pw) w1.heap.size hposl (by have := H1.out.1.size; simp; omega) hbig (ownsRow_kept H1.out.2.2 k11 (fun _ _ => id)) (heap_alloc_new w1 _) hne1)
          have HK1 := Lib.hid (H1.out.1.trans k11)
          clear k11 hne1
          go_wp2_with fail
          refine HI.out.mono ?_
          rintro e w2 ⟨v', rfl, hown, hk2⟩
          obtain ⟨up, un, uc, rfl⟩ := own_slice' hown
          have H2 := Lib.hid (And.intro hown ((HK1.out.weaken (T := fun k => (Value.slice vp vn vc).ownBlock = some k) (fun _ _ h => h.elim)).trans hk2))
          clear hown hk2
          go_wp2_with fail
          first | go_ret | go_ret2
          exact ⟨_, rfl, H2.out.1, H2.out.2⟩
        | true =>
          have hr1 : res = (0, l.set ps (key, pw)) := by rw [← hr0]; rfl
          have hlt : ps < l.length := by have := isV_lt HPI.out.2; rw [HPI.out.1] at this; exact this
          subst hr1
          obtain ⟨g, cap, cur, hv, hbase, hgl, hh, h1, h2, h3, h4⟩ := own_some H1.out.2.2 (by omega)
          simp only [Value.slice.injEq] at hv
          obtain ⟨rfl, rfl, rfl⟩ := hv
          have hp00 : (0 : Int) ≤ (ps : Int) := by omega
          have hp01 : (ps : Int) < (l.length : Int) := by omega
          have hadd := add_none g 0 (ps * 2)
          rw [Nat.zero_add] at hadd
          have hsz : ps * 2 + 1 < cur.size := by rw [h3]; omega
          have r0 : w1.cell? ⟨g, ps * 2, none⟩ = some cur[ps * 2] := by simp [World.cell?, hh, show ps * 2 < cur.size by omega]
          have r1 : w1.cell? ⟨g, ps * 2 + 1, none⟩ = some cur[ps * 2 + 1] := by simp [World.cell?, hh, hsz]
          have z0 : w1.frozen? ⟨g, ps * 2, none⟩ = false := by simp [World.frozen?, hh]
          have z1 : w1.frozen? ⟨g, ps * 2 + 1, none⟩ = false := by simp [World.frozen?, hh]
          generalize cur[ps * 2] = u0 at r0
          generalize cur[ps * 2 + 1] = u1 at r1
          have HO : Hid (ChangePost base (.slice (some ⟨g, 0, none⟩) l.length vc) (0, l.set ps (key, pw)) w (.returned (.tuple #[.slice (some ⟨g, 0, none⟩) l.length vc, i64V 0])) ((w1.setCell ⟨g, ps * 2, none⟩ (u64V key)).setCell ⟨g, ps * 2 + 1, none⟩ (i64V pw))) :=
            ⟨_, rfl, own_set (key, pw) hlt hbase hh h1 h2 h3 h4, ((H1.out.1.weaken (T := fun k => (Value.slice (some ⟨g, 0, none⟩) l.length vc).ownBlock = some k) (fun _ _ h => h.elim)).setCell (p := ⟨g, ps * 2, none⟩) (fun _ => rfl) _).setCell (p := ⟨g, ps * 2 + 1, none⟩) (fun _ => rfl) _⟩
          clear hr0 HRes hh h1 h2 h3 h4 hsz hbase hgl
          go_wp2_with fail
          first | go_ret | go_ret2
          exact HO.out
end Go.Proofs.YtlaahjcdbdipdaaGreatDoor
