/- On no app; before there is a client: the walk of the law. -/
import Derived.Test.YtlaahjcdbdipdaaGreatDoorAliveA
namespace Go.Proofs.YtlaahjcdbdipdaaGreatDoor
open Go Go.RowKit Go.MapKept Go.ChangeMaps

theorem wp_build_known {P : Program} {op : Oper} {a : Act} {w : World} {K : Act → World → Prop} {Q : Exit → Act → World → Prop} {v : Value} (ty : TypeId) (ho : op.op = .build ty #[])
    (hr : (Instr.build ty #[]).run P w = .ok v w) (h : K (a.put op.dst v) w) : op.wp P a w K Q := by
  unfold Oper.wp execOp
  simp only [ho, List.map_toArray, List.map_nil, hr, Sem.run_bind, Sem.run_pure, Result.andThen_ok]
  exact h
theorem wp_eql_known {P : Program} {op : Oper} {a : Act} {w : World} {K : Act → World → Prop} {Q : Exit → Act → World → Prop} {v : Value} (ty tr : TypeId) (x y : Operand) (ho : op.op = .binOp .eql ty x y tr)
    (u : Value) (hx : a.eval x = u) (hy : a.eval y = u)
    (hr : (do eqGuard .eql ty x y u u; binOp .eql ty u u : Sem Value).run P w = .ok v w) (h : K (a.put op.dst v) w) : op.wp P a w K Q := by
  unfold Oper.wp execOp
  simp only [ho, hx, hy]
  rw [Sem.run_bind, hr]
  simp only [Sem.run_pure, Result.andThen_ok]
  exact h
theorem wpList_wants {P : Program} {ops : Array Oper} {Q : Exit → Act → World → Prop} {a : Act} {w : World} {rest : List Oper} {o : Oper} (hw : Region.wanted o (yielded ops a.tmps) = true)
    (h : ∀ K : Act → World → Prop, (∀ a w, wpList P ops Q rest a w → K a w) → o.wp P a w K Q) : wpList P ops Q (o :: rest) a w :=
  wpList_step fun K hK => by rw [if_pos hw]; exact h K hK
theorem wpList_load_want {P : Program} {ops : Array Oper} {rest : List Oper} {op : Oper} {a : Act} {w : World} {Q : Exit → Act → World → Prop} (hw : Region.wanted op (yielded ops a.tmps) = true) (ty : TypeId) (x : Operand) (ho : op.op = .load ty x)
    (b o : Nat) (hx : a.eval x = .pointer (some ⟨b, o, none⟩)) (cs : List Value) (d : TypeDesc) (hc : w.rangeAt b o cs)
    (hu : P.underlying ty = some d) (hd : d.isRow = true) (hi : (P.info? ty).map (·.size) = some cs.length)
    (h : wpList P ops Q rest (a.put op.dst (.agg cs.toArray)) w) : wpList P ops Q (op :: rest) a w :=
  wpList_wants hw fun _ hK => wp_load_mid ty x ho b o hx cs d hc hu hd hi (hK _ _ h)
theorem wpList_build_want {P : Program} {ops : Array Oper} {rest : List Oper} {op : Oper} {a : Act} {w : World} {Q : Exit → Act → World → Prop} {v : Value} (hw : Region.wanted op (yielded ops a.tmps) = true) (ty : TypeId) (ho : op.op = .build ty #[])
    (hr : (Instr.build ty #[]).run P w = .ok v w) (h : wpList P ops Q rest (a.put op.dst v) w) : wpList P ops Q (op :: rest) a w :=
  wpList_wants hw fun _ hK => wp_build_known ty ho hr (hK _ _ h)
theorem wpList_eql_want {P : Program} {ops : Array Oper} {rest : List Oper} {op : Oper} {a : Act} {w : World} {Q : Exit → Act → World → Prop} {v : Value} (hw : Region.wanted op (yielded ops a.tmps) = true) (ty tr : TypeId) (x y : Operand) (ho : op.op = .binOp .eql ty x y tr)
    (u : Value) (hx : a.eval x = u) (hy : a.eval y = u) (hr : (do eqGuard .eql ty x y u u; binOp .eql ty u u : Sem Value).run P w = .ok v w) (h : wpList P ops Q rest (a.put op.dst v) w) : wpList P ops Q (op :: rest) a w :=
  wpList_wants hw fun _ hK => wp_eql_known ty tr x y ho u hx hy hr (hK _ _ h)
theorem eql_hash (x y : Operand) (w : World) : (do eqGuard .eql 27 x y (.agg hash0) (.agg hash0); binOp .eql 27 (.agg hash0) (.agg hash0) : Sem Value).run Tryz.prog w = .ok (.bool true) w := by kernel_rfl
theorem infoLight : (Tryz.prog.info? 34).map (·.size) = some 200 := by kernel_rfl
set_option maxRecDepth 100000 in
set_option maxHeartbeats 3200000 in
theorem AppNil_any (w : World) (t : TxS) (chs : List Val) (h : Int) (now : Nat) (ht : t.Ok) (hcs : ValsAt w t.chv chs) (hbig : (chs.length + 65) * 16 ≤ 140737488355328) (hL : Laid w) :
    Calls Tryz.prog 8 #[.agg t.cells.toArray, i64V h, .float .f64 now] w fun e w' => e = .returned (.bool true) ∧ Kept Nowhere w w' := by
  have HRo := Lib.hid Root_nil
  have HGr := Lib.hid Grant_nil
  have HTr := Lib.hid Trust_nil
  have HRu := Lib.hid Run_nil
  have HBa := Lib.hid Bank_nil
  have HEn := Lib.hid AppEntries_nil
  have HSe := Lib.hid Set_nil
  have HSn := Lib.hid Sent_nil
  have HKn := Lib.hid Known_nil
  have HCo := Lib.hid AppCopy_nil
  have hal := Lib.hid alloc_hash
  have hbu := Lib.hid build_hash
  have heq := Lib.hid eql_hash
  have HZ := Lib.hid (And.intro (show hash0.size = 32 by kernel_rfl) (And.intro (show hash0.all (·.oneCell') = true by kernel_rfl) Tryz.underlying27))
  generalize hash0 = Z at *
  have k0 : Kept Nowhere w (w.alloc (.cells t.cells.toArray 63)) := (Kept.refl _ w).alloc _
  have z0 : (w.alloc (.cells t.cells.toArray 63)).heap.size = w.heap.size + 1 := by simp
  have x0 := tx_new w ht 63
  obtain ⟨W0, hW0⟩ : ∃ W0, w.alloc (.cells t.cells.toArray 63) = W0 := ⟨_, rfl⟩
  rw [hW0] at k0 z0 x0
  have H0 := Lib.hid (And.intro k0 (And.intro z0 (And.intro x0 (And.intro ht (And.intro hcs hL)))))
  clear k0 z0 x0 ht hcs hL
  go_enter Tryz.func8, Tryz.ntmps8
  go_wp2_with fail
  refine (HRo.out _).mono ?_
  rintro e w1 ⟨rfl, hk1⟩
  have hnew := heap_alloc_new w1 (.cells Z 27)
  have hth : (w1.alloc (.cells Z 27)).there w1.heap.size 0 Z.size := fun j hj => by rw [Nat.zero_add]; simp only [World.cell?, World.frozen?, hnew]; simp [hj]
  obtain ⟨cur, e1, e2, e3⟩ := heap_setCells_row (g := w1.heap.size) (t := 27) Z.toList 0 hnew (by simp)
  have e4 : cur = Z := by
    apply Array.toList_inj.1
    rw [e3]
    simp
  rw [e4] at e1
  have k2 : Kept Nowhere W0 ((w1.alloc (.cells Z 27)).setCells w1.heap.size 0 Z.toList) := hk1.trans (((Kept.refl Nowhere w1).alloc _).andThen (kept_setCells w1.heap.size _ _ _) (fun i hi h => by omega))
  have HT := Lib.hid hth
  obtain ⟨W1, hW1⟩ : ∃ W1, (w1.alloc (.cells Z 27)).setCells w1.heap.size 0 Z.toList = W1 := ⟨_, rfl⟩
  rw [hW1] at e1 k2
  have H1 := Lib.hid (And.intro k2 e1)
  clear hth hnew e1 e2 e3 e4 k2
  go_wp2_with (first
    | refine wpList_alloc_known rfl _ rfl (hal.out _) ?_
    | (refine wpList_store_mid rfl _ _ _ rfl w1.heap.size 0 Z rfl rfl HT.out (by rw [HZ.out.1]; exact infoHash) HZ.out.2.1 ?_; rw [hW1]))
  refine (HGr.out _ _ _ _).mono ?_
  rintro e w2 ⟨rfl, rfl⟩
  have hT1 := H0.out.2.2.1.kept H0.out.2.2.2.1 H1.out.1 id
  obtain ⟨lc, hlc⟩ : ∃ lc, (t.cells.drop 14).take 200 = lc := ⟨_, rfl⟩
  have hlen := H0.out.2.2.2.1.len
  have hll : lc.length = 200 := by rw [← hlc]; simp [hlen]
  have hrl : W1.rangeAt w.heap.size 14 lc := fun j v hj => by
    have : t.cells[14 + j]? = some v := by
      rw [← hlc, List.getElem?_take] at hj
      split at hj
      · rwa [List.getElem?_drop] at hj
      · cases hj
    have := hT1.all _ _ this
    rwa [Nat.zero_add] at this
  have hrz : W1.rangeAt w1.heap.size 0 Z.toList := fun j v hj => by
    rw [Nat.zero_add, World.cell?, H1.out.2]
    simpa using hj
  have HL := Lib.hid (show ∀ W, Kept Nowhere W1 W → W.rangeAt w.heap.size 14 lc ∧ W.rangeAt w.heap.size 0 t.cells ∧ W.rangeAt w1.heap.size 0 Z.toList from fun W hk => ⟨fun j v hj => (hk.cell (p := ⟨w.heap.size, _, none⟩) (World.block_lt_of_cell? W1 _ (hrl j v hj)) id).trans (hrl j v hj), (hT1.kept H0.out.2.2.2.1 hk id).all, fun j v hj => (hk.cell (p := ⟨w1.heap.size, _, none⟩) (World.block_lt_of_cell? W1 _ (hrz j v hj)) id).trans (hrz j v hj)⟩)
  have HS := Lib.hid (And.intro hll hlen)
  clear hT1 hlc hlen hll hrl hrz
  go_wp2_with fail
  refine wp_load_mid _ _ rfl w.heap.size 14 rfl lc _ (HL.out _ (Kept.refl _ _)).1 Tryz.underlying34 rfl (by rw [HS.out.1]; exact infoLight) ?_
  go_wp2_with fail
  refine (HTr.out _ _ _ _).mono ?_
  rintro e w2 ⟨rfl, hk2⟩
  have H2 := Lib.hid hk2
  clear hk2
  go_wp2_with fail
  refine wp_load_mid _ _ rfl w.heap.size 0 rfl t.cells _ (HL.out _ H2.out).2.1 Tryz.underlying63 rfl (by rw [HS.out.2]; exact infoTx) ?_
  go_wp2_with fail
  refine (HRu.out _ _ _ _).mono ?_
  rintro e w3 ⟨rfl, hk3⟩
  have H3 := Lib.hid (H2.out.trans hk3)
  clear hk3
  go_wp2_with fail
  refine (HBa.out _).mono ?_
  rintro e w4 ⟨rfl, rfl⟩
  go_wp2_with fail
  refine (HEn.out _).mono ?_
  rintro e w4 ⟨rfl, rfl⟩
  go_wp2_with (first
    | refine wpList_load_want rfl 27 _ rfl w1.heap.size 0 rfl Z.toList _ (HL.out _ H3.out).2.2 HZ.out.2.2 rfl (by rw [Array.length_toList, HZ.out.1]; exact infoHash) ?_
    | refine wpList_build_want rfl 27 rfl (hbu.out _) ?_
    | refine wpList_eql_want rfl 27 _ _ _ rfl (.agg Z) rfl rfl (heq.out _ _ _) ?_)
  refine (HSe.out _).mono ?_
  rintro e w4 ⟨rfl, rfl⟩
  go_wp2_with fail
  refine (HSn.out _).mono ?_
  rintro e w4 ⟨rfl, rfl⟩
  go_wp2_with fail
  refine (HKn.out _).mono ?_
  rintro e w4 ⟨rfl, rfl⟩
  go_wp2_with fail
  refine (HCo.out _).mono ?_
  rintro e w4 ⟨rfl, rfl⟩
  have K3 : Hid (Kept Nowhere w w3) := (H0.out.1.trans H1.out.1).trans H3.out
  clear HRo HGr HTr HRu HBa HEn HSe HSn HKn HCo
  go_wp2_with fail
  refine (validators_any w3).mono ?_
  rintro e w5 ⟨v, rfl, hv, hk5⟩
  have H5 := Lib.hid (And.intro hv (And.intro hk5 (H0.out.2.2.2.2.2.still (K3.out.trans hk5))))
  clear hv hk5
  go_wp2_with fail
  refine (alive_newH w5 v H5.out.1 H5.out.2.2).mono ?_
  rintro e w6 ⟨p, rfl, ⟨pb, m1, m2, pc, m, tv, hi, f1, f2, f3, f4, f5, f6, f7⟩, hk6⟩
  have hk06 : Kept Nowhere w w6 := (K3.out.trans H5.out.2.1).trans hk6
  obtain ⟨n, hn⟩ : ∃ n, (runY BS.none theSet t chs).1 = n := ⟨_, rfl⟩
  have hrun := Lib.hid ((Run_any w6 p pb m1 m2 pc m tv aS bS BS.none 1 [] theSet t chs h now hi (by decide) H0.out.2.2.2.1 (H0.out.2.2.2.2.1.still hk06) hbig (H0.out.2.2.2.2.2.still hk06) (H0.out.2.2.2.2.2.still hk06).size).mono fun e w' hp => (show e = .returned (i64V n) ∧ Kept (fun k => k = p) w6 w' from hn ▸ ⟨hp.1, hp.2.1⟩))
  have hpl : w3.heap.size ≤ p := Nat.le_trans H5.out.2.1.size f1
  have H6 := Lib.hid (And.intro hk06 (And.intro hpl (And.intro hn (H3.out.trans (H5.out.2.1.trans hk6)))))
  clear hi f1 f2 f3 f4 f5 f6 f7 hk6 hk06 hn hpl
  go_wp2_with (refine wpList_load_mid rfl _ _ rfl w.heap.size 0 rfl t.cells _ (HL.out _ H6.out.2.2.2).2.1 Tryz.underlying63 rfl (by rw [HS.out.2]; exact infoTx) ?_)
  refine hrun.out.mono ?_
  rintro e w7 ⟨rfl, hk7⟩
  have hlt : w.heap.size < w3.heap.size := by
    have a1 := H0.out.2.1
    have a2 := H1.out.1.size
    have a3 := H3.out.size
    omega
  have x0 : w7.cell? ⟨w.heap.size, 0, none⟩ = some (i64V t.kind) := by
    have hT6 := H0.out.2.2.1.kept H0.out.2.2.2.1 (H1.out.1.trans H6.out.2.2.2) id
    exact (hT6.kept H0.out.2.2.2.1 hk7 (fun e => by have := H6.out.2.1; omega)).c0
  have hL7 : Laid w7 := (H0.out.2.2.2.2.2.still H6.out.1).kept hk7 (fun k hk e => by have := H6.out.2.1; have := H0.out.2.2.2.2.2.size; omega)
  have hK7 : Kept Nowhere w w7 := H6.out.1.andThen hk7 (fun i hi e => by have := H6.out.2.1; omega)
  have HA := Lib.hid (aliveA_any w7 hL7)
  have H7 := Lib.hid hK7
  clear hk7 hlt hL7 hK7 hrun
  have hr := H6.out.2.2.1
  unfold runY at hr
  obtain ⟨kind, hkind⟩ : ∃ k, t.kind = k := ⟨_, rfl⟩
  rw [hkind] at hr x0
  clear hkind
  by_cases h1 : kind < 1
  · rw [if_pos (Or.inl h1)] at hr
    simp only at hr
    subst hr
    have b1 : (kind == 1) = false := by simp; omega
    have b7 : (kind == 7) = false := by simp; omega
    go_wp2_with fail
    refine HA.out.mono ?_
    rintro e w8 ⟨rfl, hk8⟩
    have x8 := (hk8.cell (p := ⟨w.heap.size, 0, none⟩) (World.block_lt_of_cell? w7 _ x0) id).trans x0
    have H8 := Lib.hid (H7.out.trans hk8)
    clear x0 hk8
    go_wp2_with fail
    go_ret
    exact ⟨rfl, H8.out⟩
  by_cases h7 : 7 < kind
  · rw [if_pos (Or.inr h7)] at hr
    simp only at hr
    subst hr
    have b1 : (kind == 1) = false := by simp; omega
    have b7 : (kind == 7) = false := by simp; omega
    go_wp2_with fail
    refine HA.out.mono ?_
    rintro e w8 ⟨rfl, hk8⟩
    have x8 := (hk8.cell (p := ⟨w.heap.size, 0, none⟩) (World.block_lt_of_cell? w7 _ x0) id).trans x0
    have H8 := Lib.hid (H7.out.trans hk8)
    clear x0 hk8
    go_wp2_with fail
    go_ret
    exact ⟨rfl, H8.out⟩
  by_cases e1 : kind = 1
  · subst e1
    clear hr
    go_wp2_with fail
    refine HA.out.mono ?_
    rintro e w8 ⟨rfl, hk8⟩
    have x8 := (hk8.cell (p := ⟨w.heap.size, 0, none⟩) (World.block_lt_of_cell? w7 _ x0) id).trans x0
    have H8 := Lib.hid (H7.out.trans hk8)
    clear x0 hk8
    go_wp2_with fail
    go_ret
    exact ⟨rfl, H8.out⟩
  by_cases e7 : kind = 7
  · subst e7
    clear hr
    go_wp2_with fail
    refine HA.out.mono ?_
    rintro e w8 ⟨rfl, hk8⟩
    have x8 := (hk8.cell (p := ⟨w.heap.size, 0, none⟩) (World.block_lt_of_cell? w7 _ x0) id).trans x0
    have H8 := Lib.hid (H7.out.trans hk8)
    clear x0 hk8
    go_wp2_with fail
    go_ret
    exact ⟨rfl, H8.out⟩
  · rw [if_neg (by omega), if_pos ⟨e1, e7⟩] at hr
    simp only at hr
    subst hr
    have b1 : (kind == 1) = false := by simpa using e1
    have b7 : (kind == 7) = false := by simpa using e7
    have g1 : 1 ≤ kind := by omega
    have g7 : kind ≤ 7 := by omega
    clear e1 e7 h1 h7
    go_wp2_with fail
    refine HA.out.mono ?_
    rintro e w8 ⟨rfl, hk8⟩
    have x8 := (hk8.cell (p := ⟨w.heap.size, 0, none⟩) (World.block_lt_of_cell? w7 _ x0) id).trans x0
    have H8 := Lib.hid (H7.out.trans hk8)
    clear x0 hk8
    go_wp2_with fail
    go_ret
    exact ⟨rfl, H8.out⟩
end Go.Proofs.YtlaahjcdbdipdaaGreatDoor
