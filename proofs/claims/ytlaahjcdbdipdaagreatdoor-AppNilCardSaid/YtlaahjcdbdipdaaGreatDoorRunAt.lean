/- A transaction at an app that has no client, whole or not: the contracts of Run's closure and Run; what is asked of no app. -/
import Derived.Test.YtlaahjcdbdipdaaGreatDoorRunTx
namespace Go.Proofs.YtlaahjcdbdipdaaGreatDoor
open Go Go.RowKit Go.MapKept Go.ChangeMaps

theorem wpList_alloc_known {P : Program} {ops : Array Oper} {rest : List Oper} {op : Oper} {a : Act} {w w' : World} {Q : Exit → Act → World → Prop} {v : Value} (hgd : op.guard = none) (ty : TypeId) (ho : op.op = .alloc ty)
    (hr : (Instr.alloc ty true (.tuple #[])).run P w = .ok v w') (h : wpList P ops Q rest (a.put op.dst v) w') : wpList P ops Q (op :: rest) a w :=
  wpList_plain hgd fun _ hK => by
    unfold Oper.wp execOp
    simp only [ho, hr, Sem.run_bind, Sem.run_pure, Result.andThen_ok]
    exact hK _ _ h
theorem wpList_build_known {P : Program} {ops : Array Oper} {rest : List Oper} {op : Oper} {a : Act} {w : World} {Q : Exit → Act → World → Prop} {v : Value} (hgd : op.guard = none) (ty : TypeId) (ho : op.op = .build ty #[])
    (hr : (Instr.build ty #[]).run P w = .ok v w) (h : wpList P ops Q rest (a.put op.dst v) w) : wpList P ops Q (op :: rest) a w :=
  wpList_plain hgd fun _ hK => by
    unfold Oper.wp execOp
    simp only [ho, List.map_toArray, List.map_nil, hr, Sem.run_bind, Sem.run_pure, Result.andThen_ok]
    exact hK _ _ h
/-- The hash of nothing. -/
def hash0 : Array Value := Array.replicate 32 (.int .u8 0)
theorem alloc_hash (w : World) : (Instr.alloc 27 true (.tuple #[])).run Tryz.prog w = .ok (ptr w.heap.size) (w.alloc (.cells hash0 27)) := by kernel_rfl
theorem build_hash (w : World) : (Instr.build 27 #[]).run Tryz.prog w = .ok (.agg hash0) w := by kernel_rfl
theorem infoHash : (Tryz.prog.info? 27).map (·.size) = some 32 := by kernel_rfl
section
set_option maxRecDepth 100000
theorem Root_nil (w : World) : Calls Tryz.prog 36 #[.pointer none] w fun e w' => e = .returned (.agg hash0) ∧ Kept Nowhere w w' := by
  have hal := Lib.hid alloc_hash
  have hbu := Lib.hid build_hash
  have hsz : hash0.size = 32 := by kernel_rfl
  have hon : hash0.all (·.oneCell') = true := by kernel_rfl
  have hu := Tryz.underlying27
  have HZ := Lib.hid (And.intro hsz (And.intro hon hu))
  clear hsz hon hu
  generalize hash0 = Z at *
  have hnew := heap_alloc_new w (.cells Z 27)
  have hth : (w.alloc (.cells Z 27)).there w.heap.size 0 Z.size := fun j hj => by rw [Nat.zero_add]; simp only [World.cell?, World.frozen?, hnew]; simp [hj]
  obtain ⟨cur, e1, e2, e3⟩ := heap_setCells_row (g := w.heap.size) (t := 27) Z.toList 0 hnew (by simp)
  have e4 : cur = Z := by
    apply Array.toList_inj.1
    rw [e3]
    simp
  rw [e4] at e1
  have HT := Lib.hid (And.intro hth e1)
  clear hth hnew e1 e2 e3 e4
  go_enter Tryz.func36, Tryz.ntmps36
  go_wp2_with (first
    | refine wpList_alloc_known rfl _ rfl (hal.out _) ?_
    | refine wpList_build_known rfl _ rfl (hbu.out _) ?_
    | refine wpList_store_mid rfl _ _ _ rfl w.heap.size 0 Z rfl rfl HT.out.1 (by rw [HZ.out.1]; exact infoHash) HZ.out.2.1 ?_)
  refine bodyPost_ret (results_cell_row rfl _ _ w.heap.size 27 Z (0, 0) _ rfl HT.out.2 HZ.out.2.2 rfl (by rw [HZ.out.1]; exact infoHash)) rfl ?_
  exact ⟨rfl, ((Kept.refl Nowhere w).alloc _).andThen (kept_setCells w.heap.size _ _ _) (fun i hi h => by omega)⟩
theorem Grant_nil (w : World) (acc den : BA) (n : Nat) : Calls Tryz.prog 12 #[.pointer none, .string acc, .string den, u64V n] w fun e w' => e = .returned (i64V 1) ∧ w = w' := by
  go_enter Tryz.func12, Tryz.ntmps12
  go_wp2_with fail
  go_ret
  exact ⟨rfl, rfl⟩
theorem Trust_nil (w : World) (lv ov : Array Value) (now : Value) : Calls Tryz.prog 14 #[.pointer none, .agg lv, now, .agg ov] w fun e w' => e = .returned (i64V 1) ∧ Kept Nowhere w w' := by
  go_enter Tryz.func14, Tryz.ntmps14
  go_wp2_with fail
  go_ret
  exact ⟨rfl, ((Kept.refl Nowhere w).alloc _).alloc _⟩
theorem Run_nil (w : World) (tv : Array Value) (h : Int) (now : Nat) : Calls Tryz.prog 26 #[.pointer none, .agg tv, i64V h, .float .f64 now] w fun e w' => e = .returned (i64V 1) ∧ Kept Nowhere w w' := by
  go_enter Tryz.func26, Tryz.ntmps26
  go_wp2_with fail
  go_ret
  exact ⟨rfl, (((Kept.refl Nowhere w).alloc _).alloc _).alloc _⟩
theorem Bank_nil (w : World) : Calls Tryz.prog 28 #[.pointer none] w fun e w' => e = .returned (.pointer none) ∧ w = w' := by
  go_enter Tryz.func28, Tryz.ntmps28
  go_wp2_with fail
  go_ret
  exact ⟨rfl, rfl⟩
theorem AppEntries_nil (w : World) : Calls Tryz.prog 17 #[.pointer none] w fun e w' => e = .returned (.slice none 0 0) ∧ w = w' := by
  go_enter Tryz.func17, Tryz.ntmps17
  go_wp2_with fail
  go_ret
  exact ⟨rfl, rfl⟩
theorem Set_nil (w : World) : Calls Tryz.prog 37 #[.pointer none] w fun e w' => e = .returned (.slice none 0 0) ∧ w = w' := by
  go_enter Tryz.func37, Tryz.ntmps37
  go_wp2_with fail
  go_ret
  exact ⟨rfl, rfl⟩
theorem Sent_nil (w : World) : Calls Tryz.prog 32 #[.pointer none] w fun e w' => e = .returned (.slice none 0 0) ∧ w = w' := by
  go_enter Tryz.func32, Tryz.ntmps32
  go_wp2_with fail
  go_ret
  exact ⟨rfl, rfl⟩
theorem Known_nil (w : World) : Calls Tryz.prog 19 #[.pointer none] w fun e w' => e = .returned (i64V 0) ∧ w = w' := by
  go_enter Tryz.func19, Tryz.ntmps19
  go_wp2_with fail
  go_ret
  exact ⟨rfl, rfl⟩
theorem AppCopy_nil (w : World) : Calls Tryz.prog 34 #[.pointer none] w fun e w' => e = .returned (.pointer none) ∧ w = w' := by
  go_enter Tryz.func34, Tryz.ntmps34
  go_wp2_with fail
  go_ret
  exact ⟨rfl, rfl⟩
end
set_option maxRecDepth 100000 in
set_option maxHeartbeats 1600000 in
theorem Run1_does (w : World) (bt bh bn : Nat) (own other : BA) (b : BS) (next : Int) (E : List (BA × BA)) (set : List Val) (t : TxS) (chs : List Val) (h : Int) (now : Nat)
    (ht : t.Ok) (hat : TxAt w bt t) (hh : w.cell? ⟨bh, 0, none⟩ = some (i64V h)) (hn : w.cell? ⟨bn, 0, none⟩ = some (.float .f64 now)) (hcs : ValsAt w t.chv chs) (hbig : (chs.length + 65) * 16 ≤ 140737488355328) (hL : Laid w) (hG : 8 ≤ w.heap.size) :
    Does w 67 #[ptr bt, ptr bh, ptr bn] own other b next E set (fun b' set' => (runY b set t chs).1 = 0 ∧ b' = (runY b set t chs).2.1 ∧ set' = (runY b set t chs).2.2) (fun c => (runY b set t chs).1 = c ∧ ¬ c = 0) := by
  intro W B px hk hB hB2 hA
  have hT := hat.kept ht hk id
  have x1 : W.cell? ⟨bh, 0, none⟩ = some (i64V h) := (hk.cell (p := ⟨bh, 0, none⟩) (World.block_lt_of_cell? w _ hh) id).trans hh
  have x2 : W.cell? ⟨bn, 0, none⟩ = some (.float .f64 now) := (hk.cell (p := ⟨bn, 0, none⟩) (World.block_lt_of_cell? w _ hn) id).trans hn
  have HR := Lib.hid (run_any W B px own other b next E set t chs (i64V h) (.float .f64 now) ht (hcs.still hk) hbig (hL.still hk) hB2 (by omega) hA)
  have HT := Lib.hid (And.intro hT ht)
  clear hT hat hh hn hcs hL hA hk ht
  show Calls Tryz.prog 67 #[ptr px, ptr bt, ptr bh, ptr bn] W _
  go_enter Tryz.func67, Tryz.ntmps67
  go_wp2_with (refine wpList_load_mid rfl _ _ rfl bt 0 rfl t.cells _ HT.out.1.all Tryz.underlying63 rfl (by rw [HT.out.2.len]; exact infoTx) ?_)
  refine HR.out.mono ?_
  rintro e w1 ⟨hk1, ⟨rfl, h0, ha⟩ | ⟨rfl, h0⟩⟩
  · have H1 := Lib.hid (And.intro hk1 (And.intro h0 ha))
    clear hk1 h0 ha
    go_wp2_with fail
    first | go_end0 | refine bodyPost_ret (results_none rfl _ _ _) rfl ?_
    exact ⟨H1.out.1, .inl ⟨rfl, _, _, ⟨H1.out.2.1, rfl, rfl⟩, H1.out.2.2⟩⟩
  · have H1 := Lib.hid (And.intro hk1 h0)
    clear hk1 h0
    go_wp2_with fail
    exact ⟨rfl, H1.out.1, .inr ⟨_, rfl, rfl, H1.out.2⟩⟩
/-- What Run hands back, and leaves. -/
def RanPost (w : World) (p : Nat) (own other : BA) (b : BS) (next : Int) (E : List (BA × BA)) (set : List Val) (r : Int × BS × List Val) (e : Ending) (w' : World) : Prop :=
  e = .returned (i64V r.1) ∧ Kept (fun k => k = p) w w' ∧ ∃ pb m1 m2 pc m tv, AppIs w' p pb m1 m2 pc m tv own other (.pointer none) (.slice none 0 0) (if r.1 = 0 then r.2.1 else b) next E (if r.1 = 0 then r.2.2 else set)
theorem infoApp : (Tryz.prog.info? 103).map (·.size) = some 7 := by kernel_rfl
set_option maxRecDepth 100000 in
set_option maxHeartbeats 3200000 in
theorem Run_any (w : World) (p pb m1 m2 pc m : Nat) (tv : Value) (own other : BA) (b : BS) (next : Int) (E : List (BA × BA)) (set : List Val) (t : TxS) (chs : List Val) (h : Int) (now : Nat)
    (ha : AppIs w p pb m1 m2 pc m tv own other (.pointer none) (.slice none 0 0) b next E set) (hset : set.length ≤ 1000000) (ht : t.Ok) (hcs : ValsAt w t.chv chs) (hbig : (chs.length + 65) * 16 ≤ 140737488355328) (hL : Laid w) (hG : 8 ≤ w.heap.size) :
    Calls Tryz.prog 26 #[ptr p, .agg t.cells.toArray, i64V h, .float .f64 now] w (RanPost w p own other b next E set (runY b set t chs)) := by
  have hmf : ∀ (fn : Fn) (first cap : Array Value) (w : World), (Instr.makeFunc fn first cap).run Tryz.prog w = .ok (.func fn first cap) w := fun _ _ _ _ => rfl
  obtain ⟨W0, hW0⟩ : ∃ W0, ((w.alloc (.cells t.cells.toArray 63)).alloc (.cells #[.int .i64 h] 3)).alloc (.cells #[.float .f64 now] 35) = W0 := ⟨_, rfl⟩
  have z0 : W0.heap.size = w.heap.size + 3 := by rw [← hW0]; simp
  have k0 : Kept Nowhere w W0 := by rw [← hW0]; exact (((Kept.refl _ w).alloc _).alloc _).alloc _
  have x0 : TxAt W0 w.heap.size t := by
    have hh := ((Kept.refl Nowhere (w.alloc (.cells t.cells.toArray 63))).alloc (.cells #[.int .i64 h] 3)).alloc (.cells #[.float .f64 now] 35)
    rw [hW0] at hh
    exact (tx_new w ht 63).kept ht hh id
  have x1 : W0.cell? ⟨w.heap.size + 1, 0, none⟩ = some (i64V h) := by
    have hh := (Kept.refl Nowhere ((w.alloc (.cells t.cells.toArray 63)).alloc (.cells #[.int .i64 h] 3))).alloc (.cells #[.float .f64 now] 35)
    rw [hW0] at hh
    have hc := cell_of_alloc (w.alloc (.cells t.cells.toArray 63)) #[.int .i64 h] 3 0 _ rfl
    have hsz : (w.alloc (.cells t.cells.toArray 63)).heap.size = w.heap.size + 1 := by simp
    rw [hsz] at hc
    exact (hh.cell (p := ⟨w.heap.size + 1, 0, none⟩) (by simp) id).trans hc
  have x2 : W0.cell? ⟨w.heap.size + 2, 0, none⟩ = some (.float .f64 now) := by
    have hc := cell_of_alloc ((w.alloc (.cells t.cells.toArray 63)).alloc (.cells #[.int .i64 h] 3)) #[.float .f64 now] 35 0 _ rfl
    have hsz : ((w.alloc (.cells t.cells.toArray 63)).alloc (.cells #[.int .i64 h] 3)).heap.size = w.heap.size + 2 := by simp
    rw [hsz, hW0] at hc
    exact hc
  have HTr := Lib.hid (tried_any W0 p pb m1 m2 pc m tv own other b next E set 67 #[ptr w.heap.size, ptr (w.heap.size + 1), ptr (w.heap.size + 2)] _ _ (ha.still k0) hset (enters_of Tryz.func67 (by kernel_rfl) rfl)
    (Run1_does W0 w.heap.size (w.heap.size + 1) (w.heap.size + 2) own other b next E set t chs h now ht x0 x1 x2 (hcs.still k0) hbig (hL.still k0) (by omega)))
  have hp := ha.lt.1
  have H0 := Lib.hid (And.intro k0 (And.intro z0 (And.intro ha hp)))
  clear k0 z0 x0 x1 x2 ha hp hcs hL ht
  obtain ⟨r, hr⟩ : ∃ r, runY b set t chs = r := ⟨_, rfl⟩
  rw [hr] at HTr ⊢
  clear hr
  go_enter Tryz.func26, Tryz.ntmps26
  go_wp2_with fail
  refine HTr.out.mono ?_
  rintro e w3 ⟨hk3, ⟨px, b', set', rfl, ⟨hr0, rfl, rfl⟩, hat⟩ | ⟨c, rfl, hc, hc0⟩⟩
  · obtain ⟨qb, n1, n2, qc, n, tv', hi, f1, f2, f3, f4, f5, f6, f7⟩ := hat
    have hA := H0.out.2.2.1.still (H0.out.1.trans hk3)
    obtain ⟨cs, hcs⟩ : ∃ cs : List Value, [.string own, .string other, ptr qb, ptr qc, .pointer none, tv', .slice none 0 0] = cs := ⟨_, rfl⟩
    have hlen : cs.length = 7 := by rw [← hcs]; rfl
    have hra : w3.rangeAt px 0 cs := fun j v hj => by rw [Nat.zero_add, World.cell?, hi.cells]; rw [← hcs] at hj; simpa using hj
    have hth : w3.there p 0 cs.toArray.size := fun j hj => by
      rw [Nat.zero_add]
      have hj7 : j < 7 := by simpa [hlen] using hj
      simp only [World.cell?, World.frozen?, hA.cells]
      simp [hj7]
    have hone : cs.toArray.all (·.oneCell') = true := all_oneCell_toArray (fun v hv => by
      obtain ⟨vp, vn, vc, rfl⟩ : ∃ p n c, tv' = .slice p n c := by
        obtain ⟨a, cap, rfl, _⟩ := hi.vals
        exact ⟨_, _, _, rfl⟩
      rw [← hcs] at hv
      simp only [List.mem_cons, List.not_mem_nil, or_false] at hv
      rcases hv with rfl | rfl | rfl | rfl | rfl | rfl | rfl <;> rfl)
    obtain ⟨cur, e1, e2, e3⟩ := heap_setCells_row (g := p) (t := 103) cs 0 hA.cells (by rw [hlen]; simp)
    have e4 : cur = cs.toArray := by
      apply Array.toList_inj.1
      rw [e3, List.take_zero, List.nil_append, Nat.zero_add, hlen, List.drop_of_length_le (by simp), List.append_nil]
    have kp : Kept (fun k => k = p) w3 (w3.setCells p 0 cs) := kept_setCells p cs 0 w3
    have hpl := H0.out.2.2.2
    have hz0 := H0.out.2.1
    have hne : ∀ k, W0.heap.size ≤ k → ¬ k = p := fun k hk e => by omega
    have hF : Hid (RanPost w p own other b next E set r (.returned (i64V 0)) (w3.setCells p 0 cs)) := by
      refine ⟨by rw [hr0], (((H0.out.1.trans hk3).weaken (fun _ _ h => h.elim)).trans kp), qb, n1, n2, qc, n, tv', ?_⟩
      rw [if_pos hr0, if_pos hr0]
      refine ⟨by rw [e1, e4, ← hcs], BankIs.kept hi.bank kp (hne _ f2) (hne _ f3) (hne _ f4), hi.chan.kept kp (hne _ f5) (hne _ f6), hi.vals.row kp (fun g hg => hne g (f7 g hg)), hi.good, hi.ne1, hi.ne2, fun g hg => Nat.lt_of_lt_of_le (hi.row g hg) kp.size⟩
    have HM := Lib.hid (And.intro hra (And.intro hth (And.intro hone hlen)))
    clear hi f1 f2 f3 f4 f5 f6 f7 hA hra hth hone e1 e2 e3 e4 kp hpl hz0 hne hk3 hcs
    go_wp2_with (first
      | refine wpList_load_mid rfl _ _ rfl px 0 rfl cs _ HM.out.1 Tryz.underlying103 rfl (by rw [HM.out.2.2.2]; exact infoApp) ?_
      | refine wpList_store_mid rfl _ _ _ rfl p 0 cs.toArray rfl rfl HM.out.2.1 (by rw [List.size_toArray, HM.out.2.2.2]; exact infoApp) HM.out.2.2.1 ?_)
    go_ret
    exact hF.out
  · have HC := Lib.hid (And.intro hk3 (And.intro hc hc0))
    have hcb : (c == 0) = false := by simpa using hc0
    clear hk3 hc hc0
    go_wp2_with fail
    go_ret
    obtain ⟨hk3, hc, hc0⟩ := HC.out
    have hk := H0.out.1.trans hk3
    refine ⟨by rw [hc]; rfl, hk.weaken (fun _ _ h => h.elim), pb, m1, m2, pc, m, tv, ?_⟩
    rw [if_neg (by rw [hc]; exact hc0), if_neg (by rw [hc]; exact hc0)]
    exact H0.out.2.2.1.still hk
end Go.Proofs.YtlaahjcdbdipdaaGreatDoor
