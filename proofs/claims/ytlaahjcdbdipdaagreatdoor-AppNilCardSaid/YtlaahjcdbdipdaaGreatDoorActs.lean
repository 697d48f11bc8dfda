/- The bank's acts: the contracts of Mint, Burn, Move. -/
import Derived.Test.YtlaahjcdbdipdaaGreatDoorText
namespace Go.Proofs.YtlaahjcdbdipdaaGreatDoor
open Go Go.RowKit Go.MapKept Go.ChangeMaps

theorem cell_of_alloc (w : World) (xs : Array Value) (t j : Nat) (v : Value) (h : xs[j]? = some v) : (w.alloc (.cells xs t)).cell? ⟨w.heap.size, j, none⟩ = some v := by
  have : (w.alloc (.cells xs t)).heap[w.heap.size]? = some (.cells xs t (0, 0)) := (MapKept.heap_alloc w _).1
  unfold World.cell?
  rw [this]
  exact h
/-- The greatest uint64. -/
def top64 : Nat := 18446744073709551615
def balOf (A : List ((BA × BA) × Nat)) (a d : BA) : Nat := (mlook A (a, d)).getD 0
def supOf (S : List (BA × Nat)) (d : BA) : Nat := (mlook S d).getD 0
theorem u64_add {a b : Nat} (h : a + b ≤ top64) : IntKind.u64.wrap ((a : Int) + (b : Int)) = ((a + b : Nat) : Int) := by
  unfold top64 at h; simp only [IntKind.wrap_u64]; omega
theorem u64_sub {a b : Nat} (h : b ≤ a) (ha : a ≤ top64) : IntKind.u64.wrap ((a : Int) - (b : Int)) = ((a - b : Nat) : Int) := by
  unfold top64 at ha; simp only [IntKind.wrap_u64]; omega
theorem u64_room {s : Nat} (h : s ≤ top64) : IntKind.u64.wrap (18446744073709551615 - (s : Int)) = ((top64 - s : Nat) : Int) := by
  unfold top64 at h ⊢; simp only [IntKind.wrap_u64]; omega
theorem acc_cell (w : World) (a : BA) : ∀ j x, [a][j]? = some x → (w.alloc (.cells #[.string a] 9)).cell? ⟨w.heap.size, j, none⟩ = some (.string x) := fun j x hj => by
  have : j = 0 ∧ x = a := by
    rcases j with _ | j
    · simp at hj; exact ⟨rfl, hj.symm⟩
    · simp at hj
  rw [this.1, this.2]; exact cell_of_alloc _ _ _ _ _ rfl
/-- check's call at one account. -/
theorem check_one (w : World) (p : Nat) (d : BA) (n : Nat) (a : BA) (hd : d.size ≤ maxLen) (ha : a.size ≤ maxLen) (hL : Laid w) :
    Calls Tryz.prog 87 #[ptr p, .string d, u64V n, .slice (some ⟨w.heap.size, 0, none⟩) 1 1] (w.alloc (.cells #[.string a] 9)) fun e w' => e = .returned (.int .i64 (checkV d n [a])) ∧ Kept Nowhere w w' :=
  (check_any (w.alloc (.cells #[.string a] 9)) p d n [a] w.heap.size 1 (by simp) hd (by simpa using ha) (hL.alloc _) (acc_cell w a) (by simp)).mono fun _ _ ⟨he, hk⟩ => ⟨he, ((Kept.refl _ w).alloc _).trans hk⟩

set_option maxRecDepth 100000 in
set_option maxHeartbeats 800000 in
theorem Mint_not (w : World) (p m1 m2 : Nat) (A : List ((BA × BA) × Nat)) (S : List (BA × Nat)) (to d : BA) (n : Nat) (V : Int) (h : BankIs w p m1 m2 A S) (hL : Laid w) (hto : to.size ≤ maxLen) (hd : d.size ≤ maxLen)
    (hv : checkV d n [to] = V) (hV : (V != 0) = true) :
    Calls Tryz.prog 47 #[ptr p, .string to, .string d, u64V n] w fun e w' => e = .returned (.int .i64 V) ∧ Kept Nowhere w w' := by
  have hck := Lib.hid (check_one w p d n to hd hto hL)
  have HV := Lib.hid hv; clear hv
  have HB := Lib.hid h; clear h
  go_enter Tryz.func47, Tryz.ntmps47
  go_wp2_with fail
  refine hck.out.mono ?_
  rintro e w1 ⟨rfl, hk1⟩
  rw [HV.out]
  go_wp2_with fail
  go_ret
  exact ⟨rfl, hk1⟩
set_option maxRecDepth 100000 in
set_option maxHeartbeats 800000 in
theorem Mint_over (w : World) (p m1 m2 : Nat) (A : List ((BA × BA) × Nat)) (S : List (BA × Nat)) (to d : BA) (n : Nat) (h : BankIs w p m1 m2 A S) (hL : Laid w) (hto : to.size ≤ maxLen) (hd : d.size ≤ maxLen)
    (hs : supOf S d ≤ top64) (hv : checkV d n [to] = 0) (ho : top64 - supOf S d < n) :
    Calls Tryz.prog 47 #[ptr p, .string to, .string d, u64V n] w fun e w' => e = .returned (.int .i64 182) ∧ Kept Nowhere w w' := by
  have hck := Lib.hid (check_one w p d n to hd hto hL)
  have HV := Lib.hid hv; clear hv
  have HB := Lib.hid h; clear h
  have ho2 : ¬ (n : Int) ≤ IntKind.u64.wrap (18446744073709551615 - ((mlook S d).getD 0 : Nat)) := by
    rw [u64_room (by exact hs)]; show ¬ (n : Int) ≤ ((top64 - supOf S d : Nat) : Int); omega
  clear ho hs
  go_enter Tryz.func47, Tryz.ntmps47
  go_wp2_with fail
  refine hck.out.mono ?_
  rintro e w1 ⟨rfl, hk1⟩
  rw [HV.out]
  have hbk : BankIs w1 p m1 m2 A S := HB.out.kept hk1 id id id
  have hc1 := hbk.c1
  go_wp2_with (at_lookup; refine wpList_lookup_is rfl _ _ 150 rfl 9 23 keyString Tryz.underlying150 0 (zeroU64 _) m2 S rfl hbk.su d rfl ?_)
  go_ret
  exact ⟨rfl, hk1⟩
set_option maxRecDepth 100000 in
set_option maxHeartbeats 800000 in
theorem Mint_ok (w : World) (p m1 m2 : Nat) (A : List ((BA × BA) × Nat)) (S : List (BA × Nat)) (to d : BA) (n : Nat) (h : BankIs w p m1 m2 A S) (hL : Laid w) (hto : to.size ≤ maxLen) (hd : d.size ≤ maxLen)
    (hs : supOf S d + n ≤ top64) (hb : balOf A to d + n ≤ top64) (hv : checkV d n [to] = 0) :
    Calls Tryz.prog 47 #[ptr p, .string to, .string d, u64V n] w fun e w' => e = .returned (.int .i64 0) ∧
      BankIs w' p m1 m2 (putA A (to, d) (balOf A to d + n)) (mput S d (supOf S d + n)) ∧ Kept (fun k => k = m1 ∨ k = m2) w w' := by
  have hck := Lib.hid (check_one w p d n to hd hto hL)
  have HV := Lib.hid hv; clear hv
  have HB := Lib.hid h; clear h
  have ho2 : (n : Int) ≤ IntKind.u64.wrap (18446744073709551615 - ((mlook S d).getD 0 : Nat)) := by
    rw [u64_room (by unfold supOf at hs; omega)]; unfold supOf at hs; omega
  have hs2 := Lib.hid (u64_add hs)
  have hb2 := Lib.hid (u64_add hb)
  clear hs hb
  go_enter Tryz.func47, Tryz.ntmps47
  go_wp2_with fail
  refine hck.out.mono ?_
  rintro e w1 ⟨rfl, hk1⟩
  rw [HV.out]
  have hbk : BankIs w1 p m1 m2 A S := HB.out.kept hk1 id id id
  have hc1 := hbk.c1
  go_wp2_with (first | (at_lookup; refine wpList_lookup_is rfl _ _ 150 rfl 9 23 keyString Tryz.underlying150 0 (zeroU64 _) m2 S rfl hbk.su d rfl ?_) | (at_mapUpdate; refine wpList_store_is rfl _ _ _ 150 rfl 9 23 keyString Tryz.underlying150 m2 S rfl hbk.su d rfl (supOf S d + n) (congrArg (Value.int .u64) hs2.out) ?_; intro w2 hm2 hk2))
  have hb2k : BankIs w2 p m1 m2 A (mput S d (supOf S d + n)) := ⟨(hk2.block p hbk.lt.1 hbk.apart.2).trans hbk.cells, hbk.am.kept hk2 hbk.ne, hm2, hbk.ne, hbk.lo⟩
  have hb3 := hb2k.alloc (.cells #[.string to, .string d] 159)
  have hc3 := hb3.c0
  have hlk := hb3.drew.am.lookup keyPurse Tryz.underlying149 (zeroU64 _) (to, d)
  have HK := Lib.hid (And.intro hk1 (And.intro hk2 hb3))
  clear hbk hc1 hb2k hm2 hk1 hk2
  refine region_tail 10 (by kernel_rfl) (by kernel_rfl) ?_
  simp only [List.take_succ_cons, List.take_zero, List.drop_succ_cons, List.drop_zero]
  repeat still_step
  refine wpStill_nil ?_
  go_wp2_with fail
  rw [show IntKind.u64.wrap (((mlook A (to, d)).getD 0 : Nat) + (n : Int)) = ((balOf A to d + n : Nat) : Int) from hb2.out]
  refine (put_any _ p m1 m2 A _ (to, d) _ HK.out.2.2.drew).mono ?_
  rintro e w3 ⟨rfl, hb4, hk4⟩
  go_wp2_with fail
  go_ret
  obtain ⟨hk1, hk2, _⟩ := HK.out
  refine ⟨rfl, hb4, ?_⟩
  have e1 : Kept (fun k => k = m1 ∨ k = m2) w w2 := (hk1.weaken (fun _ _ h => h.elim)).andThen hk2 (fun i _ hi => Or.inr hi)
  exact (e1.alloc _).drew.andThen hk4 (fun i _ hi => Or.inl hi)

theorem two_cells (w : World) (a b : BA) : ∀ j x, [a, b][j]? = some x → (w.alloc (.cells #[.string a, .string b] 9)).cell? ⟨w.heap.size, j, none⟩ = some (.string x) := fun j x hj => by
  rcases j with _ | _ | j
  · simp at hj; subst hj; exact cell_of_alloc _ _ _ _ _ rfl
  · simp at hj; subst hj; exact cell_of_alloc _ _ _ _ _ rfl
  · simp at hj
/-- check's call at two accounts. -/
theorem check_two (w : World) (p : Nat) (d : BA) (n : Nat) (a b : BA) (hd : d.size ≤ maxLen) (ha : a.size ≤ maxLen) (hb : b.size ≤ maxLen) (hL : Laid w) :
    Calls Tryz.prog 87 #[ptr p, .string d, u64V n, .slice (some ⟨w.heap.size, 0, none⟩) 2 2] (w.alloc (.cells #[.string a, .string b] 9)) fun e w' => e = .returned (.int .i64 (checkV d n [a, b])) ∧ Kept Nowhere w w' :=
  (check_any (w.alloc (.cells #[.string a, .string b] 9)) p d n [a, b] w.heap.size 2 (by simp) hd (by
    intro x hx
    rcases List.mem_cons.1 hx with rfl | hx
    · exact ha
    · rw [List.mem_singleton.1 hx]; exact hb) (hL.alloc _) (two_cells w a b) (by simp)).mono fun _ _ ⟨he, hk⟩ => ⟨he, ((Kept.refl _ w).alloc _).trans hk⟩

set_option maxRecDepth 100000 in
set_option maxHeartbeats 800000 in
theorem Burn_not (w : World) (p : Nat) (from_ d : BA) (n : Nat) (V : Int) (hL : Laid w) (hto : from_.size ≤ maxLen) (hd : d.size ≤ maxLen)
    (hv : checkV d n [from_] = V) (hV : (V != 0) = true) :
    Calls Tryz.prog 195 #[ptr p, .string from_, .string d, u64V n] w fun e w' => e = .returned (.int .i64 V) ∧ Kept Nowhere w w' := by
  have hck := Lib.hid (check_one w p d n from_ hd hto hL)
  have HV := Lib.hid hv; clear hv
  go_enter Tryz.func195, Tryz.ntmps195
  go_wp2_with fail
  refine hck.out.mono ?_
  rintro e w1 ⟨rfl, hk1⟩
  rw [HV.out]
  go_wp2_with fail
  go_ret
  exact ⟨rfl, hk1⟩
set_option maxRecDepth 100000 in
set_option maxHeartbeats 800000 in
theorem Burn_few (w : World) (p m1 m2 : Nat) (A : List ((BA × BA) × Nat)) (S : List (BA × Nat)) (from_ d : BA) (n : Nat) (h : BankIs w p m1 m2 A S) (hL : Laid w) (hto : from_.size ≤ maxLen) (hd : d.size ≤ maxLen)
    (hv : checkV d n [from_] = 0) (hf : balOf A from_ d < n) :
    Calls Tryz.prog 195 #[ptr p, .string from_, .string d, u64V n] w fun e w' => e = .returned (.int .i64 181) ∧ Kept Nowhere w w' := by
  have hck := Lib.hid (check_one w p d n from_ hd hto hL)
  have HV := Lib.hid hv; clear hv
  have HB := Lib.hid h; clear h
  have hf2 : (mlook A (from_, d)).getD 0 < n := hf
  clear hf
  go_enter Tryz.func195, Tryz.ntmps195
  go_wp2_with fail
  refine hck.out.mono ?_
  rintro e w1 ⟨rfl, hk1⟩
  rw [HV.out]
  have hb3 := (HB.out.kept hk1 id id id).alloc (.cells #[.string from_, .string d] 159)
  have hc3 := hb3.c0
  have hlk := hb3.drew.am.lookup keyPurse Tryz.underlying149 (zeroU64 _) (from_, d)
  clear hb3
  go_wp2_with fail
  refine region_tail 7 (by kernel_rfl) (by kernel_rfl) ?_
  simp only [List.take_succ_cons, List.take_zero, List.drop_succ_cons, List.drop_zero]
  repeat still_step
  refine wpStill_nil ?_
  go_wp2_with fail
  go_ret
  exact ⟨rfl, (hk1.alloc _).drew⟩
set_option maxRecDepth 100000 in
set_option maxHeartbeats 800000 in
theorem Burn_ok (w : World) (p m1 m2 : Nat) (A : List ((BA × BA) × Nat)) (S : List (BA × Nat)) (from_ d : BA) (n : Nat) (h : BankIs w p m1 m2 A S) (hL : Laid w) (hto : from_.size ≤ maxLen) (hd : d.size ≤ maxLen)
    (hv : checkV d n [from_] = 0) (hf : n ≤ balOf A from_ d) (hbs : balOf A from_ d ≤ supOf S d) (hst : supOf S d ≤ top64) :
    Calls Tryz.prog 195 #[ptr p, .string from_, .string d, u64V n] w fun e w' => e = .returned (.int .i64 0) ∧
      BankIs w' p m1 m2 (putA A (from_, d) (balOf A from_ d - n)) (mput S d (supOf S d - n)) ∧ Kept (fun k => k = m1 ∨ k = m2) w w' := by
  have hck := Lib.hid (check_one w p d n from_ hd hto hL)
  have HV := Lib.hid hv; clear hv
  have HB := Lib.hid h; clear h
  have hf2 : n ≤ (mlook A (from_, d)).getD 0 := hf
  have hs2 := Lib.hid (u64_sub (Nat.le_trans hf hbs) hst)
  have hb2 := Lib.hid (u64_sub hf (Nat.le_trans hbs hst))
  clear hf hbs hst
  go_enter Tryz.func195, Tryz.ntmps195
  go_wp2_with fail
  refine hck.out.mono ?_
  rintro e w1 ⟨rfl, hk1⟩
  rw [HV.out]
  have hb3 := (HB.out.kept hk1 id id id).alloc (.cells #[.string from_, .string d] 159)
  have hc3 := hb3.c0
  have hlk := hb3.drew.am.lookup keyPurse Tryz.underlying149 (zeroU64 _) (from_, d)
  have HB3 := Lib.hid hb3; clear hb3
  go_wp2_with fail
  refine region_tail 7 (by kernel_rfl) (by kernel_rfl) ?_
  simp only [List.take_succ_cons, List.take_zero, List.drop_succ_cons, List.drop_zero]
  repeat still_step
  refine wpStill_nil ?_
  clear hlk
  have hc4 := HB3.out.c1
  go_wp2_with (first | (at_lookup; refine wpList_lookup_is rfl _ _ 150 rfl 9 23 keyString Tryz.underlying150 0 (zeroU64 _) m2 S rfl HB3.out.drew.su d rfl ?_) | (at_mapUpdate; refine wpList_store_is rfl _ _ _ 150 rfl 9 23 keyString Tryz.underlying150 m2 S rfl HB3.out.drew.su d rfl (supOf S d - n) (congrArg (Value.int .u64) hs2.out) ?_; intro w2 hm2 hk2))
  go_frame
  have hb3 := HB3.out
  have hm2' : m2 < w1.heap.size := (HB.out.kept hk1 id id id).lt.2.2
  have hsz : (w1.alloc (.cells #[.string from_, .string d] 159)).drew.heap.size = w1.heap.size + 1 := by simp [World.drew]
  have hq : ∀ j v, #[Value.string from_, Value.string d][j]? = some v → w2.cell? ⟨w1.heap.size, j, none⟩ = some v := fun j v hj =>
    (hk2.cell (p := ⟨w1.heap.size, j, none⟩) (by rw [hsz]; exact Nat.lt_succ_self _) (by show ¬ w1.heap.size = m2; omega)).trans (cell_of_alloc w1 _ 159 j v hj)
  have hq0 := hq 0 _ rfl
  have hq1 := hq 1 _ rfl
  have hb4 : BankIs w2 p m1 m2 A (mput S d (supOf S d - n)) := ⟨(hk2.block p hb3.drew.lt.1 hb3.apart.2).trans hb3.cells, hb3.drew.am.kept hk2 hb3.ne, hm2, hb3.ne, hb3.lo⟩
  have hc5 := hb4.c0
  have hlk := hb4.drew.am.lookup keyPurse Tryz.underlying149 (zeroU64 _) (from_, d)
  have HK := Lib.hid (And.intro hk1 (And.intro hk2 hb4))
  clear hb3 hm2' hsz hq hb4 hm2 hk1 hk2 hc3 hc4
  refine region_tail 10 (by kernel_rfl) (by kernel_rfl) ?_
  simp only [List.take_succ_cons, List.take_zero, List.drop_succ_cons, List.drop_zero]
  repeat still_step
  refine wpStill_nil ?_
  go_wp2_with fail
  rw [show IntKind.u64.wrap (((mlook A (from_, d)).getD 0 : Nat) - (n : Int)) = ((balOf A from_ d - n : Nat) : Int) from hb2.out]
  refine (put_any _ p m1 m2 A _ (from_, d) _ HK.out.2.2.drew).mono ?_
  rintro e w3 ⟨rfl, hb5, hk5⟩
  go_wp2_with fail
  go_ret
  obtain ⟨hk1, hk2, _⟩ := HK.out
  refine ⟨rfl, hb5, ?_⟩
  have e1 : Kept (fun k => k = m1 ∨ k = m2) w w2 := ((hk1.weaken (fun _ _ h => h.elim)).alloc _).drew.andThen hk2 (fun i _ hi => Or.inr hi)
  exact e1.drew.andThen hk5 (fun i _ hi => Or.inl hi)

set_option maxRecDepth 100000 in
set_option maxHeartbeats 800000 in
theorem Move_not (w : World) (p : Nat) (from_ to d : BA) (n : Nat) (V : Int) (hL : Laid w) (hfr : from_.size ≤ maxLen) (hto : to.size ≤ maxLen) (hd : d.size ≤ maxLen)
    (hv : checkV d n [from_, to] = V) (hV : (V != 0) = true) :
    Calls Tryz.prog 116 #[ptr p, .string from_, .string to, .string d, u64V n] w fun e w' => e = .returned (.int .i64 V) ∧ Kept Nowhere w w' := by
  have hck := Lib.hid (check_two w p d n from_ to hd hfr hto hL)
  have HV := Lib.hid hv; clear hv
  go_enter Tryz.func116, Tryz.ntmps116
  go_wp2_with fail
  refine hck.out.mono ?_
  rintro e w1 ⟨rfl, hk1⟩
  rw [HV.out]
  go_wp2_with fail
  go_ret
  exact ⟨rfl, hk1⟩
set_option maxRecDepth 100000 in
set_option maxHeartbeats 800000 in
theorem Move_few (w : World) (p m1 m2 : Nat) (A : List ((BA × BA) × Nat)) (S : List (BA × Nat)) (from_ to d : BA) (n : Nat) (h : BankIs w p m1 m2 A S) (hL : Laid w) (hfr : from_.size ≤ maxLen) (hto : to.size ≤ maxLen) (hd : d.size ≤ maxLen)
    (hv : checkV d n [from_, to] = 0) (hf : balOf A from_ d < n) :
    Calls Tryz.prog 116 #[ptr p, .string from_, .string to, .string d, u64V n] w fun e w' => e = .returned (.int .i64 181) ∧ Kept Nowhere w w' := by
  have hck := Lib.hid (check_two w p d n from_ to hd hfr hto hL)
  have HV := Lib.hid hv; clear hv
  have HB := Lib.hid h; clear h
  have hf2 : (mlook A (from_, d)).getD 0 < n := hf
  clear hf
  go_enter Tryz.func116, Tryz.ntmps116
  go_wp2_with fail
  refine hck.out.mono ?_
  rintro e w1 ⟨rfl, hk1⟩
  rw [HV.out]
  have hb3 := ((HB.out.kept hk1 id id id).alloc (.cells #[.string from_, .string d] 159)).alloc (.cells #[.string to, .string d] 159)
  have hc3 := hb3.c0
  have hlk := hb3.drew.am.lookup keyPurse Tryz.underlying149 (zeroU64 _) (from_, d)
  clear hb3
  go_wp2_with fail
  refine region_tail 7 (by kernel_rfl) (by kernel_rfl) ?_
  simp only [List.take_succ_cons, List.take_zero, List.drop_succ_cons, List.drop_zero]
  repeat still_step
  refine wpStill_nil ?_
  go_wp2_with fail
  go_ret
  exact ⟨rfl, ((hk1.alloc _).alloc _).drew⟩
/-- The amounts behind a move. -/
def moveA (A : List ((BA × BA) × Nat)) (from_ to d : BA) (n : Nat) : List ((BA × BA) × Nat) :=
  putA (putA A (from_, d) (balOf A from_ d - n)) (to, d) (balOf (putA A (from_, d) (balOf A from_ d - n)) to d + n)
set_option maxRecDepth 100000 in
set_option maxHeartbeats 800000 in
theorem Move_ok (w : World) (p m1 m2 : Nat) (A : List ((BA × BA) × Nat)) (S : List (BA × Nat)) (from_ to d : BA) (n : Nat) (h : BankIs w p m1 m2 A S) (hL : Laid w) (hfr : from_.size ≤ maxLen) (hto : to.size ≤ maxLen) (hd : d.size ≤ maxLen)
    (hv : checkV d n [from_, to] = 0) (hf : n ≤ balOf A from_ d) (hbt : balOf A from_ d ≤ top64) (ht : balOf (putA A (from_, d) (balOf A from_ d - n)) to d + n ≤ top64) :
    Calls Tryz.prog 116 #[ptr p, .string from_, .string to, .string d, u64V n] w fun e w' => e = .returned (.int .i64 0) ∧
      BankIs w' p m1 m2 (moveA A from_ to d n) S ∧ Kept (fun k => k = m1) w w' := by
  unfold moveA
  have hck := Lib.hid (check_two w p d n from_ to hd hfr hto hL)
  have HV := Lib.hid hv; clear hv
  have HB := Lib.hid h; clear h
  have hf2 : n ≤ (mlook A (from_, d)).getD 0 := hf
  have hb2 := Lib.hid (u64_sub hf hbt)
  have hb6 := Lib.hid (u64_add ht)
  clear hf hbt ht
  obtain ⟨A2, hA2⟩ : ∃ A2, A2 = putA A (from_, d) (balOf A from_ d - n) := ⟨_, rfl⟩
  have HA2 := Lib.hid hA2
  rw [← hA2] at hb6 ⊢
  clear hA2
  go_enter Tryz.func116, Tryz.ntmps116
  go_wp2_with fail
  refine hck.out.mono ?_
  rintro e w1 ⟨rfl, hk1⟩
  rw [HV.out]
  have hb3 := ((HB.out.kept hk1 id id id).alloc (.cells #[.string from_, .string d] 159)).alloc (.cells #[.string to, .string d] 159)
  have hc3 := hb3.c0
  have hlk := hb3.drew.am.lookup keyPurse Tryz.underlying149 (zeroU64 _) (from_, d)
  have HB3 := Lib.hid hb3; clear hb3
  go_wp2_with fail
  refine region_tail 7 (by kernel_rfl) (by kernel_rfl) ?_
  simp only [List.take_succ_cons, List.take_zero, List.drop_succ_cons, List.drop_zero]
  repeat still_step
  refine wpStill_nil ?_
  clear hlk
  have hlk := HB3.out.drew.drew.am.lookup keyPurse Tryz.underlying149 (zeroU64 _) (from_, d)
  go_wp2_with fail
  refine region_tail 10 (by kernel_rfl) (by kernel_rfl) ?_
  simp only [List.take_succ_cons, List.take_zero, List.drop_succ_cons, List.drop_zero]
  repeat still_step
  refine wpStill_nil ?_
  go_wp2_with fail
  rw [show IntKind.u64.wrap (((mlook A (from_, d)).getD 0 : Nat) - (n : Int)) = ((balOf A from_ d - n : Nat) : Int) from hb2.out]
  refine (put_any _ p m1 m2 A _ (from_, d) _ HB3.out.drew.drew).mono ?_
  rintro e w2 ⟨rfl, hb4, hk4⟩
  rw [← HA2.out] at hb4
  have hm1' : m1 < w1.heap.size := (HB.out.kept hk1 id id id).lt.2.1
  have hq : ∀ j v, #[Value.string to, Value.string d][j]? = some v → w2.cell? ⟨w1.heap.size + 1, j, none⟩ = some v := fun j v hj => by
    have e : (w1.alloc (.cells #[.string from_, .string d] 159)).heap.size = w1.heap.size + 1 := by simp
    have h1 := cell_of_alloc (w1.alloc (.cells #[.string from_, .string d] 159)) _ 159 j v hj
    rw [e] at h1
    exact (hk4.cell (p := ⟨w1.heap.size + 1, j, none⟩) (by simp [World.drew]) (by show ¬ w1.heap.size + 1 = m1; omega)).trans h1
  have hq0 := hq 0 _ rfl
  have hq1 := hq 1 _ rfl
  have hc5 := hb4.c0
  have hlk2 := hb4.drew.am.lookup keyPurse Tryz.underlying149 (zeroU64 _) (to, d)
  have HK := Lib.hid (And.intro hk1 (And.intro hk4 hb4))
  clear hlk hm1' hq hb4 hk1 hk4 hc3
  go_wp2_with fail
  refine region_tail 10 (by kernel_rfl) (by kernel_rfl) ?_
  simp only [List.take_succ_cons, List.take_zero, List.drop_succ_cons, List.drop_zero]
  repeat still_step
  refine wpStill_nil ?_
  go_wp2_with fail
  rw [show IntKind.u64.wrap (((mlook A2 (to, d)).getD 0 : Nat) + (n : Int)) = ((balOf A2 to d + n : Nat) : Int) from hb6.out]
  refine (put_any _ p m1 m2 A2 _ (to, d) _ HK.out.2.2.drew).mono ?_
  rintro e w3 ⟨rfl, hb5, hk5⟩
  go_wp2_with fail
  go_ret
  obtain ⟨hk1, hk4, _⟩ := HK.out
  refine ⟨rfl, hb5, ?_⟩
  have e1 : Kept (fun k => k = m1) w w2 := ((((hk1.weaken (fun _ _ h => h.elim)).alloc _).alloc _).drew.drew).trans hk4
  exact e1.drew.trans hk5
end Go.Proofs.YtlaahjcdbdipdaaGreatDoor
