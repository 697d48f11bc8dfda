/- The bank: what a bank is in memory; the contracts of New, Supply, Balance, put. -/
import Derived.Test.YtlaahjcdbdipdaaGreatDoorProg
import Derived.Test.YtlaahjcdbdipdaaGreatDoorMap
import Derived.WalkLawsBesides
import Derived.WalkSpells
import Derived.Lib.Hide
import Derived.StillTailTactics
import Derived.Deep.QuietTactic
import Derived.BigQuiet
import Derived.RegionTactic
import Derived.Outline
import Derived.Laws.Alloc2
namespace Go.Proofs.YtlaahjcdbdipdaaGreatDoor
open Go Go.RowKit Go.MapKept Go.ChangeMaps

abbrev BA := ByteArray
/-- A uint64. -/
abbrev u64V (n : Nat) : Value := .int .u64 (n : Int)
/-- An account and a denom, as a key. -/
abbrev purseV (p : BA × BA) : Value := .agg #[.string p.1, .string p.2]

theorem bytes_inj {a b : BA} (h : a.toList = b.toList) : a = b := by
  rw [ByteArray.toList_eq, ByteArray.toList_eq] at h
  obtain ⟨⟨x⟩⟩ := a
  obtain ⟨⟨y⟩⟩ := b
  simpa using h
theorem bytes_beq_iff (a b : BA) : (a.toList == b.toList) = decide (a = b) := by
  by_cases h : a = b
  · subst h; simp
  · have : a.toList ≠ b.toList := fun e => h (bytes_inj e)
    simp [h, this]
theorem keyString : KeyOK Tryz.prog 9 Value.string := string_ok Tryz.underlying9
/-- A struct of two strings: its fields, as the program has them. -/
theorem two_fields {l : List Field} {a b : String × Nat × Nat} (h : l.map (fun f => (f.name, f.type, f.offset)) = [a, b]) : ∃ f1 f2, l = [f1, f2] ∧ (f1.name, f1.type, f1.offset) = a ∧ (f2.name, f2.type, f2.offset) = b := by
  obtain ⟨f1, l1, rfl, h1, h2⟩ := List.map_eq_cons_iff.1 h
  obtain ⟨f2, l2, rfl, h3, h4⟩ := List.map_eq_cons_iff.1 h2
  rw [List.map_eq_nil_iff] at h4
  subst h4
  exact ⟨f1, f2, rfl, h1, h3⟩
theorem part_at (w : World) (x y : BA) : (part 9 #[Value.string x, Value.string y] 0).run Tryz.prog w = .ok (.string x) w ∧ (part 9 #[Value.string x, Value.string y] 1).run Tryz.prog w = .ok (.string y) w := ⟨by kernel_rfl, by kernel_rfl⟩
theorem equalIn_string (n : Nat) (w : World) (x y : BA) : (Op.equalIn (n + 1) 9 (.string x) (.string y)).run Tryz.prog w = .ok (decide (x = y)) w := by
  rw [← bytes_beq_iff]; exact run_equalIn_string w n 9 x y Tryz.underlying9
theorem equal_two {t : Nat} {n1 n2 : String} (hs : Tryz.prog.underlying t = some (.struct (Tryz.prog.fieldsOf t))) (hp : Tryz.prog.stoodInHeld t = false) (hf : (Tryz.prog.fieldsOf t).toList.map (fun f => (f.name, f.type, f.offset)) = [(n1, 9, 0), (n2, 9, 1)])
    (h1 : n1 ≠ "_") (h2 : n2 ≠ "_") (w : World) (a b : BA × BA) : (Op.equal t (purseV a) (purseV b)).run Tryz.prog w = .ok (decide (a = b)) w := by
  obtain ⟨f1, f2, hf, g1, g2⟩ := two_fields hf
  simp only [Prod.mk.injEq] at g1 g2
  show (Op.equalIn (9999 + 1) t _ _).run Tryz.prog w = _
  rw [run_equalIn_struct w 9999 t _ _ hs hp, hf]
  generalize hd : (9999 : Nat) = d
  obtain ⟨d, rfl⟩ : ∃ m, d = m + 1 := ⟨9998, by omega⟩
  simp only [Op.eqFields, g1, g2, ne_eq, h1, h2, not_false_eq_true, if_true, Sem.run_bind, part_at, Result.andThen_ok, equalIn_string]
  have hab : decide (a = b) = (decide (a.1 = b.1) && decide (a.2 = b.2)) := by rw [Bool.eq_iff_iff]; simp [Prod.ext_iff]
  rw [hab]
  by_cases e1 : a.1 = b.1 <;> by_cases e2 : a.2 = b.2 <;> simp [Sem.run_bind, part_at, Result.andThen_ok, equalIn_string, e1, e2]
theorem structPurse : Tryz.prog.underlying 159 = some (.struct (Tryz.prog.fieldsOf 159)) := by kernel_rfl
theorem stoodPurse : Tryz.prog.stoodInHeld 159 = false := by kernel_rfl
theorem fieldsPurse : (Tryz.prog.fieldsOf 159).toList.map (fun f => (f.name, f.type, f.offset)) = [("account", 9, 0), ("denom", 9, 1)] := by kernel_rfl
theorem keyPurse : KeyOK Tryz.prog 159 purseV := by
  refine asked_ok (by kernel_rfl) (fun {a b} h => ?_) (fun w em a => ?_) (fun w a b => equal_two structPurse stoodPurse fieldsPurse (by decide) (by decide) w a b) (fun a => ?_)
  · simp only [Value.agg.injEq, Array.mk.injEq, List.cons.injEq, Value.string.injEq, and_true] at h
    exact Prod.ext h.1 h.2
  · obtain ⟨f1, f2, hf, g1, g2⟩ := two_fields fieldsPurse
    simp only [Prod.mk.injEq] at g1 g2
    show (Instr.checkKey em (9999 + 1) 159 (.agg #[.string a.1, .string a.2])).run Tryz.prog w = .ok () w
    generalize hd : (9999 : Nat) = d
    obtain ⟨d, rfl⟩ : ∃ m, d = m + 1 := ⟨9998, by omega⟩
    simp only [Instr.checkKey, Sem.run_bind, run_underlying structPurse, Result.andThen_ok]
    rw [← Array.forIn_toList, hf]
    simp [g1, g2, part_at, Result.andThen]
  · have hb : ∀ x : BA, (x == x) = true := fun x => by rw [beq_toListBytes]; simp
    simp [Instr.sameBits, hb]

theorem zeroU64 (w : World) : (zeroValue 23).run Tryz.prog w = .ok (u64V 0) w := by kernel_rfl

/-- Block p is a Bank, whose maps lie at m1 and m2, with the amounts A and the supplies S. -/
structure BankIs (w : World) (p m1 m2 : Nat) (A : List ((BA × BA) × Nat)) (S : List (BA × Nat)) : Prop where
  cells : w.heap[p]? = some (.cells #[.map (some m1), .map (some m2)] 152 (0, 0))
  am : MapIs w purseV u64V m1 A
  su : MapIs w Value.string u64V m2 S
  ne : m1 ≠ m2
  lo : 8 ≤ m1 ∧ 8 ≤ m2
namespace BankIs
variable {w w' : World} {p m1 m2 : Nat} {A : List ((BA × BA) × Nat)} {S : List (BA × Nat)}
theorem lt (h : BankIs w p m1 m2 A S) : p < w.heap.size ∧ m1 < w.heap.size ∧ m2 < w.heap.size := ⟨(Array.getElem?_eq_some_iff.1 h.cells).1, h.am.lt, h.su.lt⟩
theorem apart (h : BankIs w p m1 m2 A S) : p ≠ m1 ∧ p ≠ m2 := by
  obtain ⟨_, _, h1, _⟩ := h.am
  obtain ⟨_, _, h2, _⟩ := h.su
  refine ⟨fun e => ?_, fun e => ?_⟩
  · have hc := h.cells; rw [e, h1] at hc; cases hc
  · have hc := h.cells; rw [e, h2] at hc; cases hc
theorem kept {T : Nat → Prop} (h : BankIs w p m1 m2 A S) (hk : Kept T w w') (h1 : ¬ T p) (h2 : ¬ T m1) (h3 : ¬ T m2) : BankIs w' p m1 m2 A S :=
  ⟨(hk.block p h.lt.1 h1).trans h.cells, h.am.kept hk h2, h.su.kept hk h3, h.ne, h.lo⟩
theorem c0 (h : BankIs w p m1 m2 A S) : w.cell? ⟨p, 0, none⟩ = some (.map (some m1)) := by simp [World.cell?, h.cells]
theorem c1 (h : BankIs w p m1 m2 A S) : w.cell? ⟨p, 1, none⟩ = some (.map (some m2)) := by simp [World.cell?, h.cells]
theorem alloc (h : BankIs w p m1 m2 A S) (o : Obj) : BankIs (w.alloc o) p m1 m2 A S := h.kept ((Kept.refl Nowhere w).alloc o) id id id
theorem drew (h : BankIs w p m1 m2 A S) : BankIs w.drew p m1 m2 A S := ⟨h.cells, h.am, h.su, h.ne, h.lo⟩
theorem drewN (h : BankIs w p m1 m2 A S) (n : Nat) : BankIs (w.drewN n) p m1 m2 A S := ⟨h.cells, h.am, h.su, h.ne, h.lo⟩
end BankIs

abbrev ptr (b : Nat) : Value := .pointer (some ⟨b, 0, none⟩)

theorem New_any (w : World) (hG : 8 ≤ w.heap.size) : Calls Tryz.prog 42 #[] w fun e w' => e = .returned (ptr (w.heap.size + 2)) ∧ BankIs w' (w.heap.size + 2) w.heap.size (w.heap.size + 1) [] [] ∧ Kept Nowhere w w' ∧ w'.heap.size = w.heap.size + 3 := by
  have hmm := @run_makeMap Tryz.prog
  go_enter Tryz.func42, Tryz.ntmps42
  go_wp2
  go_ret
  refine ⟨rfl, ⟨?_, ?_, ?_, by omega, by omega, by omega⟩, (((Kept.refl _ _).alloc _).alloc _).alloc _, by simp⟩
  · show (((w.heap.push _).push _).push _)[w.heap.size + 2]? = _
    rw [Array.getElem?_push, if_pos (by simp)]
  · exact ((mapIs_made w _ _).alloc _).alloc _
  · have := (mapIs_made (w.alloc (.map #[] 0)) Value.string u64V).alloc (.cells #[.map (some w.heap.size), .map (some (w.heap.size + 1))] 152)
    simpa using this

theorem Supply_any (w : World) (p m1 m2 : Nat) (A : List ((BA × BA) × Nat)) (S : List (BA × Nat)) (d : BA) (h : BankIs w p m1 m2 A S) :
    Calls Tryz.prog 29 #[ptr p, .string d] w fun e w' => e = .returned (u64V ((mlook S d).getD 0)) ∧ w = w' := by
  have h1 := h.c1
  go_enter Tryz.func29, Tryz.ntmps29
  go_wp2_with (first | (at_lookup; refine wpList_lookup_is rfl _ _ 150 rfl 9 23 keyString Tryz.underlying150 0 (zeroU64 _) m2 S rfl h.su d rfl ?_) | go_in)
  go_ret
  exact ⟨rfl, rfl⟩
theorem Supply_nil (w : World) (d : BA) : Calls Tryz.prog 29 #[.pointer none, .string d] w fun e w' => e = .returned (u64V 0) ∧ w = w' := by
  go_enter Tryz.func29, Tryz.ntmps29
  go_wp2
  go_ret
  exact ⟨rfl, rfl⟩
theorem Balance_any (w : World) (p m1 m2 : Nat) (A : List ((BA × BA) × Nat)) (S : List (BA × Nat)) (a d : BA) (h : BankIs w p m1 m2 A S) :
    Calls Tryz.prog 31 #[ptr p, .string a, .string d] w fun e w' => e = .returned (u64V ((mlook A (a, d)).getD 0)) ∧ w = w' := by
  have h1 := h.c0
  go_enter Tryz.func31, Tryz.ntmps31
  go_wp2_with (first | (at_lookup; refine wpList_lookup_is rfl _ _ 149 rfl 159 23 keyPurse Tryz.underlying149 0 (zeroU64 _) m1 A rfl h.am (a, d) rfl ?_) | go_in)
  go_ret
  exact ⟨rfl, rfl⟩
theorem Balance_nil (w : World) (a d : BA) : Calls Tryz.prog 31 #[.pointer none, .string a, .string d] w fun e w' => e = .returned (u64V 0) ∧ w = w' := by
  go_enter Tryz.func31, Tryz.ntmps31
  go_wp2
  go_ret
  exact ⟨rfl, rfl⟩

/-- What 'put' leaves of the amounts. -/
def putA (A : List ((BA × BA) × Nat)) (q : BA × BA) (n : Nat) : List ((BA × BA) × Nat) := if n = 0 then mdel A q else mput A q n
set_option maxRecDepth 100000 in
theorem put_zero (w : World) (p m1 m2 : Nat) (A : List ((BA × BA) × Nat)) (S : List (BA × Nat)) (q : BA × BA) (h : BankIs w p m1 m2 A S) :
    Calls Tryz.prog 88 #[ptr p, purseV q, u64V 0] w fun e w' => e = .returned (.tuple #[]) ∧ BankIs w' p m1 m2 (mdel A q) S ∧ Kept (fun j => j = m1) w w' := by
  have h1 := fun o => (h.alloc o).c0
  go_enter Tryz.func88, Tryz.ntmps88
  go_wp2_with fail
  refine region_tail 5 (by kernel_rfl) (by kernel_rfl) ?_
  simp only [List.take_succ_cons, List.take_zero, List.drop_succ_cons, List.drop_zero]
  repeat still_step
  refine wpStill_nil ?_
  go_wp2_with (first | (at_delete; refine wpList_delete_is rfl _ _ 149 159 rfl 23 keyPurse Tryz.underlying149 m1 A rfl (h.am.alloc _) q rfl ?_; intro w1 hm1 hk1) | go_in)
  first | go_end0 | refine bodyPost_ret (results_none rfl _ _ _) rfl ?_
  have hb := ((h.alloc (.cells #[.string q.1, .string q.2] 159)).drew)
  refine ⟨rfl, ⟨(hk1.block p hb.lt.1 hb.apart.1).trans hb.cells, hm1, hb.su.kept hk1 h.ne.symm, h.ne, h.lo⟩, ((Kept.refl _ w).alloc _).drew.trans hk1⟩
set_option maxRecDepth 100000 in
theorem put_more (w : World) (p m1 m2 : Nat) (A : List ((BA × BA) × Nat)) (S : List (BA × Nat)) (q : BA × BA) (n : Nat) (hn : 0 < n) (h : BankIs w p m1 m2 A S) :
    Calls Tryz.prog 88 #[ptr p, purseV q, u64V n] w fun e w' => e = .returned (.tuple #[]) ∧ BankIs w' p m1 m2 (mput A q n) S ∧ Kept (fun j => j = m1) w w' := by
  have h1 := fun o => (h.alloc o).c0
  have hn0 : ((n : Int) == 0) = false := by simp; omega
  go_enter Tryz.func88, Tryz.ntmps88
  go_wp2_with fail
  refine region_tail 6 (by kernel_rfl) (by kernel_rfl) ?_
  simp only [List.take_succ_cons, List.take_zero, List.drop_succ_cons, List.drop_zero]
  repeat still_step
  refine wpStill_nil ?_
  go_wp2_with (first | (at_mapUpdate; refine wpList_store_is rfl _ _ _ 149 rfl 159 23 keyPurse Tryz.underlying149 m1 A rfl (h.am.alloc _) q rfl n rfl ?_; intro w1 hm1 hk1) | go_in)
  first | go_end0 | refine bodyPost_ret (results_none rfl _ _ _) rfl ?_
  have hb := ((h.alloc (.cells #[.string q.1, .string q.2] 159)).drew)
  refine ⟨rfl, ⟨(hk1.block p hb.lt.1 hb.apart.1).trans hb.cells, hm1, hb.su.kept hk1 h.ne.symm, h.ne, h.lo⟩, ((Kept.refl _ w).alloc _).drew.trans hk1⟩
theorem put_any (w : World) (p m1 m2 : Nat) (A : List ((BA × BA) × Nat)) (S : List (BA × Nat)) (q : BA × BA) (n : Nat) (h : BankIs w p m1 m2 A S) :
    Calls Tryz.prog 88 #[ptr p, purseV q, u64V n] w fun e w' => e = .returned (.tuple #[]) ∧ BankIs w' p m1 m2 (putA A q n) S ∧ Kept (fun j => j = m1) w w' := by
  unfold putA
  by_cases hn : n = 0
  · subst hn; exact put_zero w p m1 m2 A S q h
  · rw [if_neg hn]; exact put_more w p m1 m2 A S q n (by omega) h
end Go.Proofs.YtlaahjcdbdipdaaGreatDoor
