/- Maps whose contents are told as a list of pairs, up to their order; and what a call leaves as it was. No program in sight. -/
import Derived.Maps.OwnSet
import Derived.Maps.RangeWalk
import Derived.Maps.RangeRun
import Derived.Laws.StructEq
import Derived.WalkKit
import Derived.Deep.Draws
import Derived.StillTailTactics
namespace Go.Proofs.YtlaahjcdbdipdaaGreatDoor
open Go Go.RowKit Go.MapKept Go.ChangeMaps

/-! ### what a call leaves as it was -/
/-- Every block that was there, but those of S, is as it was. -/
structure Kept (S : Nat → Prop) (w w' : World) : Prop where
  os : w'.os = w.os
  tape : w'.tape = w.tape
  output : w'.output = w.output
  size : w.heap.size ≤ w'.heap.size
  block : ∀ k, k < w.heap.size → ¬ S k → w'.heap[k]? = w.heap[k]?
def Nowhere : Nat → Prop := fun _ => False
namespace Kept
variable {S T : Nat → Prop} {w w1 w2 : World}
theorem refl (S : Nat → Prop) (w : World) : Kept S w w := ⟨rfl, rfl, rfl, Nat.le_refl _, fun _ _ _ => rfl⟩
theorem trans (h : Kept S w w1) (k : Kept S w1 w2) : Kept S w w2 :=
  ⟨k.os.trans h.os, k.tape.trans h.tape, k.output.trans h.output, Nat.le_trans h.size k.size, fun i hi hs => (k.block i (Nat.lt_of_lt_of_le hi h.size) hs).trans (h.block i hi hs)⟩
/-- A set may be told smaller where it speaks of new blocks. -/
theorem weaken (h : Kept S w w1) (hST : ∀ k, k < w.heap.size → S k → T k) : Kept T w w1 :=
  ⟨h.os, h.tape, h.output, h.size, fun i hi hs => h.block i hi (fun hS => hs (hST i hi hS))⟩
theorem andThen (h : Kept S w w1) (k : Kept T w1 w2) (hTS : ∀ i, i < w.heap.size → T i → S i) : Kept S w w2 :=
  ⟨k.os.trans h.os, k.tape.trans h.tape, k.output.trans h.output, Nat.le_trans h.size k.size, fun i hi hs => (k.block i (Nat.lt_of_lt_of_le hi h.size) (fun hT => hs (hTS i hi hT))).trans (h.block i hi hs)⟩
theorem alloc (h : Kept S w w1) (o : Obj) : Kept S w (w1.alloc o) :=
  h.trans ⟨rfl, rfl, rfl, by simp, fun k hk _ => Below.heap_alloc _ _ _ hk⟩
theorem drew (h : Kept S w w1) : Kept S w w1.drew := h.trans ⟨rfl, rfl, rfl, Nat.le_refl _, fun _ _ _ => rfl⟩
theorem drewN (h : Kept S w w1) (n : Nat) : Kept S w (w1.drewN n) := h.trans ⟨rfl, rfl, rfl, Nat.le_refl _, fun _ _ _ => rfl⟩
theorem setCell (h : Kept S w w1) {p : Addr} (hp : p.block < w.heap.size → S p.block) (u : Value) : Kept S w (w1.setCell p u) :=
  ⟨h.os, h.tape, h.output, by simpa [World.setCell] using h.size, fun i hi hs => (Below.heap_setCell _ _ _ _ (fun e => by subst e; exact hs (hp hi))).trans (h.block i hi hs)⟩
theorem below (h : Kept S w w1) {B : Nat} (hB : ∀ k, k < w.heap.size → S k → B ≤ k) (hle : B ≤ w.heap.size) : Below B w w1 :=
  ⟨h.os, h.tape, h.output, h.size, fun k hk => h.block k (Nat.lt_of_lt_of_le hk hle) (fun hs => Nat.lt_irrefl _ (Nat.lt_of_lt_of_le hk (hB k (Nat.lt_of_lt_of_le hk hle) hs)))⟩
theorem of_below (h : Below w.heap.size w w1) : Kept S w w1 := ⟨h.os, h.tape, h.output, h.size, fun k hk _ => h.block k hk⟩
theorem of_grown {row : Option Nat} (h : w.grownBy w1 row) : Kept (fun k => row = some k) w w1 := ⟨h.os, h.tape, h.output, h.size, fun k hk hs => h.block k hk (fun e => hs e.symm)⟩
theorem cell (h : Kept S w w1) {p : Addr} (hp : p.block < w.heap.size) (hs : ¬ S p.block) : w1.cell? p = w.cell? p := World.cell?_of_block (w := w) (h.block p.block hp hs)
theorem frozen (h : Kept S w w1) {p : Addr} (hp : p.block < w.heap.size) (hs : ¬ S p.block) : w1.frozen? p = w.frozen? p := World.frozen?_of_block (w := w) (h.block p.block hp hs)
end Kept

/-! ### keys -/
/-- What the operations on a map ask of its keys' type. -/
structure KeyOK (P : Program) (k : TypeId) {κ : Type} (kenc : κ → Value) : Prop where
  inj : ∀ {a b : κ}, kenc a = kenc b → a = b
  check : ∀ (w : World) (em : Bool) (a : κ), (Instr.checkKey em 10000 k (kenc a)).run P w = .ok () w
  find : ∀ (w : World) (a : κ) (es : List MapEntry), (∀ e ∈ es, ∃ b, e.key = kenc b) →
    ((Instr.findKey k (kenc a) es).run P w = .ok none w ∧ ∀ e ∈ es, e.key ≠ kenc a) ∨ ∃ (j : Nat) (e : MapEntry), (Instr.findKey k (kenc a) es).run P w = .ok (some (j, e.val)) w ∧ es[j]? = some e ∧ e.key = kenc a
  stays : ∀ (w : World) (a : κ), (Instr.keyThatStays (kenc a) (kenc a)).run P w = .ok (kenc a) w

theorem plain_ok {P : Program} {k : TypeId} {κ : Type} {kenc : κ → Value} {d : TypeDesc} (hk : P.underlying k = some d) (hkey : ∀ a, IsKey d (kenc a)) (hinj : ∀ {a b : κ}, kenc a = kenc b → a = b) : KeyOK P k kenc where
  inj := hinj
  check w em a := run_checkKey hk (hkey a) em 9999
  find w a es hes := by
    have hks : ∀ y ∈ es, IsKey d y.key := fun y hy => by
      obtain ⟨b, hb⟩ := hes y hy
      rw [hb]; exact hkey b
    rcases findNow_spec (hkey a) es 0 hks with ⟨h1, h2⟩ | ⟨j, e0, h1, h2, h3⟩
    · exact Or.inl ⟨run_findKey hk h1, h2⟩
    · exact Or.inr ⟨j, e0, by simpa using run_findKey hk h1, h2, h3⟩
  stays w a := run_keyThatStays (hkey a)

theorem string_ok {P : Program} {k : TypeId} (hk : P.underlying k = some .string) : KeyOK P k Value.string :=
  plain_ok hk (fun _ => trivial) (fun h => by injection h)
theorem int_ok {P : Program} {k : TypeId} {q : IntKind} (hk : P.underlying k = some (.int q)) : KeyOK P k (Value.int q) :=
  plain_ok hk (fun _ => rfl) (fun h => by injection h)

/-- A key type whose equality is asked by 'Op.equal'. -/
theorem asked_ok {P : Program} {k : TypeId} {κ : Type} [DecidableEq κ] {kenc : κ → Value} (hwide : (match P.underlying k with | some (.array _ _) | some (.struct _) => true | _ => false) = true)
    (hinj : ∀ {a b : κ}, kenc a = kenc b → a = b) (hcheck : ∀ (w : World) (em : Bool) (a : κ), (Instr.checkKey em 10000 k (kenc a)).run P w = .ok () w)
    (heq : ∀ (w : World) (a b : κ), (Op.equal k (kenc a) (kenc b)).run P w = .ok (decide (a = b)) w)
    (hbits : ∀ a, Instr.sameBits 10000 (kenc a) (kenc a) = true) : KeyOK P k kenc where
  inj := hinj
  check := hcheck
  stays w a := by simp [Instr.keyThatStays, hbits a]
  find w a es hes := by
    rw [run_findKey_eq w hwide]
    have key : ∀ (l : List MapEntry) (i : Nat), (∀ e ∈ l, ∃ b, e.key = kenc b) →
        ((Instr.findAsking k (kenc a) l i).run P w = .ok none w ∧ ∀ e ∈ l, e.key ≠ kenc a) ∨ ∃ (j : Nat) (e : MapEntry), (Instr.findAsking k (kenc a) l i).run P w = .ok (some (i + j, e.val)) w ∧ l[j]? = some e ∧ e.key = kenc a := by
      intro l
      induction l with
      | nil => intro i _; exact Or.inl ⟨by simp [Instr.findAsking], by simp⟩
      | cons e l ih =>
        intro i hl
        obtain ⟨b, hb⟩ := hl e (by simp)
        by_cases hab : a = b
        · refine Or.inr ⟨0, e, ?_, by simp, by rw [hb, hab]⟩
          simp [Instr.findAsking, hb, heq, hab, Result.andThen]
        · rcases ih (i + 1) (fun x hx => hl x (by simp [hx])) with ⟨h1, h2⟩ | ⟨j, e', h1, h2, h3⟩
          · refine Or.inl ⟨?_, ?_⟩
            · simp [Instr.findAsking, hb, heq, hab, Result.andThen, h1]
            · intro x hx
              rcases List.mem_cons.1 hx with rfl | hx
              · rw [hb]; exact fun e => hab (hinj e).symm
              · exact h2 x hx
          · refine Or.inr ⟨j + 1, e', ?_, by simpa using h2, h3⟩
            simp [Instr.findAsking, hb, heq, hab, Result.andThen, h1]
            omega
    rcases key es 0 hes with h | ⟨j, e, h1, h2, h3⟩
    · exact Or.inl h
    · exact Or.inr ⟨j, e, by simpa using h1, h2, h3⟩

/-! ### a map's block -/
section
variable {κ ν : Type}
/-- Block b is a map that holds just the pairs of L, in some order. -/
def MapIs (w : World) (kenc : κ → Value) (venc : ν → Value) (b : Nat) (L : List (κ × ν)) : Prop :=
  ∃ es clock, w.heap[b]? = some (.map es clock) ∧ Stamped es clock ∧ (es.toList.map fun e => (e.key, e.val)).Perm (L.map fun p => (kenc p.1, venc p.2))
variable {w : World} {kenc : κ → Value} {venc : ν → Value} {b : Nat} {L : List (κ × ν)}
theorem MapIs.perm (h : MapIs w kenc venc b L) {L' : List (κ × ν)} (hp : L.Perm L') : MapIs w kenc venc b L' := by
  obtain ⟨es, clock, h1, h2, h3⟩ := h
  exact ⟨es, clock, h1, h2, h3.trans (hp.map _)⟩
theorem MapIs.lt (h : MapIs w kenc venc b L) : b < w.heap.size := by
  obtain ⟨es, clock, hb, _⟩ := h
  exact (Array.getElem?_eq_some_iff.1 hb).1
theorem MapIs.of_block (h : MapIs w kenc venc b L) {w' : World} (hb : w'.heap[b]? = w.heap[b]?) : MapIs w' kenc venc b L := by
  obtain ⟨es, clock, h1, h2⟩ := h
  exact ⟨es, clock, hb.trans h1, h2⟩
theorem MapIs.kept (h : MapIs w kenc venc b L) {S : Nat → Prop} {w' : World} (hk : Kept S w w') (hs : ¬ S b) : MapIs w' kenc venc b L := h.of_block (hk.block b h.lt hs)
theorem MapIs.alloc (h : MapIs w kenc venc b L) (o : Obj) : MapIs (w.alloc o) kenc venc b L := h.kept ((Kept.refl Nowhere w).alloc o) id
theorem MapIs.drew (h : MapIs w kenc venc b L) : MapIs w.drew kenc venc b L := h
theorem MapIs.drewN (h : MapIs w kenc venc b L) (n : Nat) : MapIs (w.drewN n) kenc venc b L := h
theorem MapIs.setCell (h : MapIs w kenc venc b L) {p : Addr} (hp : b ≠ p.block) (u : Value) : MapIs (w.setCell p u) kenc venc b L := h.of_block (Below.heap_setCell _ _ _ _ hp)
theorem mapIs_made (w : World) (kenc : κ → Value) (venc : ν → Value) : MapIs (w.alloc (.map #[] 0)) kenc venc w.heap.size [] :=
  ⟨#[], 0, (MapKept.heap_alloc w _).1, stamped_empty 0, by simp⟩
theorem nodup_keys (h : MapIs w kenc venc b L) : (L.map Prod.fst).Nodup := by
  obtain ⟨es, clock, _, h2, h3⟩ := h
  have h4 : ((es.toList.map fun e => (e.key, e.val)).map Prod.fst).Nodup := by
    rw [List.map_map]; exact h2.2.2
  have h5 := (h3.map Prod.fst).nodup_iff.1 h4
  rw [List.map_map] at h5
  have h6 : (L.map Prod.fst).map kenc = L.map (Prod.fst ∘ fun p => (kenc p.1, venc p.2)) := by rw [List.map_map]; rfl
  rw [← h6] at h5
  exact (List.pairwise_map.1 h5).imp (fun {a b} h e => h (by rw [e]))
/-- What a list of pairs has at a key. -/
def mlook [DecidableEq κ] (L : List (κ × ν)) (a : κ) : Option ν := L.lookup a
theorem look_eq [DecidableEq κ] {L : List (κ × ν)} (hn : (L.map Prod.fst).Nodup) {a : κ} {v : ν} (hm : (a, v) ∈ L) : mlook L a = some v := by
  induction L with
  | nil => simp at hm
  | cons p L ih =>
    obtain ⟨k, u⟩ := p
    simp only [List.map_cons, List.nodup_cons] at hn
    rcases List.mem_cons.1 hm with e | hm
    · cases e; simp [mlook]
    · have : a ≠ k := fun e => hn.1 (e ▸ List.mem_map.2 ⟨(a, v), hm, rfl⟩)
      rw [mlook, List.lookup_cons, show (a == k) = false from by simpa using this]
      exact ih hn.2 hm
theorem look_none [DecidableEq κ] {L : List (κ × ν)} {a : κ} (h : ∀ p ∈ L, p.1 ≠ a) : mlook L a = none := by
  induction L with
  | nil => rfl
  | cons p L ih =>
    obtain ⟨k, u⟩ := p
    have h1 : a ≠ k := fun e => h (k, u) (by simp) e.symm
    rw [mlook, List.lookup_cons, show (a == k) = false from by simpa using h1]
    exact ih (fun p hp => h p (by simp [hp]))
/-- The pairs behind a store. -/
def mput [DecidableEq κ] (L : List (κ × ν)) (a : κ) (v : ν) : List (κ × ν) := (a, v) :: L.filter fun p => p.1 ≠ a
/-- The pairs behind a delete. -/
def mdel [DecidableEq κ] (L : List (κ × ν)) (a : κ) : List (κ × ν) := L.filter fun p => p.1 ≠ a
theorem lookup_filter_ne [DecidableEq κ] (L : List (κ × ν)) {a c : κ} (h : c ≠ a) : mlook (L.filter fun p => p.1 ≠ a) c = mlook L c := by
  induction L with
  | nil => rfl
  | cons p L ih =>
    obtain ⟨k, u⟩ := p
    rw [List.filter_cons]
    by_cases hk : k = a
    · subst hk
      simp only [mlook, ne_eq, not_true_eq_false, decide_false, Bool.false_eq_true, if_false, List.lookup_cons]
      rw [show (c == k) = false from by simpa using h]
      exact ih
    · simp only [mlook, ne_eq, hk, not_false_eq_true, decide_true, if_true, List.lookup_cons]
      cases c == k
      · exact ih
      · rfl
theorem lookup_mput [DecidableEq κ] (L : List (κ × ν)) (a : κ) (v : ν) (c : κ) : mlook (mput L a v) c = if c = a then some v else mlook L c := by
  unfold mput
  rw [mlook, List.lookup_cons]
  by_cases h : c = a
  · subst h; simp
  · rw [show (c == a) = false from by simpa using h, if_neg h]
    exact lookup_filter_ne L h
theorem lookup_mdel [DecidableEq κ] (L : List (κ × ν)) (a : κ) (c : κ) : mlook (mdel L a) c = if c = a then none else mlook L c := by
  unfold mdel
  by_cases h : c = a
  · subst h; rw [if_pos rfl]
    exact look_none (fun p hp => by simpa using (List.mem_filter.1 hp).2)
  · rw [if_neg h]; exact lookup_filter_ne L h

/-! ### the operations -/
variable [DecidableEq κ] {P : Program} {t k e : TypeId}
omit [DecidableEq κ] in
theorem entries_keys {es : Array MapEntry} (h3 : (es.toList.map fun e => (e.key, e.val)).Perm (L.map fun p => (kenc p.1, venc p.2))) : ∀ x ∈ es.toList, ∃ p, p ∈ L ∧ x.key = kenc p.1 ∧ x.val = venc p.2 := by
  intro x hx
  have := h3.mem_iff.1 (List.mem_map.2 ⟨x, hx, rfl⟩)
  obtain ⟨p, hp, he⟩ := List.mem_map.1 this
  simp only [Prod.mk.injEq] at he
  exact ⟨p, hp, he.1.symm, he.2.symm⟩
/-- What is found at a key. -/
theorem MapIs.found (K : KeyOK P k kenc) (h : MapIs w kenc venc b L) (a : κ) : ∃ es clock, w.heap[b]? = some (.map es clock) ∧ Stamped es clock ∧ (es.toList.map fun e => (e.key, e.val)).Perm (L.map fun p => (kenc p.1, venc p.2)) ∧
    ((mlook L a = none ∧ (Instr.findKey k (kenc a) es.toList).run P w = .ok none w ∧ ∀ e ∈ es.toList, e.key ≠ kenc a) ∨
      ∃ v j e, mlook L a = some v ∧ (Instr.findKey k (kenc a) es.toList).run P w = .ok (some (j, venc v)) w ∧ es.toList[j]? = some e ∧ e.key = kenc a ∧ e.val = venc v) := by
  have hn := nodup_keys h
  obtain ⟨es, clock, h1, h2, h3⟩ := h
  refine ⟨es, clock, h1, h2, h3, ?_⟩
  have hks := entries_keys h3
  rcases K.find w a es.toList (fun x hx => by obtain ⟨p, _, hp, _⟩ := hks x hx; exact ⟨p.1, hp⟩) with ⟨hr, hne⟩ | ⟨j, e, hr, hj, hkey⟩
  · refine Or.inl ⟨look_none (fun p hp hpa => ?_), hr, hne⟩
    have := h3.mem_iff.2 (List.mem_map.2 ⟨p, hp, rfl⟩)
    obtain ⟨x, hx, he⟩ := List.mem_map.1 this
    simp only [Prod.mk.injEq] at he
    exact hne x hx (by rw [he.1, hpa])
  · have hem := List.mem_of_getElem? hj
    obtain ⟨p, hp, hpk, hpv⟩ := hks e hem
    have hpa : p.1 = a := K.inj (by rw [← hpk, hkey])
    refine Or.inr ⟨p.2, j, e, look_eq hn (by rw [← hpa]; exact hp), by rw [← hpv]; exact hr, hj, hkey, hpv⟩
theorem MapIs.lookup (K : KeyOK P k kenc) (ht : P.underlying t = some (.map k e)) (h : MapIs w kenc venc b L) {z : ν} (hz : (zeroValue e).run P w = .ok (venc z) w) (a : κ) :
    (Instr.lookup t (.map (some b)) (kenc a) false).run P w = .ok (venc ((mlook L a).getD z)) w := by
  obtain ⟨es, clock, h1, _, _, ⟨hl, hr, _⟩ | ⟨v, j, e0, hl, hr, _⟩⟩ := h.found K a
  · simp [Instr.lookup, run_underlying ht, run_getObj_map _ _ _ _ h1, K.check, hr, hz, hl, Result.andThen]
  · simp [Instr.lookup, run_underlying ht, run_getObj_map _ _ _ _ h1, K.check, hr, hl, Result.andThen]
theorem MapIs.lookup_ok (K : KeyOK P k kenc) (ht : P.underlying t = some (.map k e)) (h : MapIs w kenc venc b L) {z : ν} (hz : (zeroValue e).run P w = .ok (venc z) w) (a : κ) :
    (Instr.lookup t (.map (some b)) (kenc a) true).run P w = .ok (.tuple #[venc ((mlook L a).getD z), .bool (mlook L a).isSome]) w := by
  obtain ⟨es, clock, h1, _, _, ⟨hl, hr, _⟩ | ⟨v, j, e0, hl, hr, _⟩⟩ := h.found K a
  · simp [Instr.lookup, run_underlying ht, run_getObj_map _ _ _ _ h1, K.check, hr, hz, hl, Result.andThen]
  · simp [Instr.lookup, run_underlying ht, run_getObj_map _ _ _ _ h1, K.check, hr, hl, Result.andThen]
theorem kept_setBlock {es' : Array MapEntry} {c' : Nat} : Kept (fun j => j = b) w (setBlock w b (.map es' c')) :=
  ⟨rfl, rfl, rfl, by simp [setBlock], fun i _ hs => by
    show (w.heap.setIfInBounds b _)[i]? = _
    simp [Ne.symm hs]⟩
/-- A pair list of values, without those at one key. -/
theorem perm_without (hinj : ∀ {a b : κ}, kenc a = kenc b → a = b) {X : List (Value × Value)} (h : X.Perm (L.map fun p => (kenc p.1, venc p.2))) (a : κ) [DecidablePred fun q : Value × Value => q.1 ≠ kenc a] :
    (X.filter fun q => q.1 ≠ kenc a).Perm ((mdel L a).map fun p => (kenc p.1, venc p.2)) := by
  refine (h.filter _).trans ?_
  unfold mdel
  rw [List.filter_map]
  refine List.Perm.of_eq (congrArg _ (List.filter_congr fun p _ => ?_))
  simp only [Function.comp, ne_eq, decide_eq_decide]
  exact ⟨fun hh e => hh (by rw [e]), fun hh e => hh (hinj e)⟩

theorem perm_cons_filter {α β : Type} [DecidableEq β] (f : α → β) : ∀ {l : List α}, (l.map f).Nodup → ∀ {x : α}, x ∈ l → l.Perm (x :: l.filter fun y => f y ≠ f x)
  | [], _, _, hx => by simp at hx
  | y :: l, hn, x, hx => by
    simp only [List.map_cons, List.nodup_cons] at hn
    rcases List.mem_cons.1 hx with rfl | hx
    · rw [List.filter_cons_of_neg (by simp)]
      refine List.Perm.of_eq (congrArg _ (List.filter_eq_self.2 fun z hz => ?_).symm)
      simpa using fun e : f z = f x => hn.1 (List.mem_map.2 ⟨z, hz, e⟩)
    · have hne : f y ≠ f x := fun e => hn.1 (List.mem_map.2 ⟨x, hx, e.symm⟩)
      rw [List.filter_cons_of_pos (by simpa using hne)]
      exact ((perm_cons_filter f hn.2 hx).cons y).trans (List.Perm.swap x y _)

theorem MapIs.store (K : KeyOK P k kenc) (ht : P.underlying t = some (.map k e)) (h : MapIs w kenc venc b L) (a : κ) (v : ν) :
    ∃ w', (Instr.mapUpdate t (.map (some b)) (kenc a) (venc v)).run P w = .ok () w' ∧ MapIs w' kenc venc b (mput L a v) ∧ Kept (fun j => j = b) w w' ∧ w'.heap.size = w.heap.size := by
  classical
  have hb' : ∀ {es : Array MapEntry} {c : Nat} (o : Obj), w.heap[b]? = some (.map es c) → ({ w with heap := w.heap.setIfInBounds b o } : World).heap[b]? = some o := fun o hb => (MapKept.heap_set hb).1
  obtain ⟨es, clock, h1, h2, h3, ⟨hl, hr, hne⟩ | ⟨v0, j, e0, hl, hr, hj, hk0, hv0⟩⟩ := h.found K a
  · refine ⟨setBlock w b (.map (es.push { key := kenc a, val := venc v, born := clock }) (clock + 1)), ?_, ⟨_, _, hb' _ h1, stamped_push h2 hne, ?_⟩, kept_setBlock, by simp [setBlock]⟩
    · simp [Instr.mapUpdate, run_underlying ht, run_getObj_map _ _ _ _ h1, K.check, hr, MapKept.run_setObj_map _ h1, Result.andThen, setBlock]
    · simp only [Array.toList_push, List.map_append, List.map_cons, List.map_nil]
      refine (List.perm_append_comm (l₁ := es.toList.map fun e => (e.key, e.val)) (l₂ := [(kenc a, venc v)])).trans ?_
      show ((kenc a, venc v) :: es.toList.map fun e => (e.key, e.val)).Perm _
      refine List.Perm.cons _ (h3.trans (List.Perm.of_eq (congrArg _ (List.filter_eq_self.2 fun p hp => ?_).symm)))
      simp only [ne_eq, decide_not, Bool.not_eq_true', decide_eq_false_iff_not]
      intro hpa
      have := h3.mem_iff.2 (List.mem_map.2 ⟨p, hp, rfl⟩)
      obtain ⟨x, hx, hxe⟩ := List.mem_map.1 this
      simp only [Prod.mk.injEq] at hxe
      exact hne x hx (by rw [hxe.1, hpa])
  · have hje : es[j]? = some e0 := by simpa using hj
    have hlt : j < es.size := (Array.getElem?_eq_some_iff.1 hje).1
    have hstay := K.stays w a
    refine ⟨setBlock w b (.map (es.modify j fun e => { e with key := kenc a, val := venc v }) clock), ?_, ⟨_, _, hb' _ h1, stamped_modify h2 j _ (fun _ _ => rfl) (fun e _ hje' => ?_), ?_⟩, kept_setBlock, by simp [setBlock]⟩
    · simp [Instr.mapUpdate, run_underlying ht, run_getObj_map _ _ _ _ h1, K.check, hr, hje, hk0, hstay, MapKept.run_setObj_map _ h1, Result.andThen, setBlock]
    · rw [hje] at hje'; cases hje'; exact hk0.symm
    · have hkeys : (es.toList.map fun e => e.key).Nodup := h2.2.2
      have e1 : ((es.modify j fun e => { e with key := kenc a, val := venc v }).toList.map fun e => (e.key, e.val)) = (es.toList.map fun e => (e.key, e.val)).set j (kenc a, venc v) := by
        rw [Array.toList_modify]
        apply List.ext_getElem?
        intro i
        simp only [List.getElem?_map, List.getElem?_modify, List.getElem?_set, List.length_map]
        by_cases hij : j = i
        · subst hij
          have : j < es.toList.length := by simpa using hlt
          simp [hlt]
        · simp only [hij, if_false]
          cases es.toList[i]? <;> rfl
      rw [e1]
      have hX : ((es.toList.map fun e => (e.key, e.val)).map Prod.fst).Nodup := by rw [List.map_map]; exact hkeys
      have hjX : (es.toList.map fun e => (e.key, e.val))[j]? = some (kenc a, venc v0) := by rw [List.getElem?_map, hj]; simp [hk0, hv0]
      have hp2 := perm_without (L := L) (kenc := kenc) (venc := venc) K.inj h3 a
      refine List.Perm.trans ?_ (List.Perm.cons (kenc a, venc v) hp2)
      generalize (es.toList.map fun e => (e.key, e.val)) = X at hX hjX
      clear hp2 e1
      have hjl : j < X.length := (List.getElem?_eq_some_iff.1 hjX).1
      have hd : X = X.take j ++ (kenc a, venc v0) :: X.drop (j + 1) := by
        rw [← (List.getElem?_eq_some_iff.1 hjX).2, ← List.drop_eq_getElem_cons hjl, List.take_append_drop]
      rw [List.set_eq_take_append_cons_drop, if_pos hjl]
      have hout : ∀ q ∈ X.take j ++ X.drop (j + 1), q.1 ≠ kenc a := by
        rw [hd] at hX
        simp only [List.map_append, List.map_cons] at hX
        have h5 := (List.perm_middle (a := kenc a) (l₁ := (X.take j).map Prod.fst) (l₂ := (X.drop (j + 1)).map Prod.fst)).nodup_iff.1 hX
        rw [← List.map_append, List.nodup_cons] at h5
        exact fun q hq e => h5.1 (List.mem_map.2 ⟨q, hq, e⟩)
      have hf : (X.filter fun q => q.1 ≠ kenc a) = X.take j ++ X.drop (j + 1) := by
        conv => lhs; rw [hd]
        rw [List.filter_append, List.filter_cons_of_neg (by simp), ← List.filter_append]
        exact List.filter_eq_self.2 fun q hq => by simpa using hout q hq
      rw [hf]
      exact List.perm_middle

theorem MapIs.drop (K : KeyOK P k kenc) (ht : P.underlying t = some (.map k e)) (h : MapIs w kenc venc b L) (a : κ) (ty : TypeId) :
    ∃ w', (Builtin.delete_ #[t, k] ty #[.map (some b), kenc a]).run P w = .ok (.tuple #[]) w' ∧ MapIs w' kenc venc b (mdel L a) ∧ Kept (fun j => j = b) w w' ∧ w'.heap.size = w.heap.size := by
  classical
  have hb' : ∀ {es : Array MapEntry} {c : Nat} (o : Obj), w.heap[b]? = some (.map es c) → ({ w with heap := w.heap.setIfInBounds b o } : World).heap[b]? = some o := fun o hb => (MapKept.heap_set hb).1
  obtain ⟨es, clock, h1, h2, h3, ⟨hl, hr, hne⟩ | ⟨v0, j, e0, hl, hr, hj, hk0, hv0⟩⟩ := h.found K a
  · refine ⟨setBlock w b (.map es clock), ?_, ⟨_, _, hb' _ h1, h2, ?_⟩, kept_setBlock, by simp [setBlock]⟩
    · simp [Builtin.delete_, run_underlying ht, run_getObj_map _ _ _ _ h1, K.check, hr, MapKept.run_setObj_map _ h1, Result.andThen, setBlock]
    · refine h3.trans (List.Perm.of_eq (congrArg _ (List.filter_eq_self.2 fun p hp => ?_).symm))
      simp only [ne_eq, decide_not, Bool.not_eq_true', decide_eq_false_iff_not]
      intro hpa
      have := h3.mem_iff.2 (List.mem_map.2 ⟨p, hp, rfl⟩)
      obtain ⟨x, hx, hxe⟩ := List.mem_map.1 this
      simp only [Prod.mk.injEq] at hxe
      exact hne x hx (by rw [hxe.1, hpa])
  · have hje : es[j]? = some e0 := by simpa using hj
    have hlt : j < es.size := (Array.getElem?_eq_some_iff.1 hje).1
    refine ⟨setBlock w b (.map (es.eraseIdxIfInBounds j) clock), ?_, ⟨_, _, hb' _ h1, stamped_erase h2 j, ?_⟩, kept_setBlock, by simp [setBlock]⟩
    · simp [Builtin.delete_, run_underlying ht, run_getObj_map _ _ _ _ h1, K.check, hr, MapKept.run_setObj_map _ h1, Result.andThen, setBlock]
    · have hp2 := perm_without (L := L) (kenc := kenc) (venc := venc) K.inj h3 a
      refine List.Perm.trans (List.Perm.of_eq ?_) hp2
      have e1 : (es.eraseIdxIfInBounds j).toList = es.toList.eraseIdx j := by
        rw [Array.eraseIdxIfInBounds, dif_pos hlt, Array.toList_eraseIdx]
      rw [e1]
      have hkeys : (es.toList.map fun e => e.key).Nodup := h2.2.2
      have hX : ((es.toList.map fun e => (e.key, e.val)).map Prod.fst).Nodup := by rw [List.map_map]; exact hkeys
      have hjX : (es.toList.map fun e => (e.key, e.val))[j]? = some (kenc a, venc v0) := by rw [List.getElem?_map, hj]; simp [hk0, hv0]
      have e2 : ((es.toList.eraseIdx j).map fun e => (e.key, e.val)) = (es.toList.map fun e => (e.key, e.val)).eraseIdx j := by rw [List.eraseIdx_eq_take_drop_succ, List.eraseIdx_eq_take_drop_succ, List.map_append, List.map_take, List.map_drop]
      rw [e2]
      generalize (es.toList.map fun e => (e.key, e.val)) = X at hX hjX
      have hjl : j < X.length := (List.getElem?_eq_some_iff.1 hjX).1
      have hd : X = X.take j ++ (kenc a, venc v0) :: X.drop (j + 1) := by
        rw [← (List.getElem?_eq_some_iff.1 hjX).2, ← List.drop_eq_getElem_cons hjl, List.take_append_drop]
      have hout : ∀ q ∈ X.take j ++ X.drop (j + 1), q.1 ≠ kenc a := by
        rw [hd] at hX
        simp only [List.map_append, List.map_cons] at hX
        have h5 := (List.perm_middle (a := kenc a) (l₁ := (X.take j).map Prod.fst) (l₂ := (X.drop (j + 1)).map Prod.fst)).nodup_iff.1 hX
        rw [← List.map_append, List.nodup_cons] at h5
        exact fun q hq e => h5.1 (List.mem_map.2 ⟨q, hq, e⟩)
      rw [List.eraseIdx_eq_take_drop_succ]
      conv => rhs; rw [hd]
      rw [List.filter_append, List.filter_cons_of_neg (by simp), ← List.filter_append]
      exact (List.filter_eq_self.2 fun q hq => by simpa using hout q hq).symm

/-! ### a range under way -/
/-- Block r is an iterator over the map at block b, to which the pairs of 'todo' are still to come. -/
def MapRange (w : World) (kenc : κ → Value) (venc : ν → Value) (b r : Nat) (todo : List (κ × ν)) : Prop :=
  ∃ es clock since seen c0, w.heap[b]? = some (.map es clock) ∧ Stamped es clock ∧ w.heap[r]? = some (.mapIter (some b) since seen c0) ∧ (∀ x ∈ es.toList, x.born < since) ∧ since ≤ c0 ∧ since ≤ clock ∧
    ((leftOf es seen).toList.map fun e => (e.key, e.val)).Perm (todo.map fun p => (kenc p.1, venc p.2))
omit [DecidableEq κ] in
theorem MapRange.ne {r : Nat} {todo : List (κ × ν)} (h : MapRange w kenc venc b r todo) : r ≠ b := by
  obtain ⟨es, clock, since, seen, c0, h1, _, h3, _⟩ := h
  intro e; subst e; rw [h1] at h3; cases h3
omit [DecidableEq κ] in
theorem MapRange.lt {r : Nat} {todo : List (κ × ν)} (h : MapRange w kenc venc b r todo) : r < w.heap.size ∧ b < w.heap.size := by
  obtain ⟨es, clock, since, seen, c0, h1, _, h3, _⟩ := h
  exact ⟨(Array.getElem?_eq_some_iff.1 h3).1, (Array.getElem?_eq_some_iff.1 h1).1⟩
omit [DecidableEq κ] in
theorem MapRange.kept {r : Nat} {todo : List (κ × ν)} (h : MapRange w kenc venc b r todo) {S : Nat → Prop} {w' : World} (hk : Kept S w w') (hb : ¬ S b) (hr : ¬ S r) : MapRange w' kenc venc b r todo := by
  have hl := h.lt
  obtain ⟨es, clock, since, seen, c0, h1, h2, h3, h4⟩ := h
  exact ⟨es, clock, since, seen, c0, (hk.block b hl.2 hb).trans h1, h2, (hk.block r hl.1 hr).trans h3, h4⟩
/-- How many are still to come: for a loop's measure. -/
def rangeTodo (w : World) (b r : Nat) : Nat :=
  match w.heap[b]?, w.heap[r]? with
  | some (.map es _), some (.mapIter _ _ seen _) => (leftOf es seen).size
  | _, _ => 0
omit [DecidableEq κ] in
theorem MapRange.todo {r : Nat} {todo : List (κ × ν)} (h : MapRange w kenc venc b r todo) : rangeTodo w b r = todo.length := by
  obtain ⟨es, clock, since, seen, c0, h1, _, h3, _, _, _, h4⟩ := h
  simp only [rangeTodo, h1, h3]
  have := h4.length_eq
  simpa using this
omit [DecidableEq κ] in
theorem MapIs.range (h : MapIs w kenc venc b L) (ht : P.underlying t = some (.map k e)) :
    (Instr.range t (.map (some b))).run P w = .ok (.pointer (some ⟨w.heap.size, 0, none⟩)) (w.alloc (.mapIter (some b) (w.heap[b]?.elim 0 fun o => match o with | .map _ c => c | _ => 0) #[] (w.heap[b]?.elim 0 fun o => match o with | .map _ c => c | _ => 0))) ∧
    MapRange (w.alloc (.mapIter (some b) (w.heap[b]?.elim 0 fun o => match o with | .map _ c => c | _ => 0) #[] (w.heap[b]?.elim 0 fun o => match o with | .map _ c => c | _ => 0))) kenc venc b w.heap.size L := by
  have hlt := h.lt
  obtain ⟨es, clock, h1, h2, h3⟩ := h
  simp only [h1, Option.elim]
  refine ⟨run_range_map w t k e b es clock ht h1, es, clock, clock, #[], clock, ((MapKept.heap_alloc w _).2 b hlt).trans h1, h2, (MapKept.heap_alloc w _).1, h2.1, Nat.le_refl _, Nat.le_refl _, ?_⟩
  have : leftOf es #[] = es := by unfold leftOf; exact Array.filter_eq_self.2 (fun x _ => by simp)
  rw [this]; exact h3
omit [DecidableEq κ] in
theorem MapRange.next {r : Nat} {todo : List (κ × ν)} (h : MapRange w kenc venc b r todo) (ty : TypeId) :
    (todo = [] ∧ (Instr.next (.pointer (some ⟨r, 0, none⟩)) false ty).run P w = .ok (.tuple #[.bool false]) w) ∨
    ∃ p todo' w', todo.Perm (p :: todo') ∧ (Instr.next (.pointer (some ⟨r, 0, none⟩)) false ty).run P w = .ok (.tuple #[.bool true, kenc p.1, venc p.2]) w' ∧ MapRange w' kenc venc b r todo' ∧ Kept (fun j => j = r) w w' ∧ w'.heap.size = w.heap.size ∧
      (Instr.entry (.pointer (some ⟨r, 0, none⟩))).run P w' = .ok (.tuple #[kenc p.1, venc p.2]) w' := by
  classical
  have hne := h.ne
  obtain ⟨es, clock, since, seen, c0, hb, hst, hr, hold, hsc, hsk, hp⟩ := h
  rcases run_next_at (P := P) w ty r b since c0 seen es clock hr hb hold hsc with ⟨h0, hrun⟩ | ⟨e, he, w1, hal, hrun⟩
  · refine Or.inl ⟨?_, hrun⟩
    have := hp.length_eq
    simp only [List.length_map] at this
    have h0' : (leftOf es seen).toList.length = 0 := by simpa using h0
    exact List.eq_nil_of_length_eq_zero (by omega)
  · obtain ⟨hem, hes⟩ := mem_left he
    have hr1 : w1.heap[r]? = some (.mapIter (some b) since seen c0) := by rcases hal with rfl | rfl <;> exact hr
    have hb1 : w1.heap[b]? = some (.map es clock) := by rcases hal with rfl | rfl <;> exact hb
    have hset := MapKept.heap_set (o' := .mapIter (some b) since (seen.push e.born) clock) hr1
    have hb' : (setBlock w1 r (.mapIter (some b) since (seen.push e.born) clock)).heap[b]? = some (.map es clock) := (hset.2 b (fun e1 => hne e1.symm)).trans hb1
    obtain ⟨p, hpm, hpe⟩ := List.mem_map.1 (hp.mem_iff.1 (List.mem_map.2 ⟨e, he, rfl⟩))
    simp only [Prod.mk.injEq] at hpe
    have hborn : ((leftOf es seen).toList.map (·.born)).Nodup := by
      have hsub : (leftOf es seen).toList.Sublist es.toList := by unfold leftOf; rw [Array.toList_filter]; exact List.filter_sublist
      exact (hsub.map _).nodup hst.2.1
    have hleft : (leftOf es seen).toList.Perm (e :: (leftOf es (seen.push e.born)).toList) := by
      refine (perm_cons_filter (·.born) hborn he).trans (List.Perm.of_eq (congrArg _ ?_))
      unfold leftOf
      rw [Array.toList_filter, Array.toList_filter, List.filter_filter]
      refine List.filter_congr fun x _ => ?_
      simp only [ne_eq, decide_not, Array.contains_push]
      by_cases hx : x.born = e.born <;> simp [hx]
    obtain ⟨l1, l2, hsplit⟩ := List.append_of_mem hpm
    have hperm : todo.Perm (p :: (l1 ++ l2)) := by rw [hsplit]; exact List.perm_middle
    refine Or.inr ⟨p, l1 ++ l2, _, hperm, by rw [hpe.1, hpe.2]; exact hrun, ⟨es, clock, since, seen.push e.born, clock, hb', hst, hset.1, hold, hsk, hsk, ?_⟩, ?_, ?_, ?_⟩
    · have h5 := (hleft.map fun e : MapEntry => (e.key, e.val)).symm.trans (hp.trans (hperm.map fun p => (kenc p.1, venc p.2)))
      simp only [List.map_cons, hpe.1, hpe.2] at h5
      exact (List.perm_cons _).1 h5
    · rcases hal with rfl | rfl
      · exact ⟨rfl, rfl, rfl, by simp [setBlock], fun i _ hi => hset.2 i hi⟩
      · exact ⟨rfl, rfl, rfl, by simp [setBlock], fun i _ hi => hset.2 i hi⟩
    · rcases hal with rfl | rfl <;> simp [setBlock]
    · rw [hpe.1, hpe.2]
      exact run_entry_at _ r b since seen es clock e hset.1 hb' hem hst.2.1

/-! ### at the operation, for a walk -/
section
variable {ops : Array Oper} {rest : List Oper} {o : Oper} {a : Act} {Q : Exit → Act → World → Prop}
theorem wpList_lookup_is (hg : o.guard = none) (m x : Operand) (t : TypeId) (hop : o.op = Op.lookup t m x false) (k e : TypeId) (K : KeyOK P k kenc) (ht : P.underlying t = some (.map k e)) (z : ν) (hz : (zeroValue e).run P w = .ok (venc z) w)
    (b : Nat) (L : List (κ × ν)) (hm : a.eval m = .map (some b)) (h : MapIs w kenc venc b L) (c : κ) (hx : a.eval x = kenc c)
    (hK : wpList P ops Q rest (a.put o.dst (venc ((mlook L c).getD z))) w) : wpList P ops Q (o :: rest) a w := by
  refine wpList_plain hg fun K' hK' => ?_
  unfold Oper.wp
  simp [execOp, hop, hm, hx, h.lookup K ht hz c, Result.andThen]
  exact hK' _ _ hK
theorem wpList_lookup_ok_is (hg : o.guard = none) (m x : Operand) (t : TypeId) (hop : o.op = Op.lookup t m x true) (k e : TypeId) (K : KeyOK P k kenc) (ht : P.underlying t = some (.map k e)) (z : ν) (hz : (zeroValue e).run P w = .ok (venc z) w)
    (b : Nat) (L : List (κ × ν)) (hm : a.eval m = .map (some b)) (h : MapIs w kenc venc b L) (c : κ) (hx : a.eval x = kenc c)
    (hK : wpList P ops Q rest (a.put o.dst (.tuple #[venc ((mlook L c).getD z), .bool (mlook L c).isSome])) w) : wpList P ops Q (o :: rest) a w := by
  refine wpList_plain hg fun K' hK' => ?_
  unfold Oper.wp
  simp [execOp, hop, hm, hx, h.lookup_ok K ht hz c, Result.andThen]
  exact hK' _ _ hK
theorem wpList_store_is (hg : o.guard = none) (m x v : Operand) (t : TypeId) (hop : o.op = Op.mapUpdate t m x v) (k e : TypeId) (K : KeyOK P k kenc) (ht : P.underlying t = some (.map k e))
    (b : Nat) (L : List (κ × ν)) (hm : a.eval m = .map (some b)) (h : MapIs w kenc venc b L) (c : κ) (hx : a.eval x = kenc c) (u : ν) (hv : a.eval v = venc u)
    (hK : ∀ w', MapIs w' kenc venc b (mput L c u) → Kept (fun j => j = b) w w' → wpList P ops Q rest (a.put o.dst undef) w') : wpList P ops Q (o :: rest) a w := by
  refine wpList_plain hg fun K' hK' => ?_
  obtain ⟨w', hrun, r1, r2, r3⟩ := h.store K ht c u
  unfold Oper.wp
  simp [execOp, hop, hm, hx, hv, hrun, Result.andThen]
  exact hK' _ _ (hK w' r1 r2)
theorem wpList_delete_is (hg : o.guard = none) (m x : Operand) (t k : TypeId) (hop : o.op = Op.call { callee := Callee.builtin Builtin.delete, args := #[m, x], argTypes := #[t, k] }) (e : TypeId) (K : KeyOK P k kenc) (ht : P.underlying t = some (.map k e))
    (b : Nat) (L : List (κ × ν)) (hm : a.eval m = .map (some b)) (h : MapIs w kenc venc b L) (c : κ) (hx : a.eval x = kenc c)
    (hK : ∀ w', MapIs w' kenc venc b (mdel L c) → Kept (fun j => j = b) w w' → wpList P ops Q rest (a.put o.dst (.tuple #[])) w') : wpList P ops Q (o :: rest) a w := by
  refine wpList_plain hg fun K' hK' => ?_
  obtain ⟨w', hrun, r1, r2, r3⟩ := h.drop K ht c o.type
  unfold Oper.wp
  simp [execOp, hop, resolve, invoke, builtin, hm, hx, hrun, Result.andThen]
  exact hK' _ _ (hK w' r1 r2)
omit [DecidableEq κ] in
theorem wpList_range_is (hg : o.guard = none) (m : Operand) (t : TypeId) (hop : o.op = Op.range t m) (k e : TypeId) (ht : P.underlying t = some (.map k e)) (b : Nat) (L : List (κ × ν)) (hm : a.eval m = .map (some b)) (h : MapIs w kenc venc b L)
    (hK : ∀ w', MapRange w' kenc venc b w.heap.size L → Kept Nowhere w w' → wpList P ops Q rest (a.put o.dst (.pointer (some ⟨w.heap.size, 0, none⟩))) w') : wpList P ops Q (o :: rest) a w := by
  refine wpList_plain hg fun K' hK' => ?_
  obtain ⟨hrun, r1⟩ := h.range (P := P) ht
  unfold Oper.wp
  simp [execOp, hop, hm, hrun, Result.andThen]
  exact hK' _ _ (hK _ r1 ((Kept.refl _ _).alloc _))
omit [DecidableEq κ] in
theorem wpList_next_is (hg : o.guard = none) (it : Operand) (hop : o.op = Op.next it false) (b r : Nat) (todo : List (κ × ν)) (hit : a.eval it = .pointer (some ⟨r, 0, none⟩)) (h : MapRange w kenc venc b r todo)
    (hDone : todo = [] → wpList P ops Q rest (a.put o.dst (.tuple #[.bool false])) w)
    (hMore : ∀ (p : κ × ν) (todo' : List (κ × ν)) (w' : World), todo.Perm (p :: todo') → MapRange w' kenc venc b r todo' → Kept (fun j => j = r) w w' → (Instr.entry (.pointer (some ⟨r, 0, none⟩))).run P w' = .ok (.tuple #[kenc p.1, venc p.2]) w' →
      wpList P ops Q rest (a.put o.dst (.tuple #[.bool true, kenc p.1, venc p.2])) w') : wpList P ops Q (o :: rest) a w := by
  refine wpList_plain hg fun K' hK' => ?_
  unfold Oper.wp
  rcases h.next (P := P) o.type with ⟨h0, hrun⟩ | ⟨p, todo', w', hp, hrun, hrg, hk, hsz, hen⟩
  · simp [execOp, hop, hit, hrun, Result.andThen]
    exact hK' _ _ (hDone h0)
  · simp [execOp, hop, hit, hrun, Result.andThen]
    exact hK' _ _ (hMore p todo' w' hp hrg hk hen)
end
end
/-- A region that draws, whose first n operations read and whose others come in one order. -/
theorem region_tail {P : Program} {id : Nat} {Q : Exit → Act → World → Prop} {a : Act} {w : World} {l : List Oper} (n : Nat) (hm : P.follows .mixedOrders = true) (hB : Region.lexTailB .any l.toArray n = true)
    (h : wpStill P l.toArray w.drew (fun a' => wpList P l.toArray Q (l.drop n) a' w.drew) (l.take n) a) : (Code.region id l.toArray true).wp P Q a w := wp_region_still_tail n hm hB h
/-! ### a range over a string, whose iterator is any block -/
/-- How far a string's iterator is. -/
def strPos (w : World) (r : Nat) : Nat :=
  match w.heap[r]? with
  | some (.stringIter _ p) => p
  | _ => 0
theorem strPos_of {w : World} {r pos : Nat} {s : ByteArray} (h : w.heap[r]? = some (.stringIter s pos)) : strPos w r = pos := by simp [strPos, h]
theorem width_pos (s : ByteArray) (pos : Nat) : 1 ≤ (Utf8.decode s pos).2 := by
  unfold Utf8.decode
  simp only
  repeat (first | split | omega)
section
variable {P : Program} {ops : Array Oper} {rest : List Oper} {o : Oper} {a : Act} {Q : Exit → Act → World → Prop} {w : World}
theorem wpList_next_str (hg : o.guard = none) (it : Operand) (hop : o.op = Op.next it true) (r pos : Nat) (s : ByteArray) (hit : a.eval it = .pointer (some ⟨r, 0, none⟩)) (h : w.heap[r]? = some (.stringIter s pos))
    (hDone : ¬ pos < s.size → wpList P ops Q rest (a.put o.dst (.tuple #[.bool false])) w)
    (hMore : ∀ w', pos < s.size → w'.heap[r]? = some (.stringIter s (pos + (Utf8.decode s pos).2)) → Kept (fun j => j = r) w w' →
      wpList P ops Q rest (a.put o.dst (.tuple #[.bool true, .int .i64 pos, .int .i32 (Utf8.decode s pos).1])) w') : wpList P ops Q (o :: rest) a w := by
  refine wpList_plain hg fun K' hK' => ?_
  unfold Oper.wp
  by_cases hp : pos < s.size
  · have hset : ({ w with heap := w.heap.setIfInBounds r (.stringIter s (pos + (Utf8.decode s pos).2)) } : World).heap[r]? = some (.stringIter s (pos + (Utf8.decode s pos).2)) := by
      have hlt := (Array.getElem?_eq_some_iff.1 h).1
      simp [hlt]
    have hrun : (Instr.next (.pointer (some ⟨r, 0, none⟩)) true o.type).run P w = .ok (.tuple #[.bool true, .int .i64 pos, .int .i32 (Utf8.decode s pos).1]) { w with heap := w.heap.setIfInBounds r (.stringIter s (pos + (Utf8.decode s pos).2)) } := by
      simp [Instr.next, getObj, setObj, Sem.run_bind, Sem.run, h, hp, Result.andThen, goInt]
    simp [execOp, hop, hit, hrun, Result.andThen]
    exact hK' _ _ (hMore _ hp hset ⟨rfl, rfl, rfl, by simp, fun i _ hi => by simp [Ne.symm hi]⟩)
  · have hrun : (Instr.next (.pointer (some ⟨r, 0, none⟩)) true o.type).run P w = .ok (.tuple #[.bool false]) w := by
      simp [Instr.next, getObj, Sem.run, h, hp]
    simp [execOp, hop, hit, hrun, Result.andThen]
    exact hK' _ _ (hDone hp)
end
end Go.Proofs.YtlaahjcdbdipdaaGreatDoor
