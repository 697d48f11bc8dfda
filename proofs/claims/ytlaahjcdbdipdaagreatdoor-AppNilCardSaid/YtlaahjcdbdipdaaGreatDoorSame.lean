/- Two lists of entries compared: the contract of Same; the nil bank; a copy. -/
import Derived.Test.YtlaahjcdbdipdaaGreatDoorRun
namespace Go.Proofs.YtlaahjcdbdipdaaGreatDoor
open Go Go.RowKit Go.MapKept Go.ChangeMaps

/-- A slice that reads as a list of entries. -/
def ReadsEnt (w : World) (v : Value) (L : List (BA × BA)) : Prop :=
  ∃ a cap, v = .slice a L.length cap ∧ L.length ≤ 1000000 ∧ ∀ i x, L[i]? = some x → ∃ g, a = some ⟨g, 0, none⟩ ∧ g < w.heap.size ∧ w.cell? ⟨g, i * 2, none⟩ = some (.string x.1) ∧ w.cell? ⟨g, i * 2 + 1, none⟩ = some (.string x.2)
theorem reads_of_own {w : World} {base : Nat} {v : Value} {M : List (BA × BA)} (h : w.ownsRow base 93 2 v M.length (M.flatMap encEnt)) (hl : M.length ≤ 1000000) : ReadsEnt w v M := by
  by_cases h0 : M.length = 0
  · have hM : M = [] := List.eq_nil_of_length_eq_zero h0
    subst hM
    rcases h.2 with ⟨rfl, _⟩ | ⟨g, cap, cur, rfl, _⟩
    · exact ⟨none, 0, rfl, by simp, by simp⟩
    · exact ⟨some ⟨g, 0, none⟩, cap, rfl, by simp, by simp⟩
  · obtain ⟨g, cap, cur, rfl, hbase, hlt, hh, h1, h2, h3, h4⟩ := own_some h (by omega)
    refine ⟨some ⟨g, 0, none⟩, cap, rfl, hl, fun i x hx => ⟨g, rfl, hlt, ?_, ?_⟩⟩
    · refine (own_cell hh h4 (j := i * 2) ?_).1
      have := flat_at (enc := encEnt) (k := 2) (fun _ => rfl) M i 0 (by omega)
      rw [hx] at this; simpa [encEnt] using this
    · refine (own_cell hh h4 (j := i * 2 + 1) ?_).1
      have := flat_at (enc := encEnt) (k := 2) (fun _ => rfl) M i 1 (by omega)
      rw [hx] at this; simpa [encEnt] using this
theorem ReadsEnt.kept {w w' : World} {v : Value} {L : List (BA × BA)} {S : Nat → Prop} (h : ReadsEnt w v L) (hk : Kept S w w') (hS : ∀ k, v.ownBlock = some k → ¬ S k) : ReadsEnt w' v L := by
  obtain ⟨a, cap, rfl, hl, h⟩ := h
  refine ⟨a, cap, rfl, hl, fun i x hx => ?_⟩
  obtain ⟨g, rfl, hlt, h1, h2⟩ := h i x hx
  have hg := hS g rfl
  exact ⟨g, rfl, Nat.lt_of_lt_of_le hlt hk.size, (hk.cell (p := ⟨g, _, none⟩) hlt hg).trans h1, (hk.cell (p := ⟨g, _, none⟩) hlt hg).trans h2⟩
theorem structEnt : Tryz.prog.underlying 93 = some (.struct (Tryz.prog.fieldsOf 93)) := by kernel_rfl
theorem stoodEnt : Tryz.prog.stoodInHeld 93 = false := by kernel_rfl
theorem fieldsEnt : (Tryz.prog.fieldsOf 93).toList.map (fun f => (f.name, f.type, f.offset)) = [("Key", 9, 0), ("Value", 9, 1)] := by kernel_rfl
theorem neqEnt (w : World) (a b : BA × BA) : (binOp .neq 93 (.agg #[.string a.1, .string a.2]) (.agg #[.string b.1, .string b.2])).run Tryz.prog w = .ok (.bool (!decide (a = b))) w := by
  have h := equal_two structEnt stoodEnt fieldsEnt (by decide) (by decide) w a b
  simp only [binOp, Sem.run_bind] at h ⊢
  rw [show (Op.equal 93 (Value.agg #[Value.string a.1, Value.string a.2]) (Value.agg #[Value.string b.1, Value.string b.2])).run Tryz.prog w = _ from h]
  simp [Result.andThen]
set_option maxRecDepth 100000 in
set_option maxHeartbeats 800000 in
theorem Same_any (w : World) (u v : Value) (L M : List (BA × BA)) (hu : ReadsEnt w u L) (hv : ReadsEnt w v M) :
    Calls Tryz.prog 16 #[u, v] w fun e w' => e = .returned (.bool (decide (L = M))) ∧ Kept Nowhere w w' := by
  obtain ⟨a, c1, rfl, hl1, hu⟩ := hu
  obtain ⟨b, c2, rfl, hl2, hv⟩ := hv
  by_cases hl : L.length = M.length
  · obtain ⟨n, hn⟩ : ∃ n, n = L.length := ⟨_, rfl⟩
    have hm : n = M.length := hn.trans hl
    have HLM := Lib.hid (And.intro hn hm)
    have HU := Lib.hid hu
    have HV := Lib.hid hv
    rw [← hn] at hl1
    rw [← hn, ← hm]
    clear hn hm hl hl2 hu hv
    go_enter Tryz.func16, Tryz.ntmps16
    go_wp2_with fail
    go_loopw [5] (fun i wr => ∃ k : Nat, k ≤ n ∧ i = .int .i64 k ∧ L.take k = M.take k ∧ Kept Nowhere w wr) (fun i _ => n - (intOf i).toNat)
    case atStart => exact ⟨0, Nat.zero_le _, rfl, by simp, Kept.refl _ _⟩
    case round =>
      obtain ⟨k, hk, rfl, heq, hkw⟩ := hrel
      have HEQ := Lib.hid heq; clear heq
      by_cases hlt : k < n
      · obtain ⟨x, hx⟩ : ∃ x, L[k]? = some x := ⟨_, List.getElem?_eq_getElem (by rw [← HLM.out.1]; exact hlt)⟩
        obtain ⟨y, hy⟩ : ∃ y, M[k]? = some y := ⟨_, List.getElem?_eq_getElem (by rw [← HLM.out.2]; exact hlt)⟩
        obtain ⟨g, rfl, hg1, hg2, hg3⟩ := HU.out k x hx
        obtain ⟨g', rfl, hg1', hg2', hg3'⟩ := HV.out k y hy
        have q0 := (hkw.cell (p := ⟨g, _, none⟩) hg1 id).trans hg2
        have q1 := (hkw.cell (p := ⟨g, _, none⟩) hg1 id).trans hg3
        have q2 := (hkw.cell (p := ⟨g', _, none⟩) hg1' id).trans hg2'
        have q3 := (hkw.cell (p := ⟨g', _, none⟩) hg1' id).trans hg3'
        have hq := fun W => neqEnt W x y
        have HXY := Lib.hid (And.intro hx hy)
        clear hx hy hg1 hg2 hg3 hg1' hg2' hg3'
        have hk0 : (0 : Int) ≤ (k : Int) := Int.natCast_nonneg _
        go_wp2_with fail
        refine region_tail 8 (by kernel_rfl) (by kernel_rfl) ?_
        simp only [List.take_succ_cons, List.take_zero, List.drop_succ_cons, List.drop_zero]
        repeat still_step
        refine wpStill_nil ?_
        by_cases hxy : x = y
        · have hd : decide (x = y) = true := by simpa using hxy
          rw [hd] at hq
          have HD := Lib.hid hxy; clear hxy hd
          go_wp2_with fail
          refine ⟨⟨k + 1, by omega, by go_num, ?_, hkw.drew⟩, by simp [intOf]; omega⟩
          rw [List.take_add_one, List.take_add_one, HEQ.out, HXY.out.1, HXY.out.2, HD.out]
        · have hd : decide (x = y) = false := by simpa using hxy
          rw [hd] at hq
          have HF : Hid (decide (L = M) = false) := by
            refine decide_eq_false (fun e => hxy ?_)
            have := HXY.out.1
            rw [e, HXY.out.2] at this
            exact (Option.some.inj this).symm
          clear hxy hd
          go_wp2_with fail
          go_ret
          exact ⟨by rw [HF.out]; rfl, hkw.drew⟩
      · obtain rfl : k = n := by omega
        have HT : Hid (decide (L = M) = true) := by
          refine decide_eq_true ?_
          have := HEQ.out
          rwa [List.take_of_length_le (by rw [← HLM.out.1]; exact Nat.le_refl _), List.take_of_length_le (by rw [← HLM.out.2]; exact Nat.le_refl _)] at this
        go_wp2_with fail
        go_ret
        exact ⟨by rw [HT.out]; rfl, hkw⟩
  · have HF : Hid (decide (L = M) = false) := decide_eq_false (fun e => hl (by rw [e]))
    clear hu hv
    go_enter Tryz.func16, Tryz.ntmps16
    go_wp2_with fail
    go_ret
    exact ⟨by rw [HF.out]; rfl, Kept.refl _ _⟩

end Go.Proofs.YtlaahjcdbdipdaaGreatDoor
