/- A number as text: the contract of strconv.FormatUint at base 10. -/
import Derived.Test.YtlaahjcdbdipdaaGreatDoorText
import Derived.Lib.AppendIntMem
namespace Go.Proofs.YtlaahjcdbdipdaaGreatDoor
open Go Go.RowKit Go.MapKept Go.ChangeMaps Go.Sort

/-- A number's decimal numeral. -/
def digitsOf (n : Nat) : BA := ⟨(Lib.decDigits n).toArray⟩
theorem kept_grow (S : Nat → Prop) (w : World) (k : Nat) (os : Array Obj) : Kept S w (grow (w.drewN k) os) := by
  refine ⟨rfl, rfl, rfl, by simp [grow, World.drewN], fun i hi _ => ?_⟩
  show (w.heap ++ os)[i]? = w.heap[i]?
  rw [Array.getElem?_append_left hi]
set_option maxRecDepth 100000 in
theorem FormatUint_small (n : Nat) (hn : n < 100) (w : World) :
    Calls Tryz.prog 143 #[u64V n, .int .i64 10] w fun e w' => e = .returned (.string (digitsOf n)) ∧ w = w' := by
  have h := Lib.hid (Tryz.internal_strconv_small n hn w)
  go_enter Tryz.func143, Tryz.ntmps143
  go_wp2_with (go_at_call 229; refine h.out.mono ?_; rintro e w' ⟨rfl, rfl⟩)
  go_ret
  exact ⟨rfl, rfl⟩
set_option maxRecDepth 100000 in
set_option maxHeartbeats 800000 in
theorem FormatUint_great (u : Nat) (hu : 100 ≤ u) (hu64 : u ≤ 18446744073709551615) (w : World) (htab : Lib.TabIs Tryz.prog w "internal/strconv.uint64pow10" .u64 Lib.pow10Tab) :
    Calls Tryz.prog 143 #[u64V u, .int .i64 10] w fun e w' => e = .returned (.string (digitsOf u)) ∧ Kept Nowhere w w' := by
  have hu1 : 1 ≤ u := by omega
  have hu65 : u < 18446744073709551616 := by omega
  have hnd20 : Lib.nDigits u ≤ 20 := by have := Lib.numDigits_eq u hu1 hu65; split at this <;> omega
  have hal : Tryz.prog.arrayLen 310 = 24 := by simp [Program.arrayLen, Tryz.underlying310]
  have hsl1 : ∀ W, (Instr.sliceAt 310 (.pointer (some ⟨w.heap.size, 0, none⟩)) none (some (.int .i64 (Lib.nDigits u : Int))) none).run Tryz.prog W = .ok (.slice (some ⟨w.heap.size, 0, none⟩) (Lib.nDigits u) 24) W := fun W => by
    rw [run_sliceAt_array_h W 310 ⟨w.heap.size, 0, none⟩ (by simp [Program.arrayLen, Program.elem, Tryz.underlying310]) .i64 (Lib.nDigits u : Int) (by omega) (by rw [hal]; omega)]
    go_simp
  have hH0 := Lib.holds_zero0 w 310 (Lib.nDigits u) (by omega)
  have hfmt := Tryz.internal_strconv_formatBase10 w.heap.size 0 24 u (Array.replicate (Lib.nDigits u) 0) (w.alloc (.cells Lib.zeros24 310)) hH0 (by rw [Array.size_replicate]; exact Lib.lt_pow_nDigits u) hu65 (by rw [Array.size_replicate]; omega)
  rw [Array.size_replicate] at hfmt
  have HH0 := Lib.hid hH0
  have HN := Lib.hid (Tryz.internal_strconv_numDigits u hu1 hu65 _ (Lib.tabIs_alloc htab (.cells Lib.zeros24 310)))
  have HF := Lib.hid hfmt
  clear hH0 hal hfmt hu65 hu64
  go_enter Tryz.func143, Tryz.ntmps143
  go_wp2_with fail
  refine HN.out.mono ?_
  rintro e w' ⟨rfl, rfl⟩
  go_wp2_with fail
  refine HF.out.mono ?_
  rintro e w' ⟨rfl, k, v', dk, rfl, hF⟩
  have hcv : (convert 168 9 (.slice (some ⟨w.heap.size, 0, none⟩) (Lib.nDigits u) 24)).run Tryz.prog ((putRow (fun (b : UInt8) => Value.int .u8 (b.toNat : Int)) (w.alloc (.cells Lib.zeros24 310)) w.heap.size 0 dk).drewN k) = .ok (.string (digitsOf u)) ((putRow (fun (b : UInt8) => Value.int .u8 (b.toNat : Int)) (w.alloc (.cells Lib.zeros24 310)) w.heap.size 0 dk).drewN k) := by
    have h := run_convert_bytes_back (P := Tryz.prog) ((putRow (fun (b : UInt8) => Value.int .u8 (b.toNat : Int)) (w.alloc (.cells Lib.zeros24 310)) w.heap.size 0 dk).drewN k) 168 9 5 ⟨w.heap.size, 0, none⟩ 24 (Lib.decDigits u) Tryz.underlying168 Tryz.underlying5 Tryz.underlying9 (fun j hj => by
      rw [Lib.row_is_numeral hF j hj, Lib.add_plain, World.cell?_drewN]
      exact cell?_putRow (fun (b : UInt8) => Value.int .u8 (b.toNat : Int)) _ w.heap.size 0 _ dk HH0.out (by rw [hF.size, Array.size_replicate]) j (by rw [hF.size]; rw [Lib.decDigits_length] at hj; exact hj))
    rw [Lib.decDigits_length] at h
    exact h
  obtain ⟨os, eo⟩ := Lib.fin_at w (.cells Lib.zeros24 310) dk k 0
  have HE := Lib.hid eo; clear eo
  go_wp2_with fail
  go_ret
  exact ⟨rfl, by rw [HE.out]; exact kept_grow _ _ _ _⟩
theorem FormatUint_any (n : Nat) (hn : n ≤ 18446744073709551615) (w : World) (hL : Laid w) :
    Calls Tryz.prog 75 #[u64V n, .int .i64 10] w fun e w' => e = .returned (.string (digitsOf n)) ∧ Kept Nowhere w w' := by
  have h : Hid (Calls Tryz.prog 143 #[u64V n, .int .i64 10] w fun e w' => e = .returned (.string (digitsOf n)) ∧ Kept Nowhere w w') := by
    by_cases hs : n < 100
    · exact (FormatUint_small n hs w).mono fun _ _ ⟨he, hw⟩ => ⟨he, hw ▸ Kept.refl _ _⟩
    · exact FormatUint_great n (by omega) hn w hL.pow
  clear hn
  go_enter Tryz.func75, Tryz.ntmps75
  go_wp2_with (go_at_call 143; refine h.out.mono ?_; rintro e w' ⟨rfl, hk⟩)
  go_ret
  exact ⟨rfl, hk⟩
end Go.Proofs.YtlaahjcdbdipdaaGreatDoor
