/- Forms: what is right, and its bytes: the contracts of must, within, name, encode. -/
import Derived.Test.YtlaahjcdbdipdaaGreatDoorWire
import Derived.Test.YtlaahjcdbdipdaaGreatDoorRefText
import Derived.Lib.AtoiErrMem
import Derived.Defers
import Derived.Recover
namespace Go.Proofs.YtlaahjcdbdipdaaGreatDoor
open Go Go.RowKit Go.MapKept Go.ChangeMaps

/-- The sign of something that is not right. -/
abbrev wrongV : Value := .iface 390 (.agg #[])
abbrev wrongP : Ending := .panicked [{ v := wrongV, recovered := false }]
set_option maxRecDepth 100000 in
theorem must_yes (w : World) : Calls Tryz.prog 241 #[.bool true] w fun e w' => e = .returned (.tuple #[]) ∧ w = w' := by
  go_enter Tryz.func241, Tryz.ntmps241
  go_wp2_with fail
  first | go_end0 | refine bodyPost_ret (results_none rfl _ _ _) rfl ?_
  exact ⟨rfl, rfl⟩
set_option maxRecDepth 100000 in
theorem must_no (w : World) : Calls Tryz.prog 241 #[.bool false] w fun e w' => e = wrongP ∧ w = w' := by
  go_enter Tryz.func241, Tryz.ntmps241
  go_wp2_with fail
  exact ⟨rfl, rfl, rfl⟩
/-- Nothing, or the sign. -/
def okOr (b : Bool) : Ending := if b then .returned (.tuple #[]) else wrongP
theorem must_any (b : Bool) (w : World) : Calls Tryz.prog 241 #[.bool b] w fun e w' => e = okOr b ∧ w = w' := by
  cases b
  · exact must_no w
  · exact must_yes w
/-- Is a number one of a range? -/
def withinB (n lo hi : Int) : Bool := decide (lo ≤ n) && decide (n ≤ hi)
set_option maxRecDepth 100000 in
theorem within_any (n lo hi : Int) (w : World) : Calls Tryz.prog 242 #[.int .i64 n, .int .i64 lo, .int .i64 hi] w fun e w' => e = okOr (withinB n lo hi) ∧ w = w' := by
  obtain ⟨r, hr⟩ : ∃ r, withinB n lo hi = r := ⟨_, rfl⟩
  rw [hr]
  unfold withinB at hr
  have HR := Lib.hid hr
  have HY := Lib.hid (must_yes w)
  have HN := Lib.hid (must_no w)
  clear hr
  by_cases h1 : lo ≤ n
  · by_cases h2 : n ≤ hi
    · obtain rfl : r = true := by rw [← HR.out]; simp [h1, h2]
      clear HR
      go_enter Tryz.func242, Tryz.ntmps242
      go_wp2_with fail
      refine HY.out.mono ?_
      rintro e w' ⟨rfl, rfl⟩
      go_wp2_with fail
      first | go_end0 | refine bodyPost_ret (results_none rfl _ _ _) rfl ?_
      exact ⟨rfl, rfl⟩
    · obtain rfl : r = false := by rw [← HR.out]; simp [h2]
      clear HR
      go_enter Tryz.func242, Tryz.ntmps242
      go_wp2_with fail
      refine HN.out.mono ?_
      rintro e w' ⟨rfl, rfl⟩
      go_wp2_with fail
      exact ⟨rfl, rfl, rfl⟩
  · obtain rfl : r = false := by rw [← HR.out]; simp [h1]
    clear HR
    go_enter Tryz.func242, Tryz.ntmps242
    go_wp2_with fail
    refine HN.out.mono ?_
    rintro e w' ⟨rfl, rfl⟩
    go_wp2_with fail
    exact ⟨rfl, rfl, rfl⟩
/-- May a name be? -/
def nameB (s : BA) : Bool := withinB s.size 1 16 && s.data.toList.all lowB
set_option maxRecDepth 100000 in
set_option maxHeartbeats 1600000 in
theorem name_any (s : BA) (hs : s.size ≤ maxLen) (w : World) : Calls Tryz.prog 243 #[.string s] w fun e w' => e = okOr (nameB s) ∧ Kept Nowhere w w' := by
  unfold maxLen at hs
  obtain ⟨r, hr⟩ : ∃ r, nameB s = r := ⟨_, rfl⟩
  rw [hr]
  unfold nameB at hr
  have HR := Lib.hid hr
  have HW := Lib.hid (fun W => within_any s.size 1 16 W)
  have HY := Lib.hid must_yes
  have HN := Lib.hid must_no
  clear hr
  have hcv := Lib.run_convert_string_bytes (P := Tryz.prog) w 9 168 5 s (u := .string) Tryz.underlying9 Tryz.underlying168 Tryz.underlying5
  have hk1 : Kept Nowhere w (Lib.bytesWorld w 5 s) := Kept.of_below (Lib.bytesWorld_below w 5 s)
  have hcell : ∀ k (h : k < s.size), (Lib.bytesWorld w 5 s).cell? ⟨w.heap.size, k, none⟩ = some (.int .u8 (s[k]'h).toNat) := fun k h => by
    rw [Lib.bytesWorld_cell w 5 s k h]
    have : s.data.toList.getD k 0 = s[k]'h := by rw [List.getD_eq_getElem?_getD, List.getElem?_eq_getElem (by simpa using h)]; rfl
    rw [this]
  generalize Lib.bytesWorld w 5 s = W1 at hcv hk1 hcell
  have HC := Lib.hid hcell
  have HK := Lib.hid hk1
  clear hcell hk1
  by_cases hin : withinB s.size 1 16 = true
  · rw [hin] at HW HR
    go_enter Tryz.func243, Tryz.ntmps243
    go_wp2_with fail
    refine (HW.out w).mono ?_
    rintro e w' ⟨rfl, rfl⟩
    unfold okOr
    go_wp2_with fail
    go_loopw [10] (fun i wr => ∃ k : Nat, k ≤ s.size ∧ i = .int .i64 k ∧ Hid ((s.data.toList.take k).all lowB = true) ∧ wr = W1) (fun i _ => s.size - (iOf i).toNat)
    case atStart => exact ⟨0, Nat.zero_le _, rfl, by simp [Hid], rfl⟩
    case round =>
      obtain ⟨k, hk, rfl, HA, rfl⟩ := hrel
      by_cases hlt : k < s.size
      · have hk0 : (0 : Int) ≤ (k : Int) := Int.natCast_nonneg _
        have hadd := add_none w.heap.size 0 k
        rw [Nat.zero_add] at hadd
        have hc := HC.out k hlt
        by_cases hlow : 97 ≤ (s[k]'hlt).toNat ∧ (s[k]'hlt).toNat ≤ 122
        · have HN2 := Lib.hid (all_step hlt HA.out (low_yes hlow.1 hlow.2))
          obtain ⟨h1, h2⟩ := hlow
          clear HA
          go_wp2_with fail
          rw [decide_eq_true (show ((s[k]'hlt).toNat : Int) ≤ 122 by omega)]
          refine (HY.out wr).mono ?_
          rintro e w' ⟨rfl, rfl⟩
          go_wp2_with fail
          exact ⟨⟨k + 1, by omega, by go_num, HN2, trivial⟩, by simp [iOf]; omega⟩
        · have hF := all_stop hlt (low_not hlow)
          obtain rfl : r = false := by rw [← HR.out, hF]; rfl
          by_cases h1 : 97 ≤ (s[k]'hlt).toNat
          · have h2 : ¬ (s[k]'hlt).toNat ≤ 122 := fun h => hlow ⟨h1, h⟩
            clear hlow hF HA
            go_wp2_with fail
            first | rw [decide_eq_false (show ¬ ((s[k]'hlt).toNat : Int) ≤ 122 by omega)] | skip
            refine (HN.out wr).mono ?_
            rintro e w' ⟨rfl, rfl⟩
            go_wp2_with fail
            exact ⟨rfl, rfl, HK.out⟩
          · clear hlow hF HA
            go_wp2_with fail
            refine (HN.out wr).mono ?_
            rintro e w' ⟨rfl, rfl⟩
            go_wp2_with fail
            exact ⟨rfl, rfl, HK.out⟩
      · obtain rfl : r = true := by rw [← HR.out, all_done hlt HA.out]; rfl
        clear HA
        go_wp2_with fail
        first | go_end0 | refine bodyPost_ret (results_none rfl _ _ _) rfl ?_
        exact ⟨rfl, HK.out⟩
  · have hin' : withinB s.size 1 16 = false := by simpa using hin
    rw [hin'] at HW HR
    obtain rfl : r = false := HR.out.symm
    clear HR hin hin'
    go_enter Tryz.func243, Tryz.ntmps243
    go_wp2_with fail
    refine (HW.out w).mono ?_
    rintro e w' ⟨rfl, rfl⟩
    unfold okOr
    go_wp2_with fail
    exact ⟨rfl, rfl, Kept.refl _ _⟩
/-- A packet. -/
structure Pkt where
  seq : Int
  from_ : BA
  data : BA
  timeout : Int
def Pkt.cells (p : Pkt) : List Value := [i64V p.seq, .string p.from_, .string p.data, i64V p.timeout]
/-- May a packet be? -/
def packetB (p : Pkt) : Bool := withinB p.seq 1 1099511627776 && nameB p.from_ && decide (p.data.size ≤ 256) && withinB p.timeout 1 1099511627776
/-- Its bytes. -/
def packetL (p : Pkt) : List UInt8 := beN 6 8 ++ beN (w64 p.seq) 8 ++ textB p.from_ ++ textB p.data ++ beN (w64 p.timeout) 8
structure PktAt (W : World) (b : Nat) (p : Pkt) : Prop where
  c0 : W.cell? ⟨b, 0, none⟩ = some (i64V p.seq)
  c1 : W.cell? ⟨b, 1, none⟩ = some (.string p.from_)
  c2 : W.cell? ⟨b, 2, none⟩ = some (.string p.data)
  c3 : W.cell? ⟨b, 3, none⟩ = some (i64V p.timeout)
theorem pkt_new (w : World) (p : Pkt) (t : Nat) : PktAt (w.alloc (.cells p.cells.toArray t)) w.heap.size p :=
  ⟨cell_of_alloc _ _ _ 0 _ rfl, cell_of_alloc _ _ _ 1 _ rfl, cell_of_alloc _ _ _ 2 _ rfl, cell_of_alloc _ _ _ 3 _ rfl⟩
theorem PktAt.kept {S : Nat → Prop} {W W' : World} {b : Nat} {p : Pkt} (h : PktAt W b p) (hk : Kept S W W') (hS : ¬ S b) : PktAt W' b p := by
  have hp : b < W.heap.size := World.block_lt_of_cell? W _ h.c0
  exact ⟨(hk.cell (p := ⟨b, _, none⟩) hp hS).trans h.c0, (hk.cell (p := ⟨b, _, none⟩) hp hS).trans h.c1, (hk.cell (p := ⟨b, _, none⟩) hp hS).trans h.c2, (hk.cell (p := ⟨b, _, none⟩) hp hS).trans h.c3⟩
set_option maxRecDepth 100000 in
set_option maxHeartbeats 1600000 in
theorem checkPacket_any (p : Pkt) (hs : p.from_.size ≤ maxLen) (hd : p.data.size ≤ maxLen) (w : World) : Calls Tryz.prog 153 #[.agg p.cells.toArray] w fun e w' => e = okOr (packetB p) ∧ Kept Nowhere w w' := by
  have h0 := pkt_new w p 58
  have hk0 : Kept Nowhere w (w.alloc (.cells p.cells.toArray 58)) := (Kept.refl _ _).alloc _
  obtain ⟨r, hr⟩ : ∃ r, packetB p = r := ⟨_, rfl⟩
  rw [hr]
  unfold packetB at hr
  obtain ⟨sq, fr, da, ti⟩ := p
  simp only at hr hs hd
  have H0 := Lib.hid (And.intro h0 hk0)
  have HR := Lib.hid hr
  have HW1 := Lib.hid (fun W => within_any sq 1 1099511627776 W)
  have HN := Lib.hid (fun W => name_any fr hs W)
  have HM := Lib.hid must_any
  have HW2 := Lib.hid (fun W => within_any ti 1 1099511627776 W)
  clear hr h0 hk0 hs
  have hd0 : (0 : Int) ≤ (da.size : Int) := by omega
  generalize withinB sq 1 1099511627776 = b1 at HR HW1
  generalize nameB fr = b2 at HR HN
  generalize withinB ti 1 1099511627776 = b4 at HR HW2
  obtain ⟨b3, hb3⟩ : ∃ b3, decide (da.size ≤ 256) = b3 := ⟨_, rfl⟩
  rw [hb3] at HR
  have hb3i : decide ((da.size : Int) ≤ 256) = b3 := by rw [← hb3]; exact decide_eq_decide.2 (by omega)
  have HB3 := Lib.hid hb3i
  clear hb3 hb3i
  go_enter Tryz.func153, Tryz.ntmps153
  unfold Pkt.cells at *
  obtain ⟨c0, c1, c2, c3⟩ := H0.out.1
  go_wp2_with fail
  refine (HW1.out _).mono ?_
  rintro e w1 ⟨rfl, rfl⟩
  unfold okOr
  cases b1
  · obtain rfl : r = false := by rw [← HR.out]; rfl
    go_wp2_with fail
    exact ⟨rfl, rfl, H0.out.2⟩
  go_wp2_with fail
  refine (HN.out _).mono ?_
  rintro e w2 ⟨rfl, hk2⟩
  have H2 := Lib.hid (And.intro (H0.out.1.kept hk2 id) (H0.out.2.trans hk2))
  clear hk2 c0 c1 c2 c3
  obtain ⟨c0, c1, c2, c3⟩ := H2.out.1
  unfold okOr
  cases b2
  · obtain rfl : r = false := by rw [← HR.out]; rfl
    go_wp2_with fail
    exact ⟨rfl, rfl, H2.out.2⟩
  go_wp2_with fail
  rw [HB3.out]
  refine (HM.out b3 _).mono ?_
  rintro e w3 ⟨rfl, rfl⟩
  unfold okOr
  cases b3
  · obtain rfl : r = false := by rw [← HR.out]; rfl
    go_wp2_with fail
    exact ⟨rfl, rfl, H2.out.2⟩
  go_wp2_with fail
  refine (HW2.out _).mono ?_
  rintro e w3 ⟨rfl, rfl⟩
  unfold okOr
  cases b4
  · obtain rfl : r = false := by rw [← HR.out]; rfl
    go_wp2_with fail
    exact ⟨rfl, rfl, H2.out.2⟩
  obtain rfl : r = true := by rw [← HR.out]; rfl
  go_wp2_with fail
  first | go_end0 | refine bodyPost_ret (results_none rfl _ _ _) rfl ?_
  exact ⟨rfl, H2.out.2⟩
end Go.Proofs.YtlaahjcdbdipdaaGreatDoor
