/- The writer: a bytes.Buffer that is a field: the contracts of NewWriter, put, Word, Number, Text, Hash, Bytes. -/
import Derived.Test.YtlaahjcdbdipdaaGreatDoorVals
import Derived.Lib.BufferAt
namespace Go.Proofs.YtlaahjcdbdipdaaGreatDoor
open Go Go.RowKit Go.MapKept Go.ChangeMaps

/-- The writer's other cell: is it bad? -/
def WrR (bad : Bool) : Nat → Option Value := fun i => if i = 3 then some (.bool bad) else none
/-- Block b (from B on) is a writer, that holds the bytes l. -/
def WrAt (B b : Nat) (bad : Bool) (l : List UInt8) (w : World) : Prop := LibA.IsBuffer 325 (WrR bad) 5 B b 0 (Lib.byteCells l) w
/-- What a writing leaves. -/
structure WF (B b : Nat) (w w' : World) : Prop where
  below : Below B w w'
  others : Lib.OthersKept 5 (some b) w w'
theorem WF.trans {B b : Nat} {w w1 w2 : World} (h : WF B b w w1) (k : WF B b w1 w2) : WF B b w w2 := ⟨h.below.trans k.below, h.others.trans k.others⟩
theorem WF.drew_left {B b : Nat} {w w' : World} (h : WF B b w.drew w') : WF B b w w' := ⟨⟨h.below.os, h.below.tape, h.below.output, h.below.size, h.below.block⟩, h.others⟩
theorem WrAt.drew {B b : Nat} {bad : Bool} {l : List UInt8} {w : World} (h : WrAt B b bad l w) : WrAt B b bad l w.drew := h
theorem WriteByte_any (B b : Nat) (bad : Bool) (l : List UInt8) (x : UInt8) (w : World) (h : WrAt B b bad l w) (hBw : B ≤ w.heap.size) (hl : l.length + 1 ≤ 140737488355328) :
    Calls Tryz.prog 313 #[.pointer (some ⟨b, 0, none⟩), .int .u8 x.toNat] w fun e w' => e = .returned .nilIface ∧ WrAt B b bad (l ++ [x]) w' ∧ WF B b w w' :=
  (Any.Buffer_WriteByte_at Tryz.laysAt179 325 (WrR bad) B b 0 (Lib.byteCells l) x.toNat w h hBw (Lib.byteCells_one l) (by rw [Lib.byteCells_length]; exact hl)).mono fun e w' ⟨he, h1, h2, h3⟩ =>
    ⟨he, by unfold WrAt; rw [Lib.byteCells_append]; exact h1, h2, h3⟩
theorem WriteString_any (B b : Nat) (bad : Bool) (l : List UInt8) (s : BA) (w : World) (h : WrAt B b bad l w) (hBw : B ≤ w.heap.size) (hl : l.length + s.size ≤ 140737488355328) :
    Calls Tryz.prog 246 #[.pointer (some ⟨b, 0, none⟩), .string s] w fun e w' => e = .returned (.tuple #[.int .i64 s.size, .nilIface]) ∧ WrAt B b bad (l ++ s.data.toList) w' ∧ WF B b w w' :=
  (Any.Buffer_WriteString_at Tryz.laysAt178 325 (WrR bad) B b 0 (Lib.byteCells l) s w h hBw (Lib.byteCells_one l) (by rw [Lib.byteCells_length]; exact hl)).mono fun e w' ⟨he, h1, h2, h3⟩ =>
    ⟨he, by unfold WrAt; rw [Lib.byteCells_append]; exact h1, h2, h3⟩
set_option maxRecDepth 100000 in
theorem NewWriter_any (w : World) : Calls Tryz.prog 239 #[] w fun e w' => e = .returned (ptr w.heap.size) ∧ WrAt w.heap.size w.heap.size false [] w' ∧ Kept Nowhere w w' ∧ w'.heap.size = w.heap.size + 1 := by
  go_enter Tryz.func239, Tryz.ntmps239
  go_wp2
  go_ret
  refine ⟨rfl, LibA.zero_isBuffer (Nat.le_refl _) (lr := 0) ?_, (Kept.refl _ _).alloc _, by simp⟩
  refine ⟨_, heap_alloc_new w _, rfl, rfl, rfl, fun i hi => ?_⟩
  unfold WrR
  rcases hi with hi | hi
  · omega
  · by_cases h3 : i = 3
    · subst h3; rfl
    · rw [if_neg h3, Array.getElem?_eq_none]
      show 4 ≤ i
      omega

/-- A number's last k bytes, the highest first. -/
def beN (n : Nat) : Nat → List UInt8
  | 0 => []
  | k + 1 => UInt8.ofNat (n / 2 ^ (8 * k)) :: beN n k
theorem beN_length (n : Nat) : ∀ k, (beN n k).length = k
  | 0 => rfl
  | k + 1 => by rw [beN, List.length_cons, beN_length n k]
theorem byte_of (n k : Nat) : ((n : Int) / 2 ^ (8 * k) % 256) = ((UInt8.ofNat (n / 2 ^ (8 * k))).toNat : Int) := by
  simp
set_option maxRecDepth 100000 in
set_option maxHeartbeats 1600000 in
theorem put_bytes (B b : Nat) (bad : Bool) (l : List UInt8) (n size : Nat) (w : World) (h : WrAt B b bad l w) (hBw : B ≤ w.heap.size) (hs : size ≤ 8) (hn : n ≤ 18446744073709551615) (hl : l.length ≤ 1000000) :
    Calls Tryz.prog 245 #[ptr b, u64V n, .int .i64 size] w fun e w' => e = .returned (.tuple #[]) ∧ WrAt B b bad (l ++ beN n size) w' ∧ WF B b w w' := by
  have HH := Lib.hid h
  clear h
  go_enter Tryz.func245, Tryz.ntmps245
  go_wp2_with fail
  go_loopw [6] (fun i wr => ∃ (j : Nat) (d : List UInt8), j ≤ size ∧ i = .int .i64 ((j : Int) - 1) ∧ Hid (d ++ beN n j = beN n size ∧ WrAt B b bad (l ++ d) wr ∧ WF B b w wr ∧ d.length + j = size)) (fun i _ => (iOf i + 1).toNat)
  case atStart => exact ⟨size, [], Nat.le_refl _, by go_num, rfl, by rw [List.append_nil]; exact HH.out, ⟨Below.refl _ _, Lib.OthersKept.refl _ _ _⟩, by simp⟩
  case round =>
    obtain ⟨j, d, hj, rfl, HD⟩ := hrel
    rcases j with _ | i
    · go_wp2_with fail
      first | go_end0 | refine bodyPost_ret (results_none rfl _ _ _) rfl ?_
      obtain ⟨h1, h2, h3, -⟩ := HD.out
      rw [beN, List.append_nil] at h1
      exact ⟨rfl, h1 ▸ h2, h3⟩
    · have hz : B ≤ wr.heap.size := Nat.le_trans hBw HD.out.2.2.1.below.size
      rw [show (((i + 1 : Nat) : Int) - 1) = (i : Int) by omega]
      have HB := Lib.hid (byte_of n i)
      obtain ⟨m, hm⟩ : ∃ m, 8 * i = m := ⟨_, rfl⟩
      have HB : Hid ((n : Int) / 2 ^ min m 64 % 256 = ((UInt8.ofNat (n / 2 ^ (8 * i))).toNat : Int)) := by
        have h := HB.out
        rw [hm] at h
        show (n : Int) / 2 ^ min m 64 % 256 = ((UInt8.ofNat (n / 2 ^ (8 * i))).toNat : Int)
        rw [show min m 64 = m by omega, hm]; exact h
      have hw : IntKind.i64.wrap (8 * (i : Int)) = (m : Int) := by rw [IntKind.wrap_i64]; omega
      have hm0 : (0 : Int) ≤ (m : Int) := by omega
      clear hm
      go_wp2_with fail
      refine region_tail 8 (by kernel_rfl) (by kernel_rfl) ?_
      simp only [List.take_succ_cons, List.take_zero, List.drop_succ_cons, List.drop_zero]
      repeat still_step
      refine wpStill_nil ?_
      go_wp2_with fail
      rw [HB.out]
      obtain ⟨x, hx⟩ : ∃ x, UInt8.ofNat (n / 2 ^ (8 * i)) = x := ⟨_, rfl⟩
      rw [hx]
      refine (WriteByte_any B b bad (l ++ d) x wr.drew HD.out.2.1.drew hz (by rw [List.length_append]; have := HD.out.2.2.2; omega)).mono ?_
      rintro e w2 ⟨rfl, ha2, hf2⟩
      have HX : Hid ((d ++ [x]) ++ beN n i = beN n size ∧ WrAt B b bad (l ++ (d ++ [x])) w2 ∧ WF B b w w2 ∧ (d ++ [x]).length + i = size) := by
        obtain ⟨g1, -, g3, g4⟩ := HD.out
        refine ⟨?_, by rw [← List.append_assoc]; exact ha2, g3.trans hf2.drew_left, by simp; omega⟩
        rw [← g1, beN, hx]; simp
      clear HD ha2 hf2 hx
      go_wp2_with fail
      exact ⟨⟨i, d ++ [x], by omega, by go_num, HX.out⟩, by simp [iOf]⟩
/-- A number's 64 bits. -/
def w64 (n : Int) : Nat := (n % 18446744073709551616).toNat
theorem w64_lt (n : Int) : w64 n ≤ 18446744073709551615 := by unfold w64; omega
theorem w64_wrap (n : Int) : IntKind.u64.wrap n = ((w64 n : Nat) : Int) := by rw [IntKind.wrap_u64]; unfold w64; omega
theorem w64_nat {n : Nat} (h : n ≤ 18446744073709551615) : w64 (n : Int) = n := by unfold w64; omega
set_option maxRecDepth 100000 in
set_option maxHeartbeats 1600000 in
theorem Word_any (B b : Nat) (bad : Bool) (l : List UInt8) (n : Nat) (w : World) (h : WrAt B b bad l w) (hBw : B ≤ w.heap.size) (hn : n ≤ 18446744073709551615) (hl : l.length ≤ 1000000) :
    Calls Tryz.prog 244 #[ptr b, u64V n] w fun e w' => e = .returned (.tuple #[]) ∧ WrAt B b bad (l ++ beN n 8) w' ∧ WF B b w w' := by
  have HP := Lib.hid (put_bytes B b bad l n 8 w h hBw (by omega) hn hl)
  clear h
  go_enter Tryz.func244, Tryz.ntmps244
  go_wp2_with fail
  refine HP.out.mono ?_
  rintro e w2 ⟨rfl, ha, hf⟩
  have HX := Lib.hid (And.intro ha hf)
  clear ha hf
  go_wp2_with fail
  first | go_end0 | refine bodyPost_ret (results_none rfl _ _ _) rfl ?_
  exact ⟨rfl, HX.out.1, HX.out.2⟩
set_option maxRecDepth 100000 in
set_option maxHeartbeats 1600000 in
theorem Number_any (B b : Nat) (bad : Bool) (l : List UInt8) (n : Int) (w : World) (h : WrAt B b bad l w) (hBw : B ≤ w.heap.size) (hl : l.length ≤ 1000000) :
    Calls Tryz.prog 154 #[ptr b, .int .i64 n] w fun e w' => e = .returned (.tuple #[]) ∧ WrAt B b bad (l ++ beN (w64 n) 8) w' ∧ WF B b w w' := by
  have HP := Lib.hid (Word_any B b bad l (w64 n) w h hBw (w64_lt n) hl)
  have hw := w64_wrap n
  clear h
  go_enter Tryz.func154, Tryz.ntmps154
  go_wp2_with fail
  refine HP.out.mono ?_
  rintro e w2 ⟨rfl, ha, hf⟩
  have HX := Lib.hid (And.intro ha hf)
  clear ha hf
  go_wp2_with fail
  first | go_end0 | refine bodyPost_ret (results_none rfl _ _ _) rfl ?_
  exact ⟨rfl, HX.out.1, HX.out.2⟩
/-- A text's bytes. -/
def textB (s : BA) : List UInt8 := beN s.size 2 ++ s.data.toList
theorem textB_length (s : BA) : (textB s).length = 2 + s.size := by
  unfold textB; rw [List.length_append, beN_length]; rfl
set_option maxRecDepth 100000 in
set_option maxHeartbeats 1600000 in
theorem Text_ok (B b : Nat) (bad : Bool) (l : List UInt8) (s : BA) (w : World) (h : WrAt B b bad l w) (hBw : B ≤ w.heap.size) (hs : s.size ≤ 4096) (hl : l.length ≤ 900000) :
    Calls Tryz.prog 155 #[ptr b, .string s] w fun e w' => e = .returned (.tuple #[]) ∧ WrAt B b bad (l ++ textB s) w' ∧ WF B b w w' := by
  have HP := Lib.hid (put_bytes B b bad l s.size 2 w h hBw (by omega) (by omega) (by omega))
  have HS := Lib.hid (fun (W : World) (ha : WrAt B b bad (l ++ beN s.size 2) W) (hz : B ≤ W.heap.size) => WriteString_any B b bad (l ++ beN s.size 2) s W ha hz (by rw [List.length_append, beN_length]; omega))
  have hs0 : (0 : Int) ≤ (s.size : Int) := by omega
  have hs1 : ¬ (4096 : Int) < (s.size : Int) := by omega
  have hw : IntKind.u64.wrap (s.size : Int) = (s.size : Int) := by rw [IntKind.wrap_u64]; omega
  clear h
  go_enter Tryz.func155, Tryz.ntmps155
  go_wp2_with fail
  refine HP.out.mono ?_
  rintro e w2 ⟨rfl, ha, hf⟩
  have HX := Lib.hid (And.intro ha hf)
  clear ha hf
  go_wp2_with fail
  refine (HS.out w2 HX.out.1 (Nat.le_trans hBw HX.out.2.below.size)).mono ?_
  rintro e w3 ⟨rfl, ha, hf⟩
  have HY := Lib.hid (And.intro ha hf)
  clear ha hf
  go_wp2_with fail
  first | go_end0 | refine bodyPost_ret (results_none rfl _ _ _) rfl ?_
  exact ⟨rfl, by unfold textB; rw [← List.append_assoc]; exact HY.out.1, HX.out.2.trans HY.out.2⟩
set_option maxRecDepth 100000 in
theorem BufBytes_none (b : Nat) (w : World) (h0 : w.cell? ⟨b, 0, none⟩ = some (.slice none 0 0)) (h1 : w.cell? ⟨b, 1, none⟩ = some (.int .i64 0)) :
    Calls Tryz.prog 312 #[ptr b] w fun e w' => e = .returned (.slice none 0 0) ∧ Kept Nowhere w w' ∧ w'.heap = w.heap := by
  go_enter Tryz.func312, Tryz.ntmps312
  go_wp2_with fail
  go_quiet (fail)
  go_wp2_with fail
  go_ret
  exact ⟨rfl, (Kept.refl _ _).drewN _, rfl⟩
set_option maxRecDepth 100000 in
theorem BufBytes_some (b g n cap : Nat) (w : World) (h0 : w.cell? ⟨b, 0, none⟩ = some (.slice (some ⟨g, 0, none⟩) n cap)) (h1 : w.cell? ⟨b, 1, none⟩ = some (.int .i64 0)) :
    Calls Tryz.prog 312 #[ptr b] w fun e w' => e = .returned (.slice (some ⟨g, 0, none⟩) n cap) ∧ Kept Nowhere w w' ∧ w'.heap = w.heap := by
  go_enter Tryz.func312, Tryz.ntmps312
  go_wp2_with fail
  go_quiet (fail)
  go_wp2_with fail
  go_ret
  exact ⟨rfl, (Kept.refl _ _).drewN _, rfl⟩
theorem cells_at_of_own {w : World} {e g n : Nat} {cur : Array Value} {l : List UInt8} (hg : w.heap[g]? = some (.cells cur e (0, 0))) (ht : cur.toList.take n = Lib.byteCells l) (hn : l.length = n) :
    ∀ i, i < n → w.cell? ((⟨g, 0, none⟩ : Addr).add i) = some (.int .u8 ((l.map fun x => (x.toNat : Int)).getD i 0)) := fun i hi => by
  rw [add_none, Nat.zero_add]
  have h1 : (Lib.byteCells l)[i]? = some (.int .u8 ((l.map fun x => (x.toNat : Int)).getD i 0)) := by
    unfold Lib.byteCells
    rw [List.getElem?_map, List.getElem?_eq_getElem (by omega)]
    simp [List.getD, List.getElem?_eq_getElem (show i < l.length by omega)]
  rw [← ht, List.getElem?_take_of_lt hi, Array.getElem?_toList] at h1
  simp only [World.cell?, hg, Option.isSome_none, Bool.false_eq_true, if_false, h1]
theorem bytes_map (l : List UInt8) : (l.map fun x => (x.toNat : Int)).map (Value.int .u8) = Lib.byteCells l := by simp [Lib.byteCells]
set_option maxRecDepth 100000 in
set_option maxHeartbeats 1600000 in
theorem WBytes_any (B b : Nat) (l : List UInt8) (w : World) (h : WrAt B b false l w) (hl : l.length ≤ 1000000) :
    Calls Tryz.prog 240 #[ptr b] w fun e w' => ∃ v, e = .returned (.tuple #[v, i64V 0]) ∧ w'.ownsRow w.heap.size 5 1 v l.length (Lib.byteCells l) ∧ Kept Nowhere w w' := by
  have hR : w.cell? ⟨b, 3, none⟩ = some (.bool false) := by
    obtain ⟨_, v, lr, h3, _⟩ := h
    exact h3.rest 3 (Or.inr (by omega))
  obtain ⟨_, lr, ⟨hnil, h3⟩ | ⟨g, cap, cur, h3, hBg, hg, hnc, hcm, hcs, htk, hgb⟩⟩ := LibA.IsBuffer.cases h
  · have hl0 : l = [] := by
      have := congrArg List.length hnil
      rw [Lib.byteCells_length] at this
      exact List.eq_nil_of_length_eq_zero this
    subst hl0
    have HB := Lib.hid (BufBytes_none b w h3.c0 h3.c1)
    have HC := Lib.hid (fun W => Tryz.bytes_Clone_nil 0 0 W)
    clear h h3 hnil
    go_enter Tryz.func240, Tryz.ntmps240
    go_wp2_with fail
    refine HB.out.mono ?_
    rintro e w1 ⟨rfl, hk1, hh1⟩
    have HX := Lib.hid hk1
    clear hk1 hh1
    go_wp2_with fail
    refine (HC.out w1).mono ?_
    rintro e w2 ⟨rfl, rfl⟩
    go_wp2_with fail
    first | go_ret | go_ret2
    exact ⟨_, rfl, ⟨rfl, .inl ⟨rfl, rfl⟩⟩, HX.out⟩
  · rw [Lib.byteCells_length] at h3 hnc htk
    have HB := Lib.hid (BufBytes_some b g l.length cap w h3.c0 h3.c1)
    have HG := Lib.hid (And.intro hg htk)
    have HC := Lib.hid (fun W xs hx hc => Tryz.bytes_Clone_at ⟨g, 0, none⟩ l.length cap xs W hx (by omega) hc)
    clear h h3 hg htk
    go_enter Tryz.func240, Tryz.ntmps240
    go_wp2_with fail
    refine HB.out.mono ?_
    rintro e w1 ⟨rfl, hk1, hh1⟩
    have HX := Lib.hid (And.intro hk1 (show w1.heap[g]? = some (.cells cur 5 (0, 0)) by rw [hh1]; exact HG.out.1))
    have HZ := Lib.hid (show w1.heap.size = w.heap.size by rw [hh1])
    clear hk1 hh1
    go_wp2_with fail
    refine (HC.out w1 (l.map fun x => (x.toNat : Int)) (by simp) (cells_at_of_own HX.out.2 HG.out.2 rfl)).mono ?_
    rintro e w2 ⟨v', rfl, hown, hne, hb2⟩
    have HY := Lib.hid (And.intro hown hb2)
    clear hown hne hb2
    go_wp2_with fail
    first | go_ret | go_ret2
    refine ⟨_, rfl, ?_, HX.out.1.trans (Kept.of_below HY.out.2)⟩
    have := HY.out.1
    rw [bytes_map, HZ.out] at this
    exact this
end Go.Proofs.YtlaahjcdbdipdaaGreatDoor
