/- A channel in memory: the contract of channel.New. -/
import Derived.Test.YtlaahjcdbdipdaaGreatDoorPacket
namespace Go.Proofs.YtlaahjcdbdipdaaGreatDoor
open Go Go.RowKit Go.MapKept Go.ChangeMaps

/-- An entry's value, as the map has it. -/
abbrev itemV (v : BA) : Value := .agg #[.string v]
/-- Block c is a Channel, whose entries' map lies at m. -/
structure ChanIs (w : World) (c m : Nat) (own other : BA) (next : Int) (E : List (BA × BA)) : Prop where
  cells : w.heap[c]? = some (.cells #[.string own, .string other, i64V next, .map (some m)] 173 (0, 0))
  en : MapIs w Value.string itemV m E
  lo : 8 ≤ m
theorem ChanIs.lt {w : World} {c m : Nat} {own other : BA} {next : Int} {E : List (BA × BA)} (h : ChanIs w c m own other next E) : c < w.heap.size ∧ m < w.heap.size := ⟨(Array.getElem?_eq_some_iff.1 h.cells).1, h.en.lt⟩
theorem ChanIs.kept {S : Nat → Prop} {w w' : World} {c m : Nat} {own other : BA} {next : Int} {E : List (BA × BA)} (h : ChanIs w c m own other next E) (hk : Kept S w w') (h1 : ¬ S c) (h2 : ¬ S m) : ChanIs w' c m own other next E :=
  ⟨(hk.block c h.lt.1 h1).trans h.cells, h.en.kept hk h2, h.lo⟩
theorem ChanIs.still {w w' : World} {c m : Nat} {own other : BA} {next : Int} {E : List (BA × BA)} (h : ChanIs w c m own other next E) (hk : Kept Nowhere w w') : ChanIs w' c m own other next E := h.kept hk id id
/-- May two names be a channel's? -/
def chanB (own other : BA) : Bool := nameB own && nameB other && !decide (own = other)
theorem name_packet (x : BA) : packetB ⟨1, x, ⟨#[]⟩, 1⟩ = nameB x := by
  unfold packetB withinB
  have h0 : (⟨#[]⟩ : BA).size = 0 := rfl
  simp [h0]
/-- What New hands back. -/
def ChanNewPost (w : World) (own other : BA) (b : Bool) (e : Ending) (w' : World) : Prop :=
  if b then ∃ c m, e = .returned (.tuple #[ptr c, i64V 0]) ∧ ChanIs w' c m own other 1 [] ∧ w.heap.size ≤ c ∧ w.heap.size ≤ m ∧ Kept Nowhere w w'
  else e = .returned (.tuple #[.pointer none, i64V 183]) ∧ Kept Nowhere w w'
theorem EncodeName_yes (w : World) (x : BA) (hs : x.size ≤ maxLen) (hx : nameB x = true) :
    Calls Tryz.prog 83 #[.agg #[i64V 1, .string x, .string ⟨#[]⟩, i64V 1]] w fun e w' => ∃ v, e = .returned (.tuple #[v, i64V 0]) ∧ Kept Nowhere w w' :=
  (EncodePacket_ok w ⟨1, x, ⟨#[]⟩, 1⟩ hs (by show 0 ≤ maxLen; omega) ((name_packet x).trans hx)).mono fun _ _ ⟨v, he, _, hk⟩ => ⟨v, he, hk⟩
theorem EncodeName_no (w : World) (x : BA) (hs : x.size ≤ maxLen) (hx : nameB x = false) :
    Calls Tryz.prog 83 #[.agg #[i64V 1, .string x, .string ⟨#[]⟩, i64V 1]] w fun e w' => e = .returned (.tuple #[.slice none 0 0, i64V 61]) ∧ Kept Nowhere w w' :=
  EncodePacket_no w ⟨1, x, ⟨#[]⟩, 1⟩ hs (by show 0 ≤ maxLen; omega) ((name_packet x).trans hx)
/-- The two names, in their slice. -/
def NamesAt (W : World) (g : Nat) (own other : BA) : Prop := W.cell? ⟨g, 0, none⟩ = some (.string own) ∧ W.cell? ⟨g, 1, none⟩ = some (.string other)
theorem NamesAt.kept {W W' : World} {g : Nat} {own other : BA} (h : NamesAt W g own other) (hk : Kept Nowhere W W') : NamesAt W' g own other := by
  have hg : g < W.heap.size := World.block_lt_of_cell? W _ h.1
  exact ⟨(hk.cell (p := ⟨g, _, none⟩) hg id).trans h.1, (hk.cell (p := ⟨g, _, none⟩) hg id).trans h.2⟩
set_option maxRecDepth 100000 in
set_option maxHeartbeats 1600000 in
theorem ChanNew_any (w : World) (own other : BA) (hL : Laid w) (h1 : own.size ≤ maxLen) (h2 : other.size ≤ maxLen) :
    Calls Tryz.prog 41 #[.string own, .string other] w (ChanNewPost w own other (chanB own other)) := by
  have hmm := @run_makeMap Tryz.prog
  have hN0 : NamesAt (w.alloc (.cells #[.string own, .string other] 9)) w.heap.size own other := ⟨cell_of_alloc _ _ _ 0 _ rfl, cell_of_alloc _ _ _ 1 _ rfl⟩
  have hk0 : Kept Nowhere w (w.alloc (.cells #[.string own, .string other] 9)) := (Kept.refl _ _).alloc _
  have H0 := Lib.hid (And.intro hN0 hk0)
  have hgl := hL.size
  obtain ⟨r, hr⟩ : ∃ r, chanB own other = r := ⟨_, rfl⟩
  rw [hr]
  unfold chanB at hr
  have HR := Lib.hid hr
  have HY := Lib.hid (fun W x hs hx => EncodeName_yes W x hs hx)
  have HN := Lib.hid (fun W x hs hx => EncodeName_no W x hs hx)
  have hbeq := bytes_beq_iff own other
  have HBeq := Lib.hid hbeq
  clear hr hN0 hk0 hL hbeq
  go_enter Tryz.func41, Tryz.ntmps41
  go_wp2_with fail
  go_loopw [14] (fun i wr => ∃ k : Nat, k ≤ 2 ∧ i = .int .i64 k ∧ Hid (NamesAt wr w.heap.size own other ∧ Kept Nowhere w wr ∧ (1 ≤ k → nameB own = true) ∧ (2 ≤ k → nameB other = true))) (fun i _ => 2 - (iOf i).toNat)
  case atStart => exact ⟨0, by omega, rfl, H0.out.1, H0.out.2, fun h => by omega, fun h => by omega⟩
  case round =>
    obtain ⟨k, hk, rfl, HS⟩ := hrel
    have hadd0 := add_none w.heap.size 0 0
    have hadd1 := add_none w.heap.size 0 1
    obtain ⟨c0, c1⟩ := HS.out.1
    rcases k with _ | _ | _ | k
    · by_cases hx : nameB own = true
      · have HX := Lib.hid hx
        clear hx
        go_wp2_with fail
        refine (HY.out wr own h1 HX.out).mono ?_
        rintro e w1 ⟨v, rfl, hk1⟩
        have H1 : Hid (NamesAt w1 w.heap.size own other ∧ Kept Nowhere w w1 ∧ (1 ≤ 1 → nameB own = true) ∧ (2 ≤ 1 → nameB other = true)) := ⟨HS.out.1.kept hk1, HS.out.2.1.trans hk1, fun _ => HX.out, fun h => by omega⟩
        clear hk1 HS c0 c1
        go_wp2_with fail
        exact ⟨⟨1, by omega, rfl, H1.out⟩, by simp [iOf]⟩
      · have hx' : nameB own = false := by simpa using hx
        obtain rfl : r = false := by rw [← HR.out, hx']; rfl
        have HX := Lib.hid hx'
        clear hx hx'
        go_wp2_with fail
        refine (HN.out wr own h1 HX.out).mono ?_
        rintro e w1 ⟨rfl, hk1⟩
        have HK := Lib.hid (HS.out.2.1.trans hk1)
        clear hk1 HS c0 c1
        go_wp2_with fail
        first | go_ret | go_ret2
        exact ⟨rfl, HK.out⟩
    · by_cases hx : nameB other = true
      · have HX := Lib.hid hx
        clear hx
        go_wp2_with fail
        refine (HY.out wr other h2 HX.out).mono ?_
        rintro e w1 ⟨v, rfl, hk1⟩
        have H1 : Hid (NamesAt w1 w.heap.size own other ∧ Kept Nowhere w w1 ∧ (1 ≤ 2 → nameB own = true) ∧ (2 ≤ 2 → nameB other = true)) := ⟨HS.out.1.kept hk1, HS.out.2.1.trans hk1, fun _ => HS.out.2.2.1 (by omega), fun _ => HX.out⟩
        clear hk1 HS c0 c1
        go_wp2_with fail
        exact ⟨⟨2, by omega, rfl, H1.out⟩, by simp [iOf]⟩
      · have hx' : nameB other = false := by simpa using hx
        obtain rfl : r = false := by rw [← HR.out, hx']; simp
        have HX := Lib.hid hx'
        clear hx hx'
        go_wp2_with fail
        refine (HN.out wr other h2 HX.out).mono ?_
        rintro e w1 ⟨rfl, hk1⟩
        have HK := Lib.hid (HS.out.2.1.trans hk1)
        clear hk1 HS c0 c1
        go_wp2_with fail
        first | go_ret | go_ret2
        exact ⟨rfl, HK.out⟩
    · have hr := HR.out
      rw [HS.out.2.2.1 (by omega), HS.out.2.2.2 (by omega)] at hr
      have HK := Lib.hid HS.out.2.1
      have hz := HK.out.size
      clear HS c0 c1
      by_cases he : own = other
      · obtain rfl : r = false := by rw [← hr]; simp [he]
        have hb : (own.toList == other.toList) = true := by rw [HBeq.out]; simpa using he
        clear hr he
        go_wp2_with fail
        first | go_ret | go_ret2
        exact ⟨rfl, HK.out⟩
      · obtain rfl : r = true := by rw [← hr]; simp [he]
        have hb : (own.toList == other.toList) = false := by rw [HBeq.out]; simpa using he
        clear hr he
        go_wp2_with fail
        first | go_ret | go_ret2
        refine ⟨wr.heap.size + 1, wr.heap.size, rfl, ⟨?_, (mapIs_made wr _ _).alloc _, by omega⟩, by omega, by omega, ((HK.out).alloc _).alloc _⟩
        exact heap_alloc2_new wr _ _
    · omega
end Go.Proofs.YtlaahjcdbdipdaaGreatDoor
