/- A packet's bytes: the contract of EncodePacket. -/
import Derived.Test.YtlaahjcdbdipdaaGreatDoorEncode
namespace Go.Proofs.YtlaahjcdbdipdaaGreatDoor
open Go Go.RowKit Go.MapKept Go.ChangeMaps

theorem WrAt.still {B b : Nat} {bad : Bool} {l : List UInt8} {w w' : World} (h : WrAt B b bad l w) (hk : Kept Nowhere w w') : WrAt B b bad l w' := LibA.IsBuffer.old h (hk.below (fun _ _ h => h.elim) (Nat.le_refl _))
theorem PktAt.below {B : Nat} {W W' : World} {b : Nat} {p : Pkt} (h : PktAt W b p) (hk : Below B W W') (hb : b < B) : PktAt W' b p :=
  ⟨(World.cell?_of_block (w := W) (hk.block b hb)).trans h.c0, (World.cell?_of_block (w := W) (hk.block b hb)).trans h.c1, (World.cell?_of_block (w := W) (hk.block b hb)).trans h.c2, (World.cell?_of_block (w := W) (hk.block b hb)).trans h.c3⟩
theorem WF.of_kept {B b : Nat} {w w' : World} (h : Kept Nowhere w w') (hB : B ≤ w.heap.size) : WF B b w w' :=
  ⟨h.below (fun _ _ h => h.elim) hB, fun k o hk _ _ => (h.block k (Array.getElem?_eq_some_iff.1 hk).1 id).trans hk⟩
/-- What stands in the midst of a packet's writing. -/
structure PkW (W : World) (pb b : Nat) (p : Pkt) (l : List UInt8) (w : World) : Prop where
  at_ : PktAt w pb p
  wr : WrAt b b false l w
  fr : WF b b W w
  le : b ≤ w.heap.size
theorem PkW.next {W : World} {pb b : Nat} {p : Pkt} {l l' : List UInt8} {w w' : World} (h : PkW W pb b p l w) (hpb : pb < b) (ha : WrAt b b false l' w') (hf : WF b b w w') : PkW W pb b p l' w' :=
  ⟨h.at_.below hf.below hpb, ha, h.fr.trans hf, Nat.le_trans h.le hf.below.size⟩
set_option maxRecDepth 100000 in
set_option maxHeartbeats 1600000 in
theorem packet_writes (w : World) (pb : Nat) (p : Pkt) (h : PktAt w pb p) (hs : p.from_.size ≤ maxLen) (hd : p.data.size ≤ maxLen) : Writes w 152 #[ptr pb] (if packetB p then some (packetL p) else none) := by
  intro W b hkW hb hwr hbW
  have hpb : pb < w.heap.size := World.block_lt_of_cell? w _ h.c0
  have hpW : PktAt W pb p := h.kept hkW id
  have HC := Lib.hid (checkPacket_any p hs hd W)
  have HPB := Lib.hid (show pb < b by omega)
  have HT := Lib.hid Text_ok
  have HNum := Lib.hid Number_any
  have H0 := Lib.hid (And.intro hpW (And.intro hwr hbW))
  obtain ⟨sq, fr, da, ti⟩ := p
  have HP : Hid (packetB ⟨sq, fr, da, ti⟩ = true → fr.size ≤ 16 ∧ da.size ≤ 256) := fun hp => by
    unfold packetB nameB withinB at hp
    simp only [Bool.and_eq_true, decide_eq_true_eq] at hp
    omega
  clear h hkW hb hwr hbW hpb hpW hs hd
  by_cases hp : packetB ⟨sq, fr, da, ti⟩ = true
  · rw [if_pos hp]
    rw [hp] at HC
    obtain ⟨s1, s2⟩ := HP.out hp
    clear HP hp
    obtain ⟨L, hL⟩ : ∃ L, packetL ⟨sq, fr, da, ti⟩ = L := ⟨_, rfl⟩
    rw [hL]
    have HL := Lib.hid hL
    clear hL
    obtain ⟨c0, c1, c2, c3⟩ := H0.out.1
    unfold Pkt.cells at HC
    show Calls Tryz.prog 152 #[ptr b, ptr pb] W _
    go_enter Tryz.func152, Tryz.ntmps152
    go_wp2_with fail
    refine HC.out.mono ?_
    rintro e w1 ⟨rfl, hk1⟩
    unfold okOr
    have P1 : Hid (PkW w1 pb b ⟨sq, fr, da, ti⟩ [] w1) := ⟨H0.out.1.kept hk1 id, H0.out.2.1.still hk1, ⟨Below.refl _ _, Lib.OthersKept.refl _ _ _⟩, Nat.le_trans H0.out.2.2 hk1.size⟩
    have HK1 := Lib.hid hk1
    clear hk1 c0 c1 c2 c3
    go_wp2_with fail
    refine (HNum.out b b false [] 6 w1 P1.out.wr P1.out.le (by simp)).mono ?_
    rintro e w2 ⟨rfl, ha, hf⟩
    have P2 := Lib.hid (P1.out.next HPB.out ha hf)
    clear ha hf
    obtain ⟨c0, c1, c2, c3⟩ := P2.out.at_
    go_wp2_with fail
    refine (HNum.out b b false _ sq w2 P2.out.wr P2.out.le (by simp [beN_length])).mono ?_
    rintro e w3 ⟨rfl, ha, hf⟩
    have P3 := Lib.hid (P2.out.next HPB.out ha hf)
    clear ha hf c0 c1 c2 c3
    obtain ⟨c0, c1, c2, c3⟩ := P3.out.at_
    go_wp2_with fail
    refine (HT.out b b false _ fr w3 P3.out.wr P3.out.le (by omega) (by simp [beN_length])).mono ?_
    rintro e w4 ⟨rfl, ha, hf⟩
    have P4 := Lib.hid (P3.out.next HPB.out ha hf)
    clear ha hf c0 c1 c2 c3
    obtain ⟨c0, c1, c2, c3⟩ := P4.out.at_
    go_wp2_with fail
    refine (HT.out b b false _ da w4 P4.out.wr P4.out.le (by omega) (by simp [beN_length, textB_length]; omega)).mono ?_
    rintro e w5 ⟨rfl, ha, hf⟩
    have P5 := Lib.hid (P4.out.next HPB.out ha hf)
    clear ha hf c0 c1 c2 c3
    obtain ⟨c0, c1, c2, c3⟩ := P5.out.at_
    go_wp2_with fail
    refine (HNum.out b b false _ ti w5 P5.out.wr P5.out.le (by simp [beN_length, textB_length]; omega)).mono ?_
    rintro e w6 ⟨rfl, ha, hf⟩
    have P6 := Lib.hid (P5.out.next HPB.out ha hf)
    clear ha hf c0 c1 c2 c3
    go_wp2_with fail
    first | go_end0 | refine bodyPost_ret (results_none rfl _ _ _) rfl ?_
    refine ⟨rfl, ?_, ?_⟩
    · rw [← HL.out]
      have := P6.out.wr
      unfold packetL
      simpa [show w64 6 = 6 from rfl] using this
    · exact (WF.of_kept HK1.out H0.out.2.2).trans P6.out.fr
  · have hp' : packetB ⟨sq, fr, da, ti⟩ = false := by simpa using hp
    rw [if_neg hp]
    rw [hp'] at HC
    obtain ⟨c0, c1, c2, c3⟩ := H0.out.1
    unfold Pkt.cells at HC
    show Calls Tryz.prog 152 #[ptr b, ptr pb] W _
    clear HP hp hp'
    go_enter Tryz.func152, Tryz.ntmps152
    go_wp2_with fail
    refine HC.out.mono ?_
    rintro e w1 ⟨rfl, hk1⟩
    unfold okOr
    go_wp2_with fail
    exact ⟨rfl, rfl, hk1.below (fun _ _ h => h.elim) H0.out.2.2⟩
theorem packetL_length (p : Pkt) (h1 : p.from_.size ≤ 16) (h2 : p.data.size ≤ 256) : (packetL p).length ≤ 1000000 := by
  unfold packetL
  simp only [List.length_append, beN_length, textB_length]
  omega
/-- EncodePacket. -/
def pktR (p : Pkt) : Option (List UInt8) := if packetB p then some (packetL p) else none
set_option maxRecDepth 100000 in
set_option maxHeartbeats 1600000 in
theorem EncodePacket_ok (w : World) (p : Pkt) (hs : p.from_.size ≤ maxLen) (hd : p.data.size ≤ maxLen) (hp : packetB p = true) :
    Calls Tryz.prog 83 #[.agg p.cells.toArray] w fun e w' => ∃ v, e = .returned (.tuple #[v, i64V 0]) ∧ w'.ownsRow w.heap.size 5 1 v (packetL p).length (Lib.byteCells (packetL p)) ∧ Kept Nowhere w w' := by
  have hmf : ∀ (fn : Fn) (first cap : Array Value) (w : World), (Instr.makeFunc fn first cap).run Tryz.prog w = .ok (.func fn first cap) w := fun _ _ _ _ => rfl
  have eg : ∀ args w, (callFunc 152 args).run Tryz.prog w = .ok (.enter 152 args) w := enters_of Tryz.func152 (by kernel_rfl) rfl
  have hwr := packet_writes (w.alloc (.cells p.cells.toArray 58)) w.heap.size p (pkt_new w p _) hs hd
  rw [if_pos hp] at hwr
  have hlen : (packetL p).length ≤ 1000000 := by
    unfold packetB nameB withinB at hp
    simp only [Bool.and_eq_true, decide_eq_true_eq] at hp
    exact packetL_length p (by omega) (by omega)
  have HE := Lib.hid (encode_ok _ _ _ _ eg hwr hlen)
  have hz : (w.alloc (.cells p.cells.toArray 58)).heap.size = w.heap.size + 1 := by simp
  have hk0 : Kept Nowhere w (w.alloc (.cells p.cells.toArray 58)) := (Kept.refl _ _).alloc _
  have H0 := Lib.hid (And.intro hz hk0)
  clear hwr hlen hp hs hd eg hz hk0
  generalize packetL p = L at HE ⊢
  obtain ⟨sq, fr, da, ti⟩ := p
  unfold Pkt.cells at *
  go_enter Tryz.func83, Tryz.ntmps83
  go_wp2_with fail
  refine HE.out.mono ?_
  rintro e w1 ⟨v, rfl, hown, hk⟩
  have HX := Lib.hid (And.intro hown hk)
  clear hown hk
  go_wp2_with fail
  first | go_ret | go_ret2
  refine ⟨v, rfl, ownsRow_lower HX.out.1 (by have := H0.out.1; simp at this ⊢), H0.out.2.trans HX.out.2⟩
set_option maxRecDepth 100000 in
set_option maxHeartbeats 1600000 in
theorem EncodePacket_no (w : World) (p : Pkt) (hs : p.from_.size ≤ maxLen) (hd : p.data.size ≤ maxLen) (hp : packetB p = false) :
    Calls Tryz.prog 83 #[.agg p.cells.toArray] w fun e w' => e = .returned (.tuple #[.slice none 0 0, i64V 61]) ∧ Kept Nowhere w w' := by
  have hmf : ∀ (fn : Fn) (first cap : Array Value) (w : World), (Instr.makeFunc fn first cap).run Tryz.prog w = .ok (.func fn first cap) w := fun _ _ _ _ => rfl
  have eg : ∀ args w, (callFunc 152 args).run Tryz.prog w = .ok (.enter 152 args) w := enters_of Tryz.func152 (by kernel_rfl) rfl
  have hwr := packet_writes (w.alloc (.cells p.cells.toArray 58)) w.heap.size p (pkt_new w p _) hs hd
  rw [if_neg (by rw [hp]; decide)] at hwr
  have HE := Lib.hid (encode_no _ _ _ eg hwr)
  have hk0 : Kept Nowhere w (w.alloc (.cells p.cells.toArray 58)) := (Kept.refl _ _).alloc _
  have H0 := Lib.hid hk0
  clear hwr hp hs hd eg hk0
  obtain ⟨sq, fr, da, ti⟩ := p
  unfold Pkt.cells at *
  go_enter Tryz.func83, Tryz.ntmps83
  go_wp2_with fail
  refine HE.out.mono ?_
  rintro e w1 ⟨rfl, hk⟩
  have HX := Lib.hid hk
  clear hk
  go_wp2_with fail
  first | go_ret | go_ret2
  exact ⟨rfl, H0.out.trans HX.out⟩
end Go.Proofs.YtlaahjcdbdipdaaGreatDoor
