/- The live question. -/
import Derived.Test.YtjghnfnlhmhmkaaDoorSame
namespace Go.Proofs.YtjghnfnlhmhmkaaDoor
open Go Go.RowKit Go.MapKept Go.ChangeMaps

def annS : BA := ⟨#[97, 110, 110]⟩
def bobS : BA := ⟨#[98, 111, 98]⟩
def coinS : BA := ⟨#[99, 111, 105, 110]⟩
def aliveB1 : BS := (mintF BS.none annS coinS 7).2
def aliveB2 : BS := (moveF aliveB1 annS bobS coinS 2).2
theorem alive1 : (mintF BS.none annS coinS 7).1 = 0 := by decide +kernel
theorem alive2 : (moveF aliveB1 annS bobS coinS 2).1 = 0 := by decide +kernel
theorem alive3 : balOf aliveB2.A bobS coinS = 2 := by decide +kernel
theorem alive4 : supOf aliveB2.S coinS = 7 := by decide +kernel
theorem alive5 : mintF aliveB2 ⟨#[]⟩ coinS 1 = (183, aliveB2) := by
  have h : checkV coinS 1 [⟨#[]⟩] = 183 := by decide +kernel
  unfold mintF; rw [h]; rfl
theorem Left.out {w w' : World} {p m1 m2 : Nat} {b : BS} {n : Int} {r : Int × BS} {e : Ending} (h : Left w p m1 m2 r e w') (hr : r.1 = n) (hb : r.2 = b) : e = .returned (.int .i64 n) ∧ Has w' p m1 m2 b ∧ Kept (Maps2 m1 m2) w w' := by
  subst hr; subst hb; exact h
set_option maxRecDepth 100000 in
set_option maxHeartbeats 1600000 in
theorem alive_any (w : World) (hL : Laid w) : Calls Tryd.prog 9 #[] w fun e w' => e = .returned (.bool true) ∧ Kept Nowhere w w' := by
  obtain ⟨m1, hm1⟩ : ∃ m, m = w.heap.size := ⟨_, rfl⟩
  have HN := Lib.hid (New_any w hL.size)
  have g0 := good_none
  have g1 : Good aliveB1 := good_mint g0 _ _ _
  have g2 : Good aliveB2 := good_move g1 _ _ _ _
  have hs : annS.size ≤ maxLen ∧ bobS.size ≤ maxLen ∧ coinS.size ≤ maxLen ∧ (⟨#[]⟩ : BA).size ≤ maxLen := ⟨by decide, by decide, by decide, by decide⟩
  have HM := Lib.hid (fun (W : World) (p m1 m2 : Nat) (h : Has W p m1 m2 BS.none) (hW : Laid W) => (Mint_any W p m1 m2 BS.none annS coinS 7 h g0 hW hs.1 hs.2.2.1).mono fun _ _ h => h.out alive1 rfl)
  have HV := Lib.hid (fun (W : World) (p m1 m2 : Nat) (h : Has W p m1 m2 aliveB1) (hW : Laid W) => (Move_any W p m1 m2 aliveB1 annS bobS coinS 2 h g1 hW hs.1 hs.2.1 hs.2.2.1).mono fun _ _ h => h.out alive2 rfl)
  have HB := Lib.hid (fun (W : World) (p m1 m2 : Nat) (h : Has W p m1 m2 aliveB2) => Balance_any W p m1 m2 aliveB2.A aliveB2.S bobS coinS h)
  have HS := Lib.hid (fun (W : World) (p m1 m2 : Nat) (h : Has W p m1 m2 aliveB2) => Supply_any W p m1 m2 aliveB2.A aliveB2.S coinS h)
  have HE := Lib.hid (fun (W : World) (p m1 m2 : Nat) (h : Has W p m1 m2 aliveB2) (hW : Laid W) => (Mint_any W p m1 m2 aliveB2 ⟨#[]⟩ coinS 1 h g2 hW hs.2.2.2 hs.2.2.1).mono fun _ _ h => h.out (congrArg Prod.fst alive5) (congrArg Prod.snd alive5))
  have a3 := Lib.hid (show (mlook aliveB2.A (bobS, coinS)).getD 0 = 2 from alive3)
  have a4 := Lib.hid (show (mlook aliveB2.S coinS).getD 0 = 7 from alive4)
  clear hs g0 g1 g2
  go_enter Tryd.func9, Tryd.ntmps9
  go_wp2_with fail
  refine HN.out.mono ?_
  rintro e w1 ⟨rfl, hb1, hk1, -⟩
  have hL1 := hL.still hk1
  have hlo := hb1.lo
  have H1 := Lib.hid (And.intro hb1 (And.intro hk1 hL1))
  clear hb1 hk1 hL1
  go_wp2_with fail
  refine (HM.out w1 _ _ _ H1.out.1 H1.out.2.2).mono ?_
  rintro e w2 ⟨rfl, hb2, hk2⟩
  have hno : ∀ k, k < 5 → ¬ Maps2 w.heap.size (w.heap.size + 1) k := fun k hk h => by unfold Maps2 at h; omega
  have hL2 := H1.out.2.2.kept hk2 hno
  have H2 := Lib.hid (And.intro hb2 (And.intro hk2 hL2))
  have HNO := Lib.hid hno
  clear hb2 hk2 hL2 hno
  go_wp2_with fail
  refine (HV.out w2 _ _ _ H2.out.1 H2.out.2.2).mono ?_
  rintro e w3 ⟨rfl, hb3, hk3⟩
  have hL3 := H2.out.2.2.kept hk3 HNO.out
  have H3 := Lib.hid (And.intro hb3 (And.intro hk3 hL3))
  clear hb3 hk3 hL3
  go_wp2_with fail
  refine (HB.out w3 _ _ _ H3.out.1).mono ?_
  rintro e w4 ⟨rfl, rfl⟩
  rw [a3.out]
  go_wp2_with fail
  refine (HS.out w3 _ _ _ H3.out.1).mono ?_
  rintro e w4 ⟨rfl, rfl⟩
  rw [a4.out]
  go_wp2_with fail
  refine (HE.out w3 _ _ _ H3.out.1 H3.out.2.2).mono ?_
  rintro e w4 ⟨rfl, hb4, hk4⟩
  have H4 := Lib.hid hk4
  clear hb4 hk4
  go_wp2_with fail
  go_ret
  refine ⟨rfl, ?_⟩
  have e1 := (H2.out.2.1.trans H3.out.2.1).trans H4.out
  exact H1.out.2.1.andThen e1 (fun i hi h => by unfold Maps2 at h; omega)
end Go.Proofs.YtjghnfnlhmhmkaaDoor
