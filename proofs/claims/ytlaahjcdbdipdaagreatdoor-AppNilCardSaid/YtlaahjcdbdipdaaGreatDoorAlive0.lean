/- The live question's plain facts. -/
import Derived.Test.YtlaahjcdbdipdaaGreatDoorAppEnt
import Derived.Test.YtlaahjcdbdipdaaGreatDoorGrant
import Derived.Test.YtlaahjcdbdipdaaGreatDoorAppNew0
import Derived.Test.YtlaahjcdbdipdaaGreatDoorPlain
namespace Go.Proofs.YtlaahjcdbdipdaaGreatDoor
open Go Go.RowKit Go.MapKept Go.ChangeMaps Go.Sort

def annS : BA := ⟨#[97, 110, 110]⟩
def bobS : BA := ⟨#[98, 111, 98]⟩
def coinS : BA := ⟨#[99, 111, 105, 110]⟩
def aS : BA := ⟨#[97]⟩
def bS : BA := ⟨#[98]⟩
def aliveB1 : BS := (mintF BS.none annS coinS 7).2
def aliveB2 : BS := (moveF aliveB1 annS bobS coinS 2).2
theorem alive_chan : chanB aS bS = true := by decide +kernel
theorem alive_right : rightV theSet = true := by decide +kernel
theorem alive1 : (mintF BS.none annS coinS 7).1 = 0 := by decide +kernel
theorem alive2 : (moveF aliveB1 annS bobS coinS 2).1 = 0 := by decide +kernel
theorem alive_grant : grantF bS BS.none annS coinS 7 = (0, aliveB1) := by
  have h1 : foreignB coinS bS = false := by decide +kernel
  have h2 : ¬ annS = escrowS := by decide +kernel
  unfold grantF
  rw [h1, if_neg (by rintro (h | h); exact Bool.noConfusion h; exact h2 h)]
  exact Prod.ext alive1 rfl
/-- A transaction as it is built of its first five fields. -/
theorem tx_built (fr to den : BA) (am : Nat) (h1 : fr.size ≤ maxLen) (h2 : to.size ≤ maxLen) (h3 : den.size ≤ maxLen) (h4 : am ≤ top64) :
    ∃ t : TxS, t.Ok ∧ t.kind = 1 ∧ t.fr = fr ∧ t.to = to ∧ t.den = den ∧ t.am = am ∧ t.chv = .slice none 0 0 ∧
      ∀ w, (Instr.build 63 #[(0, i64V 1), (1, .string fr), (2, .string to), (3, .string den), (4, u64V am)]).run Tryz.prog w = .ok (.agg t.cells.toArray) w := by
  obtain ⟨z, hz1, hz2, hz3, hz4⟩ : ∃ z : List Value, z.length = 210 ∧ z.all (·.oneCell') = true ∧ z[209]? = some (.slice none 0 0) ∧
      ∀ w, (Instr.build 63 #[(0, i64V 1), (1, .string fr), (2, .string to), (3, .string den), (4, u64V am)]).run Tryz.prog w = .ok (.agg (i64V 1 :: .string fr :: .string to :: .string den :: u64V am :: z).toArray) w := by
    refine ⟨(match (Tryz.prog.info? 63).bind (·.zero) with
      | some (.agg cs) => cs.toList
      | _ => []).drop 5, by kernel_rfl, by kernel_rfl, by kernel_rfl, fun w => by kernel_rfl⟩
  refine ⟨⟨i64V 1 :: .string fr :: .string to :: .string den :: u64V am :: z, 1, fr, to, den, am, .slice none 0 0⟩, ⟨?_, ?_, rfl, rfl, rfl, rfl, rfl, hz3, h1, h2, h3, h4⟩, rfl, rfl, rfl, rfl, rfl, rfl, hz4⟩
  · simp [hz1]
  · intro v hv
    simp only [List.mem_cons] at hv
    rcases hv with rfl | rfl | rfl | rfl | rfl | hv
    · rfl
    · rfl
    · rfl
    · rfl
    · rfl
    · exact List.all_eq_true.1 hz2 v hv
theorem alive_run {t : TxS} (e1 : t.kind = 1) (e2 : t.fr = annS) (e3 : t.to = bobS) (e4 : t.den = coinS) (e5 : t.am = 2) : runY aliveB1 theSet t [] = (0, aliveB2, theSet) := by
  have h1 : ¬ (annS = escrowS ∨ bobS = escrowS) := by decide +kernel
  unfold runY
  rw [e1, e2, e3, e4, e5, if_neg (by decide), if_neg (by decide), if_pos rfl, if_neg h1]
  exact Prod.ext alive2 rfl
/-- The live question's entries. -/
def aliveL : List (BA × BA) := [(⟨#[98, 97, 110, 107, 47, 99, 111, 105, 110, 47, 97, 110, 110]⟩, ⟨#[53]⟩), (⟨#[98, 97, 110, 107, 47, 99, 111, 105, 110, 47, 98, 111, 98]⟩, ⟨#[50]⟩)]
theorem alive_sorted : ByKeys aliveL := by
  intro i j hi hj hij
  have hj2 : j < 2 := hj
  have : i = 0 ∧ j = 1 := by omega
  obtain ⟨rfl, rfl⟩ := this
  exact (by decide +kernel : ¬ (⟨#[98, 97, 110, 107, 47, 99, 111, 105, 110, 47, 98, 111, 98]⟩ : BA).toList < (⟨#[98, 97, 110, 107, 47, 99, 111, 105, 110, 47, 97, 110, 110]⟩ : BA).toList)
theorem alive_nodup : (aliveB2.A.map Prod.fst).Nodup := by decide +kernel
theorem alive_names : ∀ x ∈ aliveB2.A, accB x.1.1 = true ∧ denB x.1.2 = true := by decide +kernel
theorem alive_small : ∀ x ∈ aliveB2.A, x.1.1.size ≤ 16 ∧ x.1.2.size ≤ 40 ∧ x.2 ≤ 18446744073709551615 := by decide +kernel
theorem alive_few : aliveB2.A.length ≤ 1000000 := by decide +kernel
theorem alive_perm : aliveL.Perm (aliveB2.A.map entOf) := by decide +kernel
theorem alive_ents {M : List (BA × BA)} (hp : M.Perm (aliveB2.A.map entOf ++ [])) (hs : ByKeys M) : M = aliveL := by
  rw [List.append_nil] at hp
  exact ents_eq alive_nodup alive_names (List.Perm.refl _) hp alive_perm hs alive_sorted
end Go.Proofs.YtlaahjcdbdipdaaGreatDoor
