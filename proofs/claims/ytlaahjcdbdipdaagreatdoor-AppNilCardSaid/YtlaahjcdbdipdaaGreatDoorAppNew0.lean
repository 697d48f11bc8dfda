/- The contract of app.New. -/
import Derived.Test.YtlaahjcdbdipdaaGreatDoorApp
namespace Go.Proofs.YtlaahjcdbdipdaaGreatDoor
open Go Go.RowKit Go.MapKept Go.ChangeMaps

theorem right_len {l : List Val} (h : rightV l = true) : 1 ≤ l.length ∧ l.length ≤ 64 := by
  unfold rightV at h
  simp only [Bool.and_eq_true, decide_eq_true_eq] at h
  exact ⟨h.1.2, h.2⟩
/-- What New hands back. -/
def AppNewPost (w : World) (own other : BA) (set : List Val) (e : Ending) (w' : World) : Prop :=
  if rightV set then (if chanB own other then ∃ p, e = .returned (.tuple #[ptr p, i64V 0]) ∧ AppAt (fun k => w.heap.size ≤ k) w' p own other (.pointer none) (.slice none 0 0) BS.none 1 [] set ∧ Kept Nowhere w w'
    else e = .returned (.tuple #[.pointer none, i64V 183]) ∧ Kept Nowhere w w')
  else e = .returned (.tuple #[.pointer none, i64V 71]) ∧ Kept Nowhere w w'
set_option maxRecDepth 100000 in
set_option maxHeartbeats 1600000 in
theorem AppNew_any (w : World) (own other : BA) (v : Value) (set : List Val) (hL : Laid w) (h1 : own.size ≤ maxLen) (h2 : other.size ≤ maxLen) (hv : ValsAt w v set) :
    Calls Tryz.prog 10 #[.string own, .string other, v] w (AppNewPost w own other set) := by
  have HR := Lib.hid (Right_any w v set hv)
  have HC := Lib.hid (fun (W : World) (h : Laid W) => ChanNew_any W own other h h1 h2)
  unfold AppNewPost
  by_cases hr : rightV set = true
  · rw [hr] at HR
    simp only [if_pos hr]
    have hlen := (right_len hr).2
    have hfit : Hid (∀ x ∈ set, x.Fit) := Lib.hid (show ∀ x ∈ set, x.Fit from fun x hx => by
      obtain ⟨i, hi, rfl⟩ := List.getElem_of_mem hx
      obtain ⟨_, _, _, _, _, hat⟩ := hv
      exact (hat i _ (List.getElem?_eq_getElem hi)).1)
    have HLv := Lib.hid (And.intro hL hv)
    clear hr hL hv
    by_cases hc : chanB own other = true
    · rw [hc] at HC
      simp only [if_pos hc]
      clear hc
      go_enter Tryz.func10, Tryz.ntmps10
      go_wp2_with fail
      refine HR.out.mono ?_
      rintro e w1 ⟨rfl, hk1⟩
      have H1 := Lib.hid (And.intro (HLv.out.1.still hk1) (And.intro (HLv.out.2.still hk1) hk1))
      clear hk1
      go_wp2_with fail
      refine (HC.out w1 H1.out.1).mono ?_
      rintro e w2 ⟨c, m, rfl, hch, hc1, hm1, hk2⟩
      have H2 := Lib.hid (And.intro (H1.out.1.still hk2) (And.intro (H1.out.2.1.still hk2) (And.intro (H1.out.2.2.trans hk2) (And.intro hch (And.intro hc1 hm1)))))
      clear hch hc1 hm1 hk2
      go_wp2_with fail
      refine (New_any w2 H2.out.1.size).mono ?_
      rintro e w3 ⟨rfl, hb3, hk3, hz3⟩
      have H3 := Lib.hid (And.intro (H2.out.2.1.still hk3) (And.intro (H2.out.2.2.1.trans hk3) (And.intro (H2.out.2.2.2.1.still hk3) (And.intro hb3 hz3))))
      clear hb3 hk3 hz3
      go_wp2_with fail
      refine (CloneV_any w3 v set H3.out.1 (by omega)).mono ?_
      rintro e w4 ⟨v', rfl, hown, hk4⟩
      obtain ⟨vp, vn, vc, rfl⟩ : ∃ p n c, v' = .slice p n c := by
        rcases hown.2 with ⟨rfl, _⟩ | ⟨g, cap, cur, rfl, _⟩
        · exact ⟨_, _, _, rfl⟩
        · exact ⟨_, _, _, rfl⟩
      have H4 := Lib.hid (And.intro hown hk4)
      clear hown hk4
      go_wp2_with fail
      first | go_ret | go_ret2
      have hl2 := H2.out.2.2.2.1.lt
      have hz2 := H2.out.2.2.1.size
      have hz1 := H1.out.2.2.size
      have hz4 := H4.out.2.size
      have hz3 := H3.out.2.2.2.2
      have hown := H4.out.1
      have hvals := vals_of_own hown hfit.out (by unfold maxLen; omega)
      refine ⟨w4.heap.size, rfl, ⟨w2.heap.size + 2, w2.heap.size, w2.heap.size + 1, c, m, .slice vp vn vc, ⟨?_, ?_, ?_, ?_, good_none, by omega, by omega, fun g hg => by have := (own_row hown hg).2; simp; omega⟩, by omega, by omega, by omega, by omega, by have := H2.out.2.2.2.2.1; omega, by have := H2.out.2.2.2.2.2; omega, fun g hg => by have := (own_row hown hg).1; omega⟩, ((H3.out.2.1).trans H4.out.2).alloc _⟩
      · exact heap_alloc_new w4 _
      · exact BankIs.alloc (Has.still (show Has w3 (w2.heap.size + 2) w2.heap.size (w2.heap.size + 1) BS.none from H3.out.2.2.2.1) H4.out.2) _
      · exact (H3.out.2.2.1.still H4.out.2).still ((Kept.refl _ _).alloc _)
      · exact hvals.still ((Kept.refl _ _).alloc _)
    · have hc' : chanB own other = false := by simpa using hc
      rw [hc'] at HC
      simp only [if_neg hc]
      clear hc hc'
      go_enter Tryz.func10, Tryz.ntmps10
      go_wp2_with fail
      refine HR.out.mono ?_
      rintro e w1 ⟨rfl, hk1⟩
      have H1 := Lib.hid (And.intro (HLv.out.1.still hk1) hk1)
      clear hk1
      go_wp2_with fail
      refine (HC.out w1 H1.out.1).mono ?_
      rintro e w2 ⟨rfl, hk2⟩
      have H2 := Lib.hid (H1.out.2.trans hk2)
      clear hk2
      go_wp2_with fail
      first | go_ret | go_ret2
      exact ⟨rfl, H2.out⟩
  · have hr' : rightV set = false := by simpa using hr
    rw [hr'] at HR
    simp only [if_neg hr]
    clear hr hr' hv
    go_enter Tryz.func10, Tryz.ntmps10
    go_wp2_with fail
    refine HR.out.mono ?_
    rintro e w1 ⟨rfl, hk1⟩
    have H1 := Lib.hid hk1
    clear hk1
    go_wp2_with fail
    first | go_ret | go_ret2
    exact ⟨rfl, H1.out⟩
end Go.Proofs.YtlaahjcdbdipdaaGreatDoor
