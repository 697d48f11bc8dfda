/- A key, sought: the contracts of cmp.Compare at uint64, the closure, slices.BinarySearchFunc at validators. -/
import Derived.Test.YtlaahjcdbdipdaaGreatDoorCloneV
namespace Go.Proofs.YtlaahjcdbdipdaaGreatDoor
open Go Go.RowKit Go.MapKept Go.ChangeMaps

/-- What cmp.Compare answers. -/
def cmpN (a b : Nat) : Int := if a < b then -1 else if b < a then 1 else 0
theorem cmpN_neg (a b : Nat) : cmpN a b < 0 ↔ a < b := by unfold cmpN; split <;> (try split) <;> simp_all
theorem cmpN_zero (a b : Nat) : cmpN a b = 0 ↔ a = b := by unfold cmpN; split <;> (try split) <;> simp_all <;> omega
set_option maxRecDepth 100000 in
theorem CompareN_any (a b : Nat) (w : World) : Calls Tryz.prog 292 #[u64V a, u64V b] w fun e w' => e = .returned (i64V (cmpN a b)) ∧ w = w' := by
  have HC : cmpN a b = (if a < b then -1 else if b < a then 1 else 0) := rfl
  by_cases h1 : a < b
  · rw [if_pos h1] at HC
    replace HC := Lib.hid HC
    have h1' : (a : Int) < (b : Int) := by omega
    go_enter Tryz.func292, Tryz.ntmps292
    go_wp2
    go_ret
    exact ⟨by rw [HC.out]; rfl, rfl⟩
  · have h1' : ¬ (a : Int) < (b : Int) := by omega
    rw [if_neg h1] at HC
    by_cases h2 : b < a
    · rw [if_pos h2] at HC
      replace HC := Lib.hid HC
      have h2' : (b : Int) < (a : Int) := by omega
      go_enter Tryz.func292, Tryz.ntmps292
      go_wp2
      go_ret
      exact ⟨by rw [HC.out]; rfl, rfl⟩
    · rw [if_neg h2] at HC
      replace HC := Lib.hid HC
      have h2' : ¬ (b : Int) < (a : Int) := by omega
      go_enter Tryz.func292, Tryz.ntmps292
      go_wp2
      go_ret
      exact ⟨by rw [HC.out]; rfl, rfl⟩
set_option maxRecDepth 100000 in
theorem change1_any (x : Val) (key : Nat) (w : World) : Calls Tryz.prog 291 #[.agg #[u64V x.1, i64V x.2], u64V key] w fun e w' => e = .returned (i64V (cmpN x.1 key)) ∧ Kept Nowhere w w' := by
  have HC := Lib.hid (fun W => CompareN_any x.1 key W)
  generalize cmpN x.1 key = r at HC ⊢
  obtain ⟨k, pw⟩ := x
  simp only at HC ⊢
  go_enter Tryz.func291, Tryz.ntmps291
  go_wp2_with fail
  refine (HC.out _).mono ?_
  rintro e w' ⟨rfl, rfl⟩
  go_wp2_with fail
  go_ret
  exact ⟨rfl, (Kept.refl _ _).alloc _⟩
/-- How many keys are below one. -/
def posV (l : List Val) (key : Nat) : Nat := l.countP fun x => decide (x.1 < key)
/-- Is a key there, at its place? -/
def isV (l : List Val) (key : Nat) : Bool := decide ((l.getD (posV l key) (0, 0)).1 = key) && decide (posV l key < l.length)
theorem posV_le (l : List Val) (key : Nat) : posV l key ≤ l.length := List.countP_le_length
/-- The keys rise. -/
def Rising (l : List Val) : Prop := l.Pairwise fun x y => x.1 < y.1
theorem posV_of {l : List Val} {key i : Nat} (hi : i ≤ l.length) (h1 : ∀ t (h : t < l.length), t < i → l[t].1 < key) (h2 : ∀ t (h : t < l.length), i ≤ t → key ≤ l[t].1) : posV l key = i := by
  unfold posV
  have e : l = l.take i ++ l.drop i := (List.take_append_drop i l).symm
  rw [e, List.countP_append]
  have e1 : (l.take i).countP (fun x => decide (x.1 < key)) = i := by
    rw [List.countP_eq_length.2 (fun x hx => ?_), List.length_take, Nat.min_eq_left hi]
    obtain ⟨t, ht, rfl⟩ := List.getElem_of_mem hx
    rw [List.getElem_take]
    rw [List.length_take] at ht
    exact decide_eq_true (h1 t (by omega) (by omega))
  have e2 : (l.drop i).countP (fun x => decide (x.1 < key)) = 0 := by
    rw [List.countP_eq_zero]
    intro x hx
    obtain ⟨t, ht, rfl⟩ := List.getElem_of_mem hx
    rw [List.getElem_drop]
    rw [List.length_drop] at ht
    have := h2 (i + t) (by omega) (by omega)
    simpa using this
  rw [e1, e2]; rfl
set_option maxRecDepth 100000 in
set_option maxHeartbeats 3200000 in
theorem Search_any (w : World) (v : Value) (l : List Val) (key : Nat) (hv : ValsAt w v l) (hs : Rising l) (hl : l.length < 4611686018427387904) :
    Calls Tryz.prog 290 #[v, u64V key, .func (.func 291) #[] #[]] w fun e w' => e = .returned (.tuple #[i64V (posV l key), .bool (isV l key)]) ∧ Kept Nowhere w w' := by
  obtain ⟨a, cap, rfl, hml, hcap, hat⟩ := hv
  obtain ⟨n, hn⟩ : ∃ n, l.length = n := ⟨_, rfl⟩
  obtain ⟨ps, hps⟩ : ∃ r, posV l key = r := ⟨_, rfl⟩
  obtain ⟨is, his⟩ : ∃ r, isV l key = r := ⟨_, rfl⟩
  have HPos : Hid (∀ i, i ≤ n → (∀ t (h : t < l.length), t < i → l[t].1 < key) → (∀ t (h : t < l.length), i ≤ t → key ≤ l[t].1) → i = ps ∧ is = (decide ((l.getD i (0, 0)).1 = key) && decide (i < n))) := fun i hi h1 h2 => by
    have := posV_of (hn ▸ hi) h1 h2
    refine ⟨this.symm.trans hps, ?_⟩
    rw [← his]; unfold isV; rw [this, hn]
  rw [hps, his]
  rw [hn] at hml hcap hl ⊢
  have HN := Lib.hid hn
  have HA := Lib.hid hat
  have HS : Hid (∀ i j (hi : i < l.length) (hj : j < l.length), i < j → l[i].1 < l[j].1) := fun i j hi hj hij => List.pairwise_iff_getElem.1 hs i j hi hj hij
  have HC := Lib.hid (fun x W => change1_any x key W)
  have eg : ∀ args w, (callFunc 291 args).run Tryz.prog w = .ok (.enter 291 args) w := enters_of Tryz.func291 (by kernel_rfl) rfl
  clear hn hps his hat hs hml
  go_enter Tryz.func290, Tryz.ntmps290
  go_wp2_with fail
  go_loopw [9, 10] (fun s i wr => ∃ (lo hi : Nat), s = .int .i64 lo ∧ i = .int .i64 hi ∧ lo ≤ hi ∧ hi ≤ n ∧ Hid (Kept Nowhere w wr ∧ (∀ t (h : t < l.length), t < lo → l[t].1 < key) ∧ (∀ t (h : t < l.length), hi ≤ t → key ≤ l[t].1))) (fun s i _ => (iOf i - iOf s).toNat)
  case atStart => exact ⟨0, n, rfl, rfl, Nat.zero_le _, Nat.le_refl _, Kept.refl _ _, fun t _ h => by omega, fun t h h' => by have := HN.out; omega⟩
  case round =>
    obtain ⟨lo, hi, rfl, rfl, hlh, hin, HI⟩ := hrel
    by_cases hlt : lo < hi
    · obtain ⟨h, hh⟩ : ∃ h, (lo + hi) / 2 = h := ⟨_, rfl⟩
      have hh' : ((lo : Int) + (hi : Int)) / 2 = (h : Int) := by omega
      have hhb : lo ≤ h ∧ h < hi := by omega
      have hh0 : (0 : Int) ≤ (h : Int) := by omega
      have hh1 : (h : Int) < (n : Int) := by omega
      obtain ⟨-, g, o, rfl, hg, c0, c1⟩ := HA.out h _ (List.getElem?_eq_getElem (by rw [HN.out]; omega))
      have hadd := add_none g o (h * 2)
      have d0 := (HI.out.1.cell (p := ⟨g, _, none⟩) hg id).trans c0
      have d1 := (HI.out.1.cell (p := ⟨g, _, none⟩) hg id).trans c1
      have HX : Hid (∃ hq : h < l.length, l[h]'hq = l[h]'(by rw [HN.out]; omega)) := ⟨by rw [HN.out]; omega, rfl⟩
      generalize hx : (l[h]'(by rw [HN.out]; omega)) = x at d0 d1 HX
      have HXX := Lib.hid hx
      clear c0 c1 hh hx
      obtain ⟨r, hr⟩ : ∃ r, cmpN x.1 key = r := ⟨_, rfl⟩
      have HC2 := Lib.hid (fun W => HC.out x W)
      rw [hr] at HC2
      have hneg := cmpN_neg x.1 key
      rw [hr] at hneg
      have HI2 : Hid ((∀ t (h : t < l.length), t < lo → l[t].1 < key) ∧ (∀ t (h : t < l.length), hi ≤ t → key ≤ l[t].1)) := HI.out.2
      have HK := Lib.hid HI.out.1
      clear hr HI
      by_cases hx : x.1 < key
      · have hrn : r < 0 := hneg.2 hx
        have HI3 : Hid ((∀ t (ht : t < l.length), t < h + 1 → l[t].1 < key) ∧ (∀ t (ht : t < l.length), hi ≤ t → key ≤ l[t].1)) := ⟨fun t ht hth => by
          by_cases e : t = h
          · subst e; rw [HXX.out]; exact hx
          · have := HS.out t h ht (by rw [HN.out]; omega) (by omega)
            rw [HXX.out] at this
            omega, HI2.out.2⟩
        clear hneg hx HI2
        go_wp2_with fail
        refine (HC2.out wr).mono ?_
        rintro e w1 ⟨rfl, hk1⟩
        have HK1 := Lib.hid (HK.out.trans hk1)
        clear hk1 d0 d1
        go_wp2_with fail
        exact ⟨⟨h + 1, hi, by go_num, rfl, by omega, hin, HK1.out, HI3.out⟩, by simp [iOf]; omega⟩
      · have hrn : ¬ r < 0 := fun hh => hx (hneg.1 hh)
        have HI3 : Hid ((∀ t (ht : t < l.length), t < lo → l[t].1 < key) ∧ (∀ t (ht : t < l.length), h ≤ t → key ≤ l[t].1)) := ⟨HI2.out.1, fun t ht hth => by
          by_cases e : h = t
          · subst e; rw [HXX.out]; omega
          · have := HS.out h t (by rw [HN.out]; omega) ht (by omega)
            rw [HXX.out] at this
            omega⟩
        clear hneg hx HI2
        go_wp2_with fail
        refine (HC2.out wr).mono ?_
        rintro e w1 ⟨rfl, hk1⟩
        have HK1 := Lib.hid (HK.out.trans hk1)
        clear hk1 d0 d1
        go_wp2_with fail
        exact ⟨⟨lo, h, rfl, rfl, by omega, by omega, HK1.out, HI3.out⟩, by simp [iOf]; omega⟩
    · obtain rfl : hi = lo := by omega
      obtain ⟨hp1, hp2⟩ := HPos.out hi hin HI.out.2.1 HI.out.2.2
      subst hp1
      have HK := Lib.hid HI.out.1
      by_cases hln : hi < n
      · have hi0 : (0 : Int) ≤ (hi : Int) := by omega
        have hi1 : (hi : Int) < (n : Int) := by omega
        obtain ⟨-, g, o, rfl, hg, c0, c1⟩ := HA.out hi _ (List.getElem?_eq_getElem (by rw [HN.out]; omega))
        have hadd := add_none g o (hi * 2)
        have d0 := (HK.out.cell (p := ⟨g, _, none⟩) hg id).trans c0
        have d1 := (HK.out.cell (p := ⟨g, _, none⟩) hg id).trans c1
        rw [getD_of (by rw [HN.out]; omega)] at hp2
        generalize hx : (l[hi]'(by rw [HN.out]; omega)) = x at d0 d1 hp2
        obtain ⟨r, hr⟩ : ∃ r, cmpN x.1 key = r := ⟨_, rfl⟩
        have HC2 := Lib.hid (fun W => HC.out x W)
        rw [hr] at HC2
        have hz := cmpN_zero x.1 key
        rw [hr] at hz
        have HP : Hid (is = (r == 0)) := by
          show is = (r == 0)
          rw [hp2, decide_eq_true hln, Bool.and_true, Bool.eq_iff_iff]
          simp [hz]
        clear c0 c1 hx hr hz hp2 HI HPos
        go_wp2_with fail
        refine (HC2.out wr).mono ?_
        rintro e w1 ⟨rfl, hk1⟩
        have HK1 := Lib.hid (HK.out.trans hk1)
        clear hk1 d0 d1
        go_wp2_with fail
        first | go_ret | go_ret2
        exact ⟨by rw [HP.out]; rfl, HK1.out⟩
      · obtain rfl : is = false := by rw [hp2]; simp [hln]
        have hi1 : ¬ (hi : Int) < (n : Int) := by omega
        clear hp2 HI HPos
        go_wp2_with fail
        first | go_ret | go_ret2
        exact ⟨rfl, HK.out⟩
end Go.Proofs.YtlaahjcdbdipdaaGreatDoor
