/- A transaction at an app that has no client: the contracts of run, Run. -/
import Derived.Test.YtlaahjcdbdipdaaGreatDoorTried
import Derived.Test.YtlaahjcdbdipdaaGreatDoorUpdate
import Derived.Deep.MidRow
import Derived.Deep.RegionHeld3
namespace Go.Proofs.YtlaahjcdbdipdaaGreatDoor
open Go Go.RowKit Go.MapKept Go.ChangeMaps

/-- A transaction: its cells; what a young app looks at. -/
structure TxS where
  cells : List Value
  kind : Int
  fr : BA
  to : BA
  den : BA
  am : Nat
  chv : Value
structure TxS.Ok (t : TxS) : Prop where
  len : t.cells.length = 215
  one : ∀ v ∈ t.cells, v.oneCell' = true
  c0 : t.cells[0]? = some (i64V t.kind)
  c1 : t.cells[1]? = some (.string t.fr)
  c2 : t.cells[2]? = some (.string t.to)
  c3 : t.cells[3]? = some (.string t.den)
  c4 : t.cells[4]? = some (u64V t.am)
  c214 : t.cells[214]? = some t.chv
  s1 : t.fr.size ≤ maxLen
  s2 : t.to.size ≤ maxLen
  s3 : t.den.size ≤ maxLen
  s4 : t.am ≤ top64
/-- A transaction, boxed. -/
structure TxAt (W : World) (b : Nat) (t : TxS) : Prop where
  all : W.rangeAt b 0 t.cells
  c0 : W.cell? ⟨b, 0, none⟩ = some (i64V t.kind)
  c1 : W.cell? ⟨b, 1, none⟩ = some (.string t.fr)
  c2 : W.cell? ⟨b, 2, none⟩ = some (.string t.to)
  c3 : W.cell? ⟨b, 3, none⟩ = some (.string t.den)
  c4 : W.cell? ⟨b, 4, none⟩ = some (u64V t.am)
  c214 : W.cell? ⟨b, 214, none⟩ = some t.chv
theorem tx_of_range {W : World} {b : Nat} {t : TxS} (h : t.Ok) (hr : W.rangeAt b 0 t.cells) : TxAt W b t := by
  have e : ∀ j v, t.cells[j]? = some v → W.cell? ⟨b, j, none⟩ = some v := fun j v hj => by have := hr j v hj; rwa [Nat.zero_add] at this
  exact ⟨hr, e _ _ h.c0, e _ _ h.c1, e _ _ h.c2, e _ _ h.c3, e _ _ h.c4, e _ _ h.c214⟩
theorem tx_new (w : World) {t : TxS} (h : t.Ok) (ty : Nat) : TxAt (w.alloc (.cells t.cells.toArray ty)) w.heap.size t :=
  tx_of_range h (fun j v hj => by rw [Nat.zero_add]; exact cell_of_alloc w _ ty j v (by simpa using hj))
theorem TxAt.kept {S : Nat → Prop} {W W' : World} {b : Nat} {t : TxS} (h : TxAt W b t) (ht : t.Ok) (hk : Kept S W W') (hS : ¬ S b) : TxAt W' b t := by
  have hb : b < W.heap.size := World.block_lt_of_cell? W _ h.c0
  exact tx_of_range ht (fun j v hj => (hk.cell (p := ⟨b, _, none⟩) hb hS).trans (h.all j v hj))
theorem infoTx : (Tryz.prog.info? 63).map (·.size) = some 215 := by kernel_rfl
def escrowS : BA := ⟨#[101, 115, 99, 114, 111, 119]⟩
theorem escrow_list : escrowS.toList = [101, 115, 99, 114, 111, 119] := by rw [ByteArray.toList_eq]; rfl
/-- What a transaction does at an app that has no client. -/
def runY (b : BS) (set : List Val) (t : TxS) (chs : List Val) : Int × BS × List Val :=
  if t.kind < 1 ∨ 7 < t.kind then (211, b, set)
  else if t.kind ≠ 1 ∧ t.kind ≠ 7 then (191, b, set)
  else if t.kind = 1 then (if t.fr = escrowS ∨ t.to = escrowS then (183, b, set) else ((moveF b t.fr t.to t.den t.am).1, (moveF b t.fr t.to t.den t.am).2, set))
  else ((updateV set chs).1, b, (updateV set chs).2)
/-- How run ends. -/
def RunPost (B : Nat) (W : World) (px : Nat) (own other : BA) (next : Int) (E : List (BA × BA)) (r : Int × BS × List Val) (e : Ending) (W' : World) : Prop :=
  Kept (fun k => B ≤ k) W W' ∧ ((e = .returned (.tuple #[]) ∧ r.1 = 0 ∧ AppAt (fun k => B ≤ k) W' px own other (.pointer none) (.slice none 0 0) r.2.1 next E r.2.2) ∨ (e = refusedP r.1 ∧ ¬ r.1 = 0))
set_option maxHeartbeats 4000000 in
set_option maxRecDepth 100000 in
theorem run_any (W : World) (B px : Nat) (own other : BA) (b : BS) (next : Int) (E : List (BA × BA)) (set : List Val) (t : TxS) (chs : List Val) (hh nv : Value) (ht : t.Ok) (hcs : ValsAt W t.chv chs) (hbig : (chs.length + 65) * 16 ≤ 140737488355328) (hL : Laid W)
    (hB : B ≤ W.heap.size) (hG : 8 ≤ B) (hat : AppAt (fun k => B ≤ k) W px own other (.pointer none) (.slice none 0 0) b next E set) :
    Calls Tryz.prog 68 #[ptr px, .agg t.cells.toArray, hh, nv] W (RunPost B W px own other next E (runY b set t chs)) := by
  obtain ⟨pb, m1, m2, pc, m, tv, hi, f1, f2, f3, f4, f5, f6, f7⟩ := hat
  have k0 : Kept Nowhere W (W.alloc (.cells t.cells.toArray 63)) := (Kept.refl _ _).alloc _
  have h0 := tx_new W ht 63
  have hi0 := hi.still k0
  have H0 := Lib.hid (And.intro h0 (And.intro hi0 k0))
  have x0 := h0.c0
  have x1 := h0.c1
  have x2 := h0.c2
  have x3 := h0.c3
  have x4 := h0.c4
  have x5 := h0.c214
  have a2 := hi0.c2
  have a4 := hi0.c4
  have a5 := hi0.c5
  have HT := Lib.hid ht
  obtain ⟨res, hres⟩ : ∃ r, runY b set t chs = r := ⟨_, rfl⟩
  rw [hres]
  unfold runY at hres
  obtain ⟨cells, kind, fr, to, den, am, chv⟩ := t
  simp only at hres x0 x1 x2 x3 x4 x5 hcs
  have HRes := Lib.hid hres
  have HMy := Lib.hid amust_yes
  have HMn := Lib.hid amust_no
  have HNy := Lib.hid need_yes
  have HNn := Lib.hid need_no
  have HI := Lib.hid hi
  have HCs := Lib.hid hcs
  have HLd := Lib.hid hL
  clear hres h0 hi0 ht hi hcs hL k0
  have HREF := Lib.hid (show ∀ (W' : World) (c : Int), Kept Nowhere W W' → ¬ c = 0 → RunPost B W px own other next E (c, b, set) (refusedP c) W' from fun W' c hk hc => ⟨hk.weaken (fun _ _ h => h.elim), .inr ⟨rfl, hc⟩⟩)
  by_cases hk1 : 1 ≤ kind
  · by_cases hk7 : kind ≤ 7
    · by_cases hp : kind = 1
      · subst hp
        have hr0 := HRes.out
        rw [if_neg (by omega), if_neg (by omega), if_pos rfl] at hr0
        have hbf := bytes_beq_iff fr escrowS
        have hbt := bytes_beq_iff to escrowS
        rw [escrow_list] at hbf hbt
        by_cases hef : fr = escrowS
        · have hr1 : res = (183, b, set) := by rw [← hr0, if_pos (Or.inl hef)]
          rw [decide_eq_true (by exact hef)] at hbf
          subst hr1
          clear hr0 HRes hef hbt
          go_enter Tryz.func68, Tryz.ntmps68
          go_wp2_with fail
          refine (HMy.out _ _).mono ?_
          rintro e w1 ⟨rfl, rfl⟩
          go_wp2_with fail
          refine (HMy.out _ _).mono ?_
          rintro e w1 ⟨rfl, rfl⟩
          go_wp2_with fail
          refine (HMn.out _ _).mono ?_
          rintro e w1 ⟨rfl, rfl⟩
          go_wp2_with fail
          exact ⟨rfl, HREF.out _ _ H0.out.2.2 (by decide)⟩
        · rw [decide_eq_false (by exact hef)] at hbf
          by_cases het : to = escrowS
          · have hr1 : res = (183, b, set) := by rw [← hr0, if_pos (Or.inr het)]
            rw [decide_eq_true (by exact het)] at hbt
            subst hr1
            clear hr0 HRes hef het
            go_enter Tryz.func68, Tryz.ntmps68
            go_wp2_with fail
            refine (HMy.out _ _).mono ?_
            rintro e w1 ⟨rfl, rfl⟩
            go_wp2_with fail
            refine (HMy.out _ _).mono ?_
            rintro e w1 ⟨rfl, rfl⟩
            go_wp2_with fail
            refine (HMn.out _ _).mono ?_
            rintro e w1 ⟨rfl, rfl⟩
            go_wp2_with fail
            exact ⟨rfl, HREF.out _ _ H0.out.2.2 (by decide)⟩
          · rw [decide_eq_false (by exact het)] at hbt
            have hr1 : res = ((moveF b fr to den am).1, (moveF b fr to den am).2, set) := by rw [← hr0, if_neg (by rintro (h | h); exact hef h; exact het h)]
            obtain ⟨mv, hmv⟩ : ∃ mv, moveF b fr to den am = mv := ⟨_, rfl⟩
            have hgood : Good mv.2 := hmv ▸ good_move H0.out.2.1.good fr to den am
            have HM := Lib.hid (fun (W1 : World) (h : Has W1 pb m1 m2 b) (hl : Laid W1) => Move_any W1 pb m1 m2 b fr to den am h H0.out.2.1.good hl HT.out.s1 HT.out.s2 HT.out.s3)
            rw [hmv] at hr1 HM
            obtain ⟨me, mb⟩ := mv
            simp only at hr1 hgood
            subst hr1
            clear hr0 HRes hef het hmv
            go_enter Tryz.func68, Tryz.ntmps68
            go_wp2_with fail
            refine (HMy.out _ _).mono ?_
            rintro e w1 ⟨rfl, rfl⟩
            go_wp2_with fail
            refine (HMy.out _ _).mono ?_
            rintro e w1 ⟨rfl, rfl⟩
            go_wp2_with fail
            refine (HMy.out _ _).mono ?_
            rintro e w1 ⟨rfl, rfl⟩
            go_wp2_with fail
            refine region_tail 12 (by kernel_rfl) (by kernel_rfl) ?_
            simp only [List.take_succ_cons, List.take_zero, List.drop_succ_cons, List.drop_zero]
            repeat still_step
            refine wpStill_nil ?_
            go_wp2_with fail
            refine (HM.out _ (BankIs.drew H0.out.2.1.bank) (HLd.out.still H0.out.2.2.drew)).mono ?_
            rintro e w2 ⟨rfl, hb2, hk2⟩
            have K2 : Hid (Kept (fun k => B ≤ k) W w2) := (H0.out.2.2.drew.weaken (T := fun k => B ≤ k) (fun _ _ h => h.elim)).trans (hk2.weaken (fun k _ hk => by rcases hk with rfl | rfl; exact f3; exact f4))
            have HA2 : Hid (AppAt (fun k => B ≤ k) w2 px own other (.pointer none) (.slice none 0 0) mb next E set) := ⟨pb, m1, m2, pc, m, tv, (H0.out.2.1.still ((Kept.refl Nowhere _).drew)).banked hb2 hgood hk2, f1, f2, f3, f4, f5, f6, f7⟩
            clear hb2 hk2 hgood
            by_cases hme : me = 0
            · subst hme
              go_wp2_with fail
              refine (HNy.out w2).mono ?_
              rintro e w3 ⟨rfl, rfl⟩
              go_wp2_with fail
              first | go_end0 | refine bodyPost_ret (results_none rfl _ _ _) rfl ?_
              exact ⟨K2.out, .inl ⟨rfl, rfl, HA2.out⟩⟩
            · have HME := Lib.hid hme
              clear hme
              go_wp2_with fail
              refine (HNn.out me HME.out w2).mono ?_
              rintro e w3 ⟨rfl, rfl⟩
              go_wp2_with fail
              exact ⟨rfl, K2.out, .inr ⟨rfl, HME.out⟩⟩
      · by_cases hu : kind = 7
        · subst hu
          have hr1 : res = ((updateV set chs).1, b, (updateV set chs).2) := by rw [← HRes.out, if_neg (by omega), if_neg (by omega), if_neg (by omega)]
          obtain ⟨uv, huv⟩ : ∃ uv, updateV set chs = uv := ⟨_, rfl⟩
          have HU := Lib.hid (fun (W1 : World) (h1 : ValsAt W1 tv set) (h2 : ValsAt W1 chv chs) => Update_any W1 tv chv set chs h1 h2 hbig)
          rw [huv] at hr1 HU
          obtain ⟨ue, us⟩ := uv
          simp only at hr1
          subst hr1
          have hlen : Hid (ue = 0 → us.length ≤ 64) := Lib.hid (show ue = 0 → us.length ≤ 64 from fun h => by
            subst h
            unfold updateV at huv
            split at huv
            · split at huv
              · split at huv
                · split at huv
                  · rename_i h1
                    simp only [Prod.mk.injEq] at huv
                    rw [← huv.2]; exact right_len' h1
                  · cases huv
                · cases huv
              · rename_i h1
                simp only [Prod.mk.injEq] at huv
                exact absurd huv.1 h1
            · cases huv)
          clear huv HRes
          have HLT := Lib.hid (show ∀ W', Kept Nowhere (W.alloc (.cells cells.toArray 63)) W' → W'.cell? ⟨px, 5, none⟩ = some tv ∧ W'.cell? ⟨W.heap.size, 214, none⟩ = some chv ∧ ValsAt W' tv set ∧ ValsAt W' chv chs from fun W' hk => by
            have hi' := H0.out.2.1.still hk
            exact ⟨hi'.c5, (hk.cell (p := ⟨W.heap.size, 214, none⟩) (World.block_lt_of_cell? _ _ x5) id).trans x5, hi'.vals, HCs.out.still (H0.out.2.2.trans hk)⟩)
          by_cases hue : ue = 0
          · have HU2 := Lib.hid (fun (W1 : World) (h1 : ValsAt W1 tv set) (h2 : ValsAt W1 chv chs) => (HU.out W1 h1 h2).mono fun e W2 hpost => by
              unfold UpdatePost at hpost
              rw [if_pos hue] at hpost
              exact hpost)
            have hlen64 : Hid (us.length ≤ 64) := Lib.hid (hlen.out hue)
            subst hue
            clear HU x1 x2 x3 x4
            go_enter Tryz.func68, Tryz.ntmps68
            go_wp2_with fail
            refine (HMy.out _ _).mono ?_
            rintro e w1 ⟨rfl, rfl⟩
            go_wp2_with fail
            refine (HMy.out _ _).mono ?_
            rintro e w1 ⟨rfl, rfl⟩
            go_wp2_with fail
            go_region_held3 (fun W' => W'.cell? ⟨px, 5, none⟩ = some tv ∧ W'.cell? ⟨W.heap.size, 214, none⟩ = some chv)
              (first
                | exact ⟨(HLT.out _ (Kept.refl _ _)).1, (HLT.out _ (Kept.refl _ _)).2.1⟩
                | exact ⟨(HLT.out _ (Kept.refl _ _).drew).1, (HLT.out _ (Kept.refl _ _).drew).2.1⟩
                | exact ⟨(HLT.out _ hq1.out).1, (HLT.out _ hq1.out).2.1⟩)
              (first | (go_at_call 126; refine (HU2.out _ (HLT.out _ (Kept.refl _ _).drew).2.2.1 (HLT.out _ (Kept.refl _ _).drew).2.2.2).mono ?_; rintro e w2 ⟨v', rfl, hown, hfit, hk2⟩; obtain ⟨up, un, uc, rfl⟩ := own_slice' hown; have hq1 := Lib.hid (show Kept Nowhere (W.alloc (.cells cells.toArray 63)) w2 from (Kept.refl _ _).drew.trans hk2)))
            have hi2 := H0.out.2.1.still hq1.out
            have y5 := hi2.c5
            have hx2 := hi2.cells
            have z5 : w2.frozen? ⟨px, 5, none⟩ = false := by simp [World.frozen?, hx2]
            have g1 := heap_setCell_same w2 px 5 _ _ (.slice up un uc) hx2
            simp at g1
            have k5 : Kept (fun k => k = px) w2 (w2.setCell ⟨px, 5, none⟩ (.slice up un uc)) := (Kept.refl (fun k => k = px) w2).setCell (p := ⟨px, 5, none⟩) (fun _ => rfl) _
            have hpx : px < W.heap.size := HI.out.lt.1
            have hgrow := H0.out.2.2.size
            have hF : Hid (RunPost B W px own other next E (0, b, us) (.returned (.tuple #[])) (w2.setCell ⟨px, 5, none⟩ (.slice up un uc))) := by
              have hv5 : ValsAt (w2.setCell ⟨px, 5, none⟩ (.slice up un uc)) (.slice up un uc) us := by
                have h4 := ownsRow_kept hown k5 (fun k hk e => by
                  have : (W.alloc (.cells cells.toArray 63)).heap.size ≤ k := hk
                  omega)
                exact vals_of_own h4 hfit (by have h64 : us.length ≤ 64 := hlen64.out; unfold maxLen; omega)
              refine ⟨((H0.out.2.2.trans hq1.out).weaken (T := fun k => B ≤ k) (fun _ _ h => h.elim)).trans (k5.weaken (fun k _ h => by subst h; exact f1)), .inl ⟨rfl, rfl, pb, m1, m2, pc, m, .slice up un uc, ⟨g1, BankIs.kept hi2.bank k5 ?_ ?_ ?_, hi2.chan.kept k5 ?_ ?_, hv5, hi2.good, hi2.ne1, hi2.ne2, fun g hg => Nat.lt_of_lt_of_le (own_row hown hg).2 k5.size⟩, f1, f2, f3, f4, f5, f6, fun g hg => ?_⟩⟩
              · intro e; have := hi2.bank.cells; rw [e, hx2] at this; cases this
              · intro e; exact map_no_block hi2.bank.am (e ▸ hx2)
              · intro e; exact map_no_block hi2.bank.su (e ▸ hx2)
              · intro e; have := hi2.chan.cells; rw [e, hx2] at this; cases this
              · intro e; exact map_no_block hi2.chan.en (e ▸ hx2)
              · have : (W.alloc (.cells cells.toArray 63)).heap.size ≤ g := (own_row hown hg).1
                show B ≤ g
                omega
            clear hi2 hx2 g1 k5 hpx hgrow hown hfit hk2 hlen
            go_wp2_with fail
            refine (HNy.out w2).mono ?_
            rintro e w3 ⟨rfl, rfl⟩
            go_wp2_with fail
            first | go_end0 | refine bodyPost_ret (results_none rfl _ _ _) rfl ?_
            exact hF.out
          · have HU2 := Lib.hid (fun (W1 : World) (h1 : ValsAt W1 tv set) (h2 : ValsAt W1 chv chs) => (HU.out W1 h1 h2).mono fun e W2 hpost => by
              unfold UpdatePost at hpost
              rw [if_neg hue] at hpost
              exact hpost)
            have HUE := Lib.hid hue
            clear hue HU x1 x2 x3 x4
            go_enter Tryz.func68, Tryz.ntmps68
            go_wp2_with fail
            refine (HMy.out _ _).mono ?_
            rintro e w1 ⟨rfl, rfl⟩
            go_wp2_with fail
            refine (HMy.out _ _).mono ?_
            rintro e w1 ⟨rfl, rfl⟩
            go_wp2_with fail
            go_region_held3 (fun W' => W'.cell? ⟨px, 5, none⟩ = some tv ∧ W'.cell? ⟨W.heap.size, 214, none⟩ = some chv)
              (first
                | exact ⟨(HLT.out _ (Kept.refl _ _)).1, (HLT.out _ (Kept.refl _ _)).2.1⟩
                | exact ⟨(HLT.out _ (Kept.refl _ _).drew).1, (HLT.out _ (Kept.refl _ _).drew).2.1⟩
                | exact ⟨(HLT.out _ hq1.out).1, (HLT.out _ hq1.out).2.1⟩)
              (first | (go_at_call 126; refine (HU2.out _ (HLT.out _ (Kept.refl _ _).drew).2.2.1 (HLT.out _ (Kept.refl _ _).drew).2.2.2).mono ?_; rintro e w2 ⟨rfl, hk2⟩; have hq1 := Lib.hid (show Kept Nowhere (W.alloc (.cells cells.toArray 63)) w2 from (Kept.refl _ _).drew.trans hk2)))
            clear hk2
            go_wp2_with fail
            refine (HNn.out ue HUE.out w2).mono ?_
            rintro e w3 ⟨rfl, rfl⟩
            go_wp2_with fail
            exact ⟨rfl, (H0.out.2.2.trans hq1.out).weaken (fun _ _ h => h.elim), .inr ⟨rfl, HUE.out⟩⟩
        · have hr1 : res = (191, b, set) := by rw [← HRes.out, if_neg (by omega), if_pos ⟨hp, hu⟩]
          subst hr1
          have hpb : (kind == 1) = false := by simpa using hp
          have hub : (kind == 7) = false := by simpa using hu
          clear hp hu HRes
          go_enter Tryz.func68, Tryz.ntmps68
          go_wp2_with fail
          refine (HMy.out _ _).mono ?_
          rintro e w1 ⟨rfl, rfl⟩
          go_wp2_with fail
          refine (HMn.out _ _).mono ?_
          rintro e w1 ⟨rfl, rfl⟩
          go_wp2_with fail
          exact ⟨rfl, HREF.out _ _ H0.out.2.2 (by decide)⟩
    · have hr1 : res = (211, b, set) := by rw [← HRes.out, if_pos (Or.inr (by omega))]
      subst hr1
      clear HRes
      go_enter Tryz.func68, Tryz.ntmps68
      go_wp2_with fail
      refine (HMn.out _ _).mono ?_
      rintro e w1 ⟨rfl, rfl⟩
      go_wp2_with fail
      exact ⟨rfl, HREF.out _ _ H0.out.2.2 (by decide)⟩
  · have hr1 : res = (211, b, set) := by rw [← HRes.out, if_pos (Or.inl (by omega))]
    subst hr1
    clear HRes
    go_enter Tryz.func68, Tryz.ntmps68
    go_wp2_with fail
    refine (HMn.out _ _).mono ?_
    rintro e w1 ⟨rfl, rfl⟩
    go_wp2_with fail
    exact ⟨rfl, HREF.out _ _ H0.out.2.2 (by decide)⟩
end Go.Proofs.YtlaahjcdbdipdaaGreatDoor
