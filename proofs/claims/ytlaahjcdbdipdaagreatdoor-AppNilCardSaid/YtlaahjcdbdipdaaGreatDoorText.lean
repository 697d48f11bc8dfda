/- The bank's texts: what may be a name or a denom: the contracts of cutLeft, cutRight, of, check. -/
import Derived.Test.YtlaahjcdbdipdaaGreatDoorBase
import Derived.Test.YtlaahjcdbdipdaaGreatDoorShelf
import Derived.Laws.RangeString
import Derived.Lib.TrimUEq
namespace Go.Proofs.YtlaahjcdbdipdaaGreatDoor
open Go Go.RowKit Go.MapKept Go.ChangeMaps

/-- The library's tables, as the program's text lays them. -/
structure Laid (w : World) : Prop where
  utf : Lib.Utf8Tabs 6 7 w
  pow : Lib.TabIs Tryz.prog w "internal/strconv.uint64pow10" .u64 Lib.pow10Tab
  size : 8 ≤ w.heap.size
theorem powGlobal : Tryz.prog.globalNamed "internal/strconv.uint64pow10" = some 1 := by kernel_rfl
theorem Laid.kept {S : Nat → Prop} {w w' : World} (h : Laid w) (hk : Kept S w w') (hS : ∀ k, k < 8 → ¬ S k) : Laid w' := by
  have hb : Below 8 w w' := hk.below (fun k _ hs => Nat.not_lt.1 (fun hlt => hS k hlt hs)) h.size
  have hc : ∀ g o, g < 8 → w'.cell? ⟨g, o, none⟩ = w.cell? ⟨g, o, none⟩ := fun g o hg => hb.cell (p := ⟨g, o, none⟩) hg
  refine ⟨⟨fun c h1 => (hc _ _ (by decide)).trans (h.utf.1 c h1), fun i hi => ⟨(hc _ _ (by decide)).trans (h.utf.2 i hi).1, (hc _ _ (by decide)).trans (h.utf.2 i hi).2⟩⟩, var?_below hb powGlobal (by decide) h.pow, Nat.le_trans h.size hk.size⟩
theorem Laid.still {w w' : World} (h : Laid w) (hk : Kept Nowhere w w') : Laid w' := h.kept hk (fun _ _ => id)
theorem Laid.drew {w : World} (h : Laid w) : Laid w.drew := h.still ((Kept.refl _ _).drew)
theorem Laid.alloc {w : World} (h : Laid w) (o : Obj) : Laid (w.alloc o) := h.still ((Kept.refl _ _).alloc o)

/-- Is a number one of some bytes? -/
def isIn (t : List UInt8) (c : Nat) : Bool := t.any fun b => decide (c = b.toNat)
theorem isIn_nil (c : Nat) : isIn [] c = false := rfl
theorem isIn_snoc (t : List UInt8) (b : UInt8) (c : Nat) : isIn (t ++ [b]) c = (isIn t c || decide (c = b.toNat)) := by simp [isIn]
theorem take_snoc (s : BA) (k : Nat) (h : k < s.size) : s.data.toList.take (k + 1) = s.data.toList.take k ++ [s[k]] := by
  rw [List.take_succ_eq_append_getElem (by simpa using h)]; rfl

theorem isIn_iff {t : List UInt8} {c : Nat} : isIn t c = true ↔ ∃ b ∈ t, c = b.toNat := by simp [isIn]
theorem decode_small (s : BA) (pos : Nat) (h : pos < s.size) (hc : (Utf8.decode s pos).1 < 128) : (s[pos]'h).toNat = (Utf8.decode s pos).1 ∧ (Utf8.decode s pos).2 = 1 := by
  by_cases ha : (s[pos]'h).toNat < 128
  · rw [decode_ascii s pos h ha]; exact ⟨rfl, rfl⟩
  · exact absurd (decode_high s pos h (by omega)).1 (by omega)
theorem step_in {s t : BA} (ht : ∀ b ∈ t.data.toList, b.toNat < 128) {pos : Nat} (h : pos < s.size) (hin : isIn t.data.toList (Utf8.decode s pos).1 = true) : (Utf8.decode s pos).2 = 1 ∧ (s[pos]'h) ∈ t.data.toList := by
  obtain ⟨b, hb, he⟩ := isIn_iff.1 hin
  have h1 := decode_small s pos h (by have := ht b hb; omega)
  refine ⟨h1.2, ?_⟩
  rw [he] at h1
  rw [show s[pos] = b from UInt8.toNat_inj.1 h1.1]
  exact hb
theorem step_out {s t : BA} (ht : ∀ b ∈ t.data.toList, b.toNat < 128) {pos : Nat} (h : pos < s.size) (hin : isIn t.data.toList (Utf8.decode s pos).1 = false) : (s[pos]'h) ∉ t.data.toList := by
  intro hm
  have := ht _ hm
  rw [decode_ascii s pos h this] at hin
  exact absurd (isIn_iff.2 ⟨_, hm, rfl⟩) (by rw [hin]; decide)
theorem mem_extract {s : BA} {p q j : Nat} (h1 : p ≤ j) (h2 : j < q) (h3 : q ≤ s.size) : (s[j]'(by omega)) ∈ (s.extract p q).data.toList := by
  have e : (s.extract p q).data.toList = (s.data.toList.take q).drop p := by
    rw [ByteArray.data_extract, Array.toList_extract]; simp [List.extract_eq_take_drop, List.drop_take]
  rw [e]
  have hj : s.data.toList[j]? = some (s[j]'(by omega)) := by
    rw [List.getElem?_eq_getElem (by simpa using by omega)]; rfl
  refine List.mem_iff_getElem?.2 ⟨j - p, ?_⟩
  rw [List.getElem?_drop, List.getElem?_take, if_pos (by omega), show p + (j - p) = j by omega, hj]

theorem mem_at {s : BA} {b : UInt8} : b ∈ s.data.toList ↔ ∃ (j : Nat) (h : j < s.size), s[j]'h = b := by
  rw [List.mem_iff_getElem]
  constructor
  · rintro ⟨j, h, rfl⟩; exact ⟨j, by simpa using h, rfl⟩
  · rintro ⟨j, h, rfl⟩; exact ⟨j, by simpa using h, rfl⟩
/-- What cutLeft hands back: nothing, where all bytes are of the set; else what begins with the first that is not. -/
def CutL (s t r : BA) : Prop := (r = ⟨#[]⟩ ∧ ∀ j (h : j < s.size), (s[j]'h) ∈ t.data.toList) ∨ (0 < r.size ∧ r.size ≤ s.size ∧ ∃ b ∈ r.data.toList, b ∈ s.data.toList ∧ b ∉ t.data.toList)

set_option maxHeartbeats 400000 in
set_option maxRecDepth 100000 in
theorem cutLeft_any (w : World) (s t : BA) (ht : ∀ b ∈ t.data.toList, b.toNat < 128) :
    Calls Tryz.prog 249 #[.string s, .string t] w fun e w' => ∃ r, e = .returned (.string r) ∧ CutL s t r ∧ Kept Nowhere w w' := by
  have ht' : ∀ k (h : k < t.size), (t[k]'h).toNat < 128 := fun k h => ht _ (by rw [List.mem_iff_getElem]; exact ⟨k, by simpa using h, rfl⟩)
  go_enter Tryz.func249, Tryz.ntmps249
  go_wp2
  go_loopw [7] (fun _ wr => ∃ pos, wr.heap[w.heap.size]? = some (.stringIter s pos) ∧ Kept Nowhere w wr ∧ pos ≤ s.size ∧ ∀ j (h : j < s.size), j < pos → (s[j]'h) ∈ t.data.toList) (fun _ wr => s.size - strPos wr w.heap.size)
  case atStart => exact ⟨0, World.iter_heap _ _ _, (Kept.refl _ _).alloc _, Nat.zero_le _, fun j _ h => absurd h (Nat.not_lt_zero _)⟩
  case round =>
    obtain ⟨pos, hit, hk, hpl, hall⟩ := hrel
    have Hall := Lib.hid hall; clear hall
    go_wp2_with (first | (at_next; refine wpList_next_str rfl _ rfl w.heap.size pos s rfl hit ?_ ?_))
    · intro hp
      go_wp2_with fail
      go_ret
      exact ⟨_, rfl, Or.inl ⟨rfl, fun j h => Hall.out j h (by omega)⟩, hk⟩
    · intro w1 hp hit1 hk1
      go_wp2_with fail
      obtain ⟨w2, rfl⟩ : ∃ w2 : World, w2 = wr := ⟨_, rfl⟩
      have hk12 : Kept Nowhere w w1 := hk.andThen hk1 (fun i hi e => by omega)
      have Hin := Lib.hid (fun hin => step_in (s := s) (t := t) ht hp hin)
      have Hout := Lib.hid (fun hin => step_out (s := s) (t := t) ht hp hin)
      have hlt1 := (Array.getElem?_eq_some_iff.1 hit1).1
      have hps := strPos_of hit
      have HPS := Lib.hid hps; clear hps
      generalize (Utf8.decode s pos).1 = c at Hin Hout
      go_loopw [7] (fun v wi => ∃ k, wi.heap[w1.heap.size]? = some (.stringIter t k) ∧ Kept Nowhere w1 wi ∧ k ≤ t.size ∧ v = .bool (isIn (t.data.toList.take k) c)) (fun _ wi => t.size - strPos wi w1.heap.size)
      case atStart => exact ⟨0, World.iter_heap _ _ _, (Kept.refl _ _).alloc _, Nat.zero_le _, rfl⟩
      case round =>
        obtain ⟨k, hit2, hk2, hkl, rfl⟩ := hrel
        have hps := strPos_of hit2
        have HPS2 := Lib.hid hps; clear hps
        by_cases hkt : k < t.size
        · have hd := decode_ascii t k hkt (ht' k hkt)
          have h3 := isIn_snoc (t.data.toList.take k) t[k] c
          rw [← take_snoc t k hkt] at h3
          have H3 := Lib.hid h3; clear h3
          generalize isIn (t.data.toList.take k) c = inn at H3
          go_wp2_with (first | (at_next; refine wpList_next_str rfl _ rfl w1.heap.size k t rfl hit2 ?_ ?_))
          intro w3 hit3 hk3
          have hk13 : Kept Nowhere w1 w3 := hk2.andThen hk3 (fun i hi e => by omega)
          cases inn
          · by_cases hcc : c = (t[k]'hkt).toNat
            · go_wp2_with fail
              go_roundw
              case rel => exact ⟨k + 1, hit3, hk13, by omega, by rw [H3.out]; simp [hcc]⟩
              case measure => rw [HPS2.out, strPos_of hit3]; omega
            · have hci : ¬ (c : Int) = ((t[k]'hkt).toNat : Int) := by omega
              go_wp2_with fail
              go_roundw
              case rel => exact ⟨k + 1, hit3, hk13, by omega, by rw [H3.out]; simp [hcc, hci]⟩
              case measure => rw [HPS2.out, strPos_of hit3]; omega
          · go_wp2_with fail
            go_roundw
            case rel => exact ⟨k + 1, hit3, hk13, by omega, by rw [H3.out]; simp⟩
            case measure => rw [HPS2.out, strPos_of hit3]; omega
        · obtain rfl : k = t.size := by omega
          rw [show t.data.toList.take t.size = t.data.toList from List.take_of_length_le (by simp)]
          have hkF : Kept Nowhere w wr := hk12.trans hk2
          cases hin : isIn t.data.toList c
          · have HIN := Lib.hid hin; clear hin
            go_wp2_with (first | (at_next; refine wpList_next_str rfl _ rfl w1.heap.size _ t rfl hit2 ?_ ?_))
            go_ret
            exact ⟨_, rfl, Or.inr ⟨by rw [ByteArray.size_extract]; omega, by rw [ByteArray.size_extract]; omega, _, mem_extract (Nat.le_refl pos) hp (Nat.le_refl _), mem_at.2 ⟨pos, hp, rfl⟩, Hout.out HIN.out⟩, hkF⟩
          · have HIN := Lib.hid hin; clear hin
            go_wp2_with (first | (at_next; refine wpList_next_str rfl _ rfl w1.heap.size _ t rfl hit2 ?_ ?_))
            have hr := Hin.out HIN.out
            rw [hr.1] at hit1
            have hitF : wr.heap[w.heap.size]? = some (.stringIter s (pos + 1)) := (hk2.block _ hlt1 id).trans hit1
            refine ⟨⟨pos + 1, hitF, hkF, by omega, fun j h hj => ?_⟩, by rw [HPS.out, strPos_of hitF]; omega⟩
            by_cases hjp : j < pos
            · exact Hall.out j h hjp
            · obtain rfl : j = pos := by omega
              exact hr.2

/-- What cutRight hands back. -/
def CutR (s t r : BA) : Prop := (r = ⟨#[]⟩ ∧ ∀ j (h : j < s.size), (s[j]'h) ∈ t.data.toList) ∨ (0 < r.size ∧ ∃ b ∈ s.data.toList, b ∉ t.data.toList)
theorem list_at (s : BA) (j : Nat) (h : j < s.size) : s.data.toList.getD j 0 = s[j]'h := by
  rw [List.getD_eq_getElem?_getD, List.getElem?_eq_getElem (by simpa using h)]; rfl
/-- What the last rune of a text says of its last byte. -/
theorem last_small {s : BA} (h : 0 < s.size) (hc : (Lib.decodeLastL s.data.toList).1 < 128) : (Lib.decodeLastL s.data.toList).2 = 1 ∧ (Lib.decodeLastL s.data.toList).1 = (s[s.size - 1]'(by omega)).toNat := by
  have hl : s.data.toList.length = s.size := by simp
  have hne : s.data.toList ≠ [] := fun e => by rw [e] at hl; simp at hl; omega
  have hlt := Lib.lastStart_lt' _ hne
  unfold Lib.decodeLastL at hc ⊢
  rw [if_neg hne] at hc ⊢
  rw [hl, list_at s (s.size - 1) (by omega)] at hc ⊢
  split at hc
  · rename_i hb
    rw [if_pos hb]; exact ⟨rfl, rfl⟩
  · rename_i hb
    rw [if_neg hb]
    dsimp only at hc ⊢
    rw [hl] at hlt
    rw [Lib.decodeL_drop] at hc ⊢
    split at hc
    · rename_i hw
      have h1 := decode_small s (Lib.lastStart s.data.toList) hlt hc
      rw [h1.2] at hw
      have e : Lib.lastStart s.data.toList = s.size - 1 := by omega
      have h2 := h1.1
      simp only [e] at h2
      exact absurd (h2 ▸ (e ▸ hc)) hb
    · simp [Utf8.runeError] at hc
theorem last_in {s t : BA} (ht : ∀ b ∈ t.data.toList, b.toNat < 128) (h : 0 < s.size) (hin : isIn t.data.toList (Lib.decodeLastL s.data.toList).1 = true) : (Lib.decodeLastL s.data.toList).2 = 1 ∧ (s[s.size - 1]'(by omega)) ∈ t.data.toList := by
  obtain ⟨b, hb, he⟩ := isIn_iff.1 hin
  have h1 := last_small h (by have := ht b hb; omega)
  refine ⟨h1.1, ?_⟩
  rw [he] at h1
  rw [← show b = s[s.size - 1]'(by omega) from UInt8.toNat_inj.1 h1.2]
  exact hb
theorem last_out {s t : BA} (ht : ∀ b ∈ t.data.toList, b.toNat < 128) (h : 0 < s.size) (hin : isIn t.data.toList (Lib.decodeLastL s.data.toList).1 = false) : (s[s.size - 1]'(by omega)) ∉ t.data.toList := by
  intro hm
  have hb := ht _ hm
  have hl : s.data.toList.length = s.size := by simp
  have hne : s.data.toList ≠ [] := fun e => by rw [e] at hl; simp at hl; omega
  unfold Lib.decodeLastL at hin
  rw [if_neg hne, hl, list_at s (s.size - 1) (by omega), if_pos hb] at hin
  exact absurd (isIn_iff.2 ⟨_, hm, rfl⟩) (by rw [hin]; decide)
theorem extract_last (s : BA) (m : Nat) (h0 : 0 < m) (hm : m ≤ s.size) : ∃ h : (s.extract 0 m).size - 1 < (s.extract 0 m).size, (s.extract 0 m)[(s.extract 0 m).size - 1]'h = s[m - 1]'(by omega) := by
  have hz : (s.extract 0 m).size = m := by rw [ByteArray.size_extract]; omega
  refine ⟨by omega, ?_⟩
  rw [ByteArray.getElem_extract]
  simp [hz]

set_option maxHeartbeats 400000 in
set_option maxRecDepth 100000 in
theorem cutRight_any (w : World) (s t : BA) (hs : s.size ≤ 1000) (ht : ∀ b ∈ t.data.toList, b.toNat < 128) (hL : Laid w) :
    Calls Tryz.prog 248 #[.string s, .string t] w fun e w' => ∃ r, e = .returned (.string r) ∧ CutR s t r ∧ Kept Nowhere w w' := by
  have ht' : ∀ k (h : k < t.size), (t[k]'h).toNat < 128 := fun k h => ht _ (by rw [List.mem_iff_getElem]; exact ⟨k, by simpa using h, rfl⟩)
  go_enter Tryz.func248, Tryz.ntmps248
  go_wp2
  go_loopw [0] (fun v wr => ∃ m, m ≤ s.size ∧ v = .string (s.extract 0 m) ∧ Kept Nowhere w wr ∧ ∀ j (h : j < s.size), m ≤ j → (s[j]'h) ∈ t.data.toList) (fun v _ => match v with | .string u => u.size | _ => 0)
  case atStart => exact ⟨s.size, Nat.le_refl _, by simp, Kept.refl _ _, fun j h hj => by omega⟩
  case round =>
    obtain ⟨m, hm, rfl, hk, hall⟩ := hrel
    have Hall := Lib.hid hall; clear hall
    have hz : (s.extract 0 m).size = m := by rw [ByteArray.size_extract]; omega
    obtain ⟨u, hu⟩ : ∃ u, u = s.extract 0 m := ⟨_, rfl⟩
    have HU := Lib.hid hu
    rw [← hu] at hz ⊢
    clear hu
    by_cases hm0 : 0 < m
    · have HLr := Lib.hid (hL.still hk)
      have hlast : ∃ h : u.size - 1 < u.size, u[u.size - 1]'h = s[m - 1]'(by omega) := HU.out ▸ extract_last s m hm0 hm
      have Hin := Lib.hid (fun hin => last_in (s := u) (t := t) ht (by omega) hin)
      have Hout := Lib.hid (fun hin => last_out (s := u) (t := t) ht (by omega) hin)
      have HLast := Lib.hid hlast; clear hlast
      have hub : u.size ≤ 9223372036854775807 := by omega
      have hcall := Tryz.utf8_DecodeLastRuneInString u wr hub HLr.out.utf
      generalize Lib.decodeLastL u.data.toList = dl at Hin Hout hcall
      obtain ⟨c, wd⟩ := dl
      have HC := Lib.hid hcall; clear hcall hub
      go_wp2_with (go_at_call 316; refine HC.out.mono ?_; rintro e w1 ⟨rfl, hb1⟩)
      have hk1 : Kept Nowhere wr w1 := Kept.of_below hb1
      have hkw : Kept Nowhere w w1 := hk.trans hk1
      go_loopw [7] (fun v wi => ∃ k, wi.heap[w1.heap.size]? = some (.stringIter t k) ∧ Kept Nowhere w1 wi ∧ k ≤ t.size ∧ v = .bool (isIn (t.data.toList.take k) c)) (fun _ wi => t.size - strPos wi w1.heap.size)
      case atStart => exact ⟨0, World.iter_heap _ _ _, (Kept.refl _ _).alloc _, Nat.zero_le _, rfl⟩
      case round =>
        obtain ⟨k, hit2, hk2, hkl, rfl⟩ := hrel
        have hps := strPos_of hit2
        have HPS2 := Lib.hid hps; clear hps
        by_cases hkt : k < t.size
        · have hd := decode_ascii t k hkt (ht' k hkt)
          have h3 := isIn_snoc (t.data.toList.take k) t[k] c
          rw [← take_snoc t k hkt] at h3
          have H3 := Lib.hid h3; clear h3
          generalize isIn (t.data.toList.take k) c = inn at H3
          go_wp2_with (first | (at_next; refine wpList_next_str rfl _ rfl w1.heap.size k t rfl hit2 ?_ ?_))
          intro w3 hit3 hk3
          have hk13 : Kept Nowhere w1 w3 := hk2.andThen hk3 (fun i hi e => by omega)
          cases inn
          · by_cases hcc : c = (t[k]'hkt).toNat
            · go_wp2_with fail
              go_roundw
              case rel => exact ⟨k + 1, hit3, hk13, by omega, by rw [H3.out]; simp [hcc]⟩
              case measure => rw [HPS2.out, strPos_of hit3]; omega
            · have hci : ¬ (c : Int) = ((t[k]'hkt).toNat : Int) := by omega
              go_wp2_with fail
              go_roundw
              case rel => exact ⟨k + 1, hit3, hk13, by omega, by rw [H3.out]; simp [hcc, hci]⟩
              case measure => rw [HPS2.out, strPos_of hit3]; omega
          · go_wp2_with fail
            go_roundw
            case rel => exact ⟨k + 1, hit3, hk13, by omega, by rw [H3.out]; simp⟩
            case measure => rw [HPS2.out, strPos_of hit3]; omega
        · obtain rfl : k = t.size := by omega
          rw [show t.data.toList.take t.size = t.data.toList from List.take_of_length_le (by simp)]
          have hkF : Kept Nowhere w wr := hkw.trans hk2
          obtain ⟨hul, hlast⟩ := HLast.out
          cases hin : isIn t.data.toList c
          · have hout := Hout.out hin
            rw [hlast] at hout
            have HIN := Lib.hid hin; clear hin
            have HOUT := Lib.hid hout; clear hout hlast
            go_wp2_with (first | (at_next; refine wpList_next_str rfl _ rfl w1.heap.size _ t rfl hit2 ?_ ?_))
            go_ret
            exact ⟨_, rfl, Or.inr ⟨by omega, _, by rw [List.mem_iff_getElem]; exact ⟨m - 1, by simpa using by omega, rfl⟩, HOUT.out⟩, hkF⟩
          · have hr := Hin.out hin
            rw [hlast] at hr
            obtain ⟨hr1, hr2⟩ := hr
            subst hr1
            have HIN := Lib.hid hin; clear hin
            have HR := Lib.hid hr2; clear hr2 hlast
            have hb : 0 ≤ (m : Int) - 1 := by omega
            go_wp2_with (first | (at_next; refine wpList_next_str rfl _ rfl w1.heap.size _ t rfl hit2 ?_ ?_))
            have hsz : (u.extract 0 (m - 1)).size = m - 1 := by rw [ByteArray.size_extract]; omega
            refine ⟨⟨m - 1, by omega, ?_, hkF, fun j h hj => ?_⟩, ?_⟩
            · rw [HU.out, ByteArray.extract_extract]
              congr 2; omega
            · by_cases hjm : m ≤ j
              · exact Hall.out j h hjm
              · obtain rfl : j = m - 1 := by omega
                exact HR.out
            · show (u.extract 0 (m - 1)).size < u.size
              omega
    · go_wp2_with fail
      go_ret
      refine ⟨_, rfl, Or.inl ⟨?_, fun j h => Hall.out j h (by omega)⟩, hk⟩
      have : m = 0 := by omega
      rw [HU.out, this]
      simp; rfl

/-- Are a text's bytes all of a set? -/
def allOf (s t : BA) : Bool := s.data.toList.all fun b => t.data.toList.contains b
theorem allOf_iff {s t : BA} : allOf s t = true ↔ ∀ b ∈ s.data.toList, b ∈ t.data.toList := by
  unfold allOf; rw [List.all_eq_true]
  exact ⟨fun h b hb => by simpa using h b hb, fun h b hb => by simpa using h b hb⟩
theorem cuts {s t r q : BA} (h1 : CutL s t r) (h2 : CutR r t q) : q.toList.isEmpty = allOf s t := by
  rcases h1 with ⟨rfl, hall⟩ | ⟨_, _, b, hbr, hbs, hbt⟩
  · have ha : allOf s t = true := allOf_iff.2 fun b hb => by
      obtain ⟨j, h, rfl⟩ := mem_at.1 hb
      exact hall j h
    rw [ha]
    rcases h2 with ⟨rfl, _⟩ | ⟨_, b, hb, _⟩
    · rw [ByteArray.toList_eq]; rfl
    · simp at hb
  · have ha : allOf s t = false := by
      cases h : allOf s t
      · rfl
      · exact absurd (allOf_iff.1 h b hbs) hbt
    rw [ha]
    rcases h2 with ⟨rfl, hall⟩ | ⟨hq, _⟩
    · obtain ⟨j, h, rfl⟩ := mem_at.1 hbr
      exact absurd (hall j h) hbt
    · rw [ByteArray.toList_eq]
      cases hl : q.data.toList with
      | nil =>
        have : q.data.toList.length = q.size := by simp
        rw [hl] at this; simp at this; omega
      | cons _ _ => rfl
/-- May a text be? -/
def ofB (s t : BA) (most : Nat) : Bool := decide (1 ≤ s.size) && decide (s.size ≤ most) && allOf s t
set_option maxRecDepth 100000 in
theorem of_any (w : World) (s t : BA) (most : Nat) (hm : most ≤ 1000) (hsl : s.size ≤ maxLen) (ht : ∀ b ∈ t.data.toList, b.toNat < 128) (hL : Laid w) :
    Calls Tryz.prog 157 #[.string s, .string t, .int .i64 most] w fun e w' => e = .returned (.bool (ofB s t most)) ∧ Kept Nowhere w w' := by
  unfold maxLen at hsl
  by_cases h1 : 1 ≤ s.size
  · by_cases h2 : s.size ≤ most
    · have hcl := Lib.hid (fun W => cutLeft_any W s t ht)
      have hcr := Lib.hid (fun W r (hr : r.size ≤ 1000) hW => cutRight_any W r t hr ht hW)
      have d1 : decide (1 ≤ s.size) = true := by simpa using h1
      have d2 : decide (s.size ≤ most) = true := by simpa using h2
      have HofB := Lib.hid (show ofB s t most = allOf s t by unfold ofB; rw [d1, d2]; simp)
      go_enter Tryz.func157, Tryz.ntmps157
      go_wp2_with (go_at_call 249; refine (hcl.out _).mono ?_; rintro e w1 ⟨r, rfl, hr, hk1⟩)
      have hrl : r.size ≤ 1000 := by
        rcases hr with ⟨rfl, _⟩ | ⟨_, h, _⟩
        · show (0 : Nat) ≤ 1000
          omega
        · omega
      have HR := Lib.hid hr; clear hr
      go_wp2_with (go_at_call 248; refine (hcr.out _ r hrl (hL.still hk1)).mono ?_; rintro e w2 ⟨q, rfl, hq, hk2⟩)
      go_ret
      exact ⟨by rw [HofB.out, ← cuts HR.out hq]; rfl, hk1.trans hk2⟩
    · have d2 : decide (s.size ≤ most) = false := by simpa using h2
      have hlt : most < s.size := by omega
      have HofB := Lib.hid (show ofB s t most = false by unfold ofB; rw [d2]; simp)
      clear h2 d2
      go_enter Tryz.func157, Tryz.ntmps157
      go_wp2_with fail
      go_ret
      exact ⟨by rw [HofB.out]; rfl, Kept.refl _ _⟩
  · have h0 : s.size = 0 := by omega
    have HofB := Lib.hid (show ofB s t most = false by unfold ofB; simp [h0])
    have hlt : s.size < 1 := by omega
    clear h0 h1
    go_enter Tryz.func157, Tryz.ntmps157
    go_wp2_with fail
    go_ret
    exact ⟨by rw [HofB.out]; rfl, Kept.refl _ _⟩

/-- The sets: letters, and letters with '/'. -/
def lettersS : BA := ⟨#[97, 98, 99, 100, 101, 102, 103, 104, 105, 106, 107, 108, 109, 110, 111, 112, 113, 114, 115, 116, 117, 118, 119, 120, 121, 122]⟩
def slashedS : BA := ⟨#[97, 98, 99, 100, 101, 102, 103, 104, 105, 106, 107, 108, 109, 110, 111, 112, 113, 114, 115, 116, 117, 118, 119, 120, 121, 122, 47]⟩
def trimmed (d : BA) : Bool := decide ((⟨(Lib.trimB d.data.toList 47).toArray⟩ : BA) = d)
/-- May an account, a denom be? -/
def accB (a : BA) : Bool := ofB a lettersS 16
def denB (d : BA) : Bool := ofB d slashedS 40 && trimmed d
/-- What check answers. -/
def checkV (d : BA) (n : Nat) (accs : List BA) : Int := if !(denB d && accs.all accB) then 183 else if n = 0 then 1 else 0
set_option maxRecDepth 100000 in
set_option maxHeartbeats 800000 in
theorem check_any (w : World) (p : Nat) (d : BA) (n : Nat) (accs : List BA) (r cap : Nat) (hn : accs.length ≤ 2) (hd : d.size ≤ maxLen) (ha : ∀ a ∈ accs, a.size ≤ maxLen) (hL : Laid w)
    (hc : ∀ j a, accs[j]? = some a → w.cell? ⟨r, j, none⟩ = some (.string a)) (hr : r < w.heap.size) :
    Calls Tryz.prog 87 #[ptr p, .string d, u64V n, .slice (some ⟨r, 0, none⟩) accs.length cap] w fun e w' => e = .returned (.int .i64 (checkV d n accs)) ∧ Kept Nowhere w w' := by
  have ofD := Lib.hid (fun W hW => of_any W d slashedS 40 (by omega) hd (by decide) hW)
  have ofA := Lib.hid (fun a (hm : a ∈ accs) W hW => of_any W a lettersS 16 (by omega) (ha a hm) (by decide) hW)
  have htr : Hid (∀ W, ∃ q : BA, trimmed d = decide (q = d) ∧ Calls Tryz.prog 158 #[.string d, .string ⟨#[47]⟩] W fun e w' => e = .returned (.string q) ∧ Kept Nowhere W w') := fun W =>
    ⟨_, rfl, (Tryz.strings_Trim_one d 47 (by decide) W (by unfold maxLen at hd; omega)).mono fun e w' ⟨he, hw⟩ => ⟨he, by rcases hw with rfl | rfl; exact Kept.refl _ _; exact (Kept.refl _ _).drew⟩⟩
  have HC := Lib.hid hc; clear hc
  have HA := Lib.hid ha; clear ha
  obtain ⟨od, hod⟩ : ∃ od, ofB d slashedS 40 = od := ⟨_, rfl⟩
  have hden : denB d = (od && trimmed d) := by unfold denB; rw [hod]
  rw [hod] at ofD
  clear hod
  have hall : ∃ v, checkV d n accs = v := ⟨_, rfl⟩
  obtain ⟨V, hV⟩ := hall
  have hv : V = if !(denB d && accs.all accB) then 183 else if n = 0 then 1 else 0 := hV ▸ rfl
  rw [hV]
  clear hV
  have HV := Lib.hid hv; clear hv
  go_enter Tryz.func87, Tryz.ntmps87
  go_wp2_with fail
  refine (ofD.out w hL).mono ?_
  rintro e w1 ⟨rfl, hk1⟩
  have hL1 := hL.still hk1
  cases od
  case' true =>
    obtain ⟨q, hq, hcall⟩ := htr.out w1
    rw [hq] at hden
    have HD := Lib.hid hden; clear hden hq
    have HT := Lib.hid hcall; clear hcall
    go_wp2_with (go_at_call 158; refine HT.out.mono ?_; rintro e w2 ⟨rfl, hk2⟩)
    replace hk1 := hk1.trans hk2
    rw [bytes_beq_iff, show decide (q = d) = denB d by rw [HD.out]; simp]
    clear HT hk2 hL1
    clear HD
  case' false =>
    have HD := Lib.hid hden; clear hden
    go_wp2_with fail
  all_goals
    go_loopw [9, 24] (fun v i wr => ∃ k : Nat, k ≤ accs.length ∧ i = .int .i64 k ∧ v = .bool (denB d && (accs.take k).all accB) ∧ Kept Nowhere w wr) (fun _ i _ => accs.length - (intOf i).toNat)
    case atStart => exact ⟨0, Nat.zero_le _, rfl, by first | (rw [List.take_zero, List.all_nil, Bool.and_true]; done) | (rw [List.take_zero, List.all_nil, Bool.and_true, HD.out]; rfl), hk1⟩
    case round =>
      obtain ⟨k, hk, rfl, rfl, hkw⟩ := hrel
      by_cases hlt : k < accs.length
      · obtain ⟨a, hka⟩ : ∃ a, accs[k]? = some a := ⟨_, List.getElem?_eq_getElem hlt⟩
        have hcell : wr.cell? ⟨r, k, none⟩ = some (.string a) := (hkw.cell (p := ⟨r, k, none⟩) hr id).trans (HC.out k a hka)
        have hsn : (denB d && (accs.take (k + 1)).all accB) = ((denB d && (accs.take k).all accB) && accB a) := by
          rw [List.take_add_one, hka]; simp [Bool.and_assoc]
        have HS := Lib.hid hsn; clear hsn
        have hofa := ofA.out a (List.mem_of_getElem? hka) wr (hL.still hkw)
        rw [show ofB a lettersS 16 = accB a from rfl] at hofa
        have HO := Lib.hid hofa; clear hofa
        clear hka
        generalize (denB d && (accs.take k).all accB) = ok at HS
        cases ok
        · go_wp2_with fail
          go_roundw
          case rel => exact ⟨k + 1, by omega, by go_num, by rw [HS.out]; rfl, hkw⟩
          case measure => simp [intOf]; omega
        · go_wp2_with (go_at_call 157; refine HO.out.mono ?_; rintro e w2 ⟨rfl, hk2⟩)
          go_roundw
          case rel => exact ⟨k + 1, by omega, by go_num, by rw [HS.out]; rfl, hkw.trans hk2⟩
          case measure => simp [intOf]; omega
      · obtain rfl : k = accs.length := by omega
        rw [List.take_length]
        have hv := HV.out
        generalize (denB d && accs.all accB) = ok at hv
        cases ok
        · have HV2 := Lib.hid (show V = 183 from hv); clear hv
          go_wp2_with fail
          go_ret
          exact ⟨by rw [HV2.out]; rfl, hkw⟩
        · by_cases hn0 : n = 0
          · have HV2 := Lib.hid (show V = 1 by rw [hv]; simp [hn0]); clear hv
            subst hn0
            go_wp2_with fail
            go_ret
            exact ⟨by rw [HV2.out]; rfl, hkw⟩
          · have HV2 := Lib.hid (show V = 0 by rw [hv]; simp [hn0]); clear hv
            have hnn : ((n : Int) == 0) = false := by simp; omega
            go_wp2_with fail
            go_ret
            exact ⟨by rw [HV2.out]; rfl, hkw⟩
theorem check_nil (w : World) (d : BA) (n : Nat) (v : Value) :
    Calls Tryz.prog 87 #[.pointer none, .string d, u64V n, v] w fun e w' => e = .returned (.int .i64 1) ∧ w = w' := by
  go_enter Tryz.func87, Tryz.ntmps87
  go_wp2_with fail
  go_ret
  exact ⟨rfl, rfl⟩
end Go.Proofs.YtlaahjcdbdipdaaGreatDoor
