/- From a row's readings to the walks' facts: transactions, the library's tables. -/
import Derived.Test.YtlaahjcdbdipdaaGreatDoorRunTx
import Derived.Test.YtlaahjcdbdipdaaGreatDoorCards
import Derived.Test.YtlaahjcdbdipdaaGreatDoorTie
import Derived.ProofKit
import Derived.Deep.Slices
import Derived.Deep.Fields
import Derived.ChangeSame
import Derived.Lib.SmallJoins
import Derived.Lib.LaidU8T
import Derived.PinnedBridge
import Derived.Lay
import Derived.LaidOnce
import Derived.Deep.SlicePairs
import Derived.Laws.Cover2
import Derived.SizedLaws
import Derived.SevenTiedAt
namespace Go.Proofs.YtlaahjcdbdipdaaGreatDoor
open Go Go.RowKit Go.MapKept Go.ChangeShapes Go.WideShapes Go.ChangeAt Go.Deep Go.Lib

/-! ### the tables -/
theorem u8Types : U8Types Tryz.prog Tryz.lays271_ren := U8Types.of260 { Tryz.lays271 with }
theorem u8Extra : U8Extra Tryz.prog Tryz.lays271_ren := ⟨by kernel_rfl, by kernel_rfl, by kernel_rfl, by kernel_rfl, by kernel_rfl, by kernel_rfl, by kernel_rfl⟩
theorem powCells : Tryz.prog.cellsOf 383 = 20 := by kernel_rfl
theorem u64Cells : Tryz.prog.cellsOf 23 = 1 := by kernel_rfl
theorem powType : (Tryz.prog.globals[1]?).map (·.type) = some 383 := by kernel_rfl
/-- The list of tables that every row of this seat bears. -/
abbrev laidAll : List (String × DataW Unit) := [("math/bits.deBruijn32tab", Rows.laid_math_bits_deBruijn32tab), ("math/bits.deBruijn64tab", Rows.laid_math_bits_deBruijn64tab), ("internal/strconv.uint64pow10", Rows.laid_internal_strconv_uint64pow10), ("nuncio/blake.roots", Rows.laid_nuncio_blake_roots), ("unicode/utf8.acceptRanges", Rows.laid_unicode_utf8_acceptRanges), ("bytes.ErrTooLarge", Rows.laid_bytes_ErrTooLarge), ("unicode/utf8.first", Rows.laid_unicode_utf8_first)]
theorem powData : (Rows.laid_internal_strconv_uint64pow10 : DataW Unit) = tabData .u64 pow10Tab := by kernel_rfl
theorem acceptIs : (Rows.laid_unicode_utf8_acceptRanges : DataW Unit) = acceptData := by kernel_rfl
theorem laid_of {W : World} (h : laidMet Tryz.prog laidAll W) : Laid W := by
  have h1 : Utf8Tabs 6 7 W := by
    have r1 := laidMet.reads h (n := "unicode/utf8.first") (d := Rows.laid_unicode_utf8_first) (by simp)
    have r2 := laidMet.reads h (n := "unicode/utf8.acceptRanges") (d := Rows.laid_unicode_utf8_acceptRanges) (by simp)
    rw [show (Rows.laid_unicode_utf8_first : DataW Unit) = firstData from Pinned.utf8First_eq] at r1
    rw [acceptIs] at r2
    exact utf8Tabs_of_readsT u8Types u8Extra r1 r2
  have h2 : TabIs Tryz.prog W "internal/strconv.uint64pow10" .u64 pow10Tab := by
    have hp := laidMet.reads h (n := "internal/strconv.uint64pow10") (d := Rows.laid_internal_strconv_uint64pow10) (by simp)
    rw [powData] at hp
    obtain ⟨g', t', cs, fuel, p, hg', ht', hvar, hd⟩ := hp
    obtain rfl := Option.some.inj (powGlobal.symm.trans hg')
    obtain rfl := Option.some.inj (powType.symm.trans ht')
    unfold TabIs
    rw [hvar, ← cells_of_tab Tryz.underlying383 Tryz.underlying23 u64Cells powCells hd]
  refine ⟨h1, h2, ?_⟩
  have e1 := World.block_lt_of_cell? W _ (h1.1 0 (by decide))
  have e2 := World.block_lt_of_cell? W _ (h1.2 0 (by decide)).1
  have e3 := World.block_lt_of_cell? W _ (h2.cell powGlobal 0 (by decide))
  simp only at e1 e2 e3
  omega

/-! ### a transaction, by value -/
theorem nat_of_u64 {n : Int} (h : (Lit.int .u64 n).wf = true) : ∃ m : Nat, n = m ∧ m ≤ top64 := by
  have : 0 ≤ n ∧ n ≤ 18446744073709551615 := by simpa [Lit.wf, IntKind.min, IntKind.max, IntKind.signed, IntKind.bits] using h
  exact ⟨n.toNat, by omega, by unfold top64; omega⟩
theorem int_of_i64 {n : Int} (h : (Lit.int .i64 n).wf = true) : -9223372036854775808 ≤ n ∧ n ≤ 9223372036854775807 := by
  simpa [Lit.wf, IntKind.min, IntKind.max, IntKind.signed, IntKind.bits] using h
theorem cell_spot {w : World} {a : Addr} {v : Value} (h : w.cell? a = some v) : a.spot = none := by
  unfold World.cell? at h
  split at h
  · split at h
    · cases h
    · rename_i hs; cases hh : a.spot <;> simp_all
  · cases h
set_option maxRecDepth 100000 in
theorem one_of_ok {w : World} {r : Reach} {b0 : Nat} {u : TypeId} {v : Value} (h : Cell.okWide Tryz.prog w r b0 u v) : v.oneCell' = true := by
  cases v <;> first | rfl | (exfalso; unfold Cell.okWide Cell.ok at h; split at h <;> simp_all)
theorem drop_one {l : List Value} {j : Nat} {v : Value} (h : (l.drop j).take 1 = [v]) : l[j]? = some v := by
  have := congrArg (fun m : List Value => m[0]?) h
  simpa [List.getElem?_take] using this
set_option maxRecDepth 100000 in
theorem txFields : ∃ f0 f1 f2 f3 f4 f5 f6 f7 f8 f9 f10 f11 : Field, Tryz.prog.underlying 63 = some (.struct #[f0, f1, f2, f3, f4, f5, f6, f7, f8, f9, f10, f11]) ∧
    (f0.type = 56 ∧ f0.offset = 0) ∧ (f1.type = 9 ∧ f1.offset = 1) ∧ (f2.type = 9 ∧ f2.offset = 2) ∧ (f3.type = 9 ∧ f3.offset = 3) ∧ (f4.type = 23 ∧ f4.offset = 4) ∧ (f11.type = 22 ∧ f11.offset = 214) :=
  ⟨_, _, _, _, _, _, _, _, _, _, _, _, Tryz.underlying63, ⟨rfl, rfl⟩, ⟨rfl, rfl⟩, ⟨rfl, rfl⟩, ⟨rfl, rfl⟩, ⟨rfl, rfl⟩, ⟨rfl, rfl⟩⟩
theorem valFields : ∃ f0 f1 : Field, Tryz.prog.underlying 100 = some (.struct #[f0, f1]) ∧ (f0.type = 23 ∧ f0.offset = 0) ∧ (f1.type = 3 ∧ f1.offset = 1) :=
  ⟨_, _, Tryz.underlying100, ⟨rfl, rfl⟩, ⟨rfl, rfl⟩⟩
theorem txCells : Tryz.prog.cellsOf 63 = 215 := by kernel_rfl
theorem kindCells : Tryz.prog.cellsOf 56 = 1 := by kernel_rfl
theorem strCells : Tryz.prog.cellsOf 9 = 1 := by kernel_rfl
theorem intCells : Tryz.prog.cellsOf 3 = 1 := by kernel_rfl
theorem valsCells : Tryz.prog.cellsOf 22 = 1 := by kernel_rfl
theorem valCells : Tryz.prog.cellsOf 100 = 2 := by kernel_rfl
theorem valBytes : Tryz.prog.bytesOf 100 = 16 := by kernel_rfl
section
variable {H : Type} {enc : TypeId × Value → H} {w : World} {base : Nat} {spare : Nat → Bool} {held : Bool}
/-- A row of validators that came in. -/
theorem open_vals {fuel : Nat} {v : Value} {x : DataW H × List MemPlace} (h : DataW.trod enc Tryz.prog w base spare held fuel 22 [v] = some x) (hz : ∀ n ∈ x.1.weights Tryz.prog 22, n ≤ reachBytes) :
    ∃ l : List Val, ValsAt w v l ∧ (l.length + 65) * 16 ≤ 140737488355328 := by
  obtain ⟨f0, f1, hs, ⟨t0, o0⟩, t1, o1⟩ := valFields
  rcases open_slice_pairs Tryz.underlying22 hs valCells o0 o1 (by rw [t0]; exact u64Cells) (by rw [t1]; exact intCells) h with ⟨hcs, _⟩ | ⟨a, len, cap, m, n, V0, V1, D0, D1, P0, P1, hcs, hb, hl, hm, hmm, hx, hi⟩
  · cases hcs
    exact ⟨[], ⟨none, 0, rfl, Nat.zero_le _, Nat.le_refl _, fun i x hx => by simp at hx⟩, by decide⟩
  · obtain rfl : v = .slice (some a) len cap := by simpa using hcs
    have hlm : len ≤ m := by rw [hmm]; split <;> omega
    have hb1 : (len + (m - len)) * 16 ≤ 140737488351232 := by
      have := hz ((len + (m - len)) * Tryz.prog.bytesOf 100) (by rw [hx]; simp [DataW.weights, Tryz.underlying22])
      rw [valBytes] at this
      exact this
    have hel : ∀ i, i < len → ∃ y : Val, y.Fit ∧ w.cell? (a.add (i * 2)) = some (u64V y.1) ∧ w.cell? (a.add (i * 2 + 1)) = some (i64V y.2) := fun i hil => by
      obtain ⟨c0, c1, d0, d1⟩ := hi i (by omega)
      rw [t0] at d0
      rw [t1] at d1
      obtain ⟨k, e0, -, b0⟩ := DataW.trod_int Tryz.underlying23 d0
      obtain ⟨q, e1, -, b1⟩ := DataW.trod_int Tryz.underlying3 d1
      obtain ⟨mk, rfl, hmk⟩ := nat_of_u64 b0
      simp only [List.cons.injEq, and_true] at e0 e1
      rw [e0] at c0
      rw [e1] at c1
      exact ⟨(mk, q), ⟨hmk, int_of_i64 b1⟩, c0, c1⟩
    obtain ⟨f, hf⟩ := choose_lt hel
    refine ⟨(List.range len).map f, ⟨some a, cap, by simp, by simp; omega, by simp; omega, fun i x hx => ?_⟩, by simp; omega⟩
    rw [List.getElem?_map, Option.map_eq_some_iff] at hx
    obtain ⟨i', hi', rfl⟩ := hx
    obtain ⟨hi1, hi2⟩ := List.getElem?_eq_some_iff.1 hi'
    rw [List.getElem_range] at hi2
    subst hi2
    rw [List.length_range] at hi1
    obtain ⟨hfit, c0, c1⟩ := hf i hi1
    have z0 := (hf 0 (by omega)).2.1
    have hsp := cell_spot z0
    have hblk := World.block_lt_of_cell? w _ z0
    obtain ⟨g, o, sp⟩ := a
    have : sp = none := by simpa [Addr.add] using hsp
    subst this
    have hblk : g < w.heap.size := by simpa [Addr.add] using hblk
    rw [add_none] at c0 c1
    rw [← Nat.add_assoc] at c1
    exact ⟨hfit, g, o, rfl, hblk, c0, c1⟩
set_option maxRecDepth 100000 in
theorem open_tx {r : Reach} {b0 : Nat} {v : Value} {d : DataW H} {p : List MemPlace} (hv : Value.okWide Tryz.prog w r b0 63 v) (h : DataW.Trod enc Tryz.prog w base spare held 63 v d p) (hz : ∀ n ∈ d.weights Tryz.prog 63, n ≤ reachBytes) :
    ∃ (t : TxS) (chs : List Val), v = .agg t.cells.toArray ∧ t.Ok ∧ ValsAt w t.chv chs ∧ (chs.length + 65) * 16 ≤ 140737488355328 := by
  obtain ⟨f0, f1, f2, f3, f4, f5, f6, f7, f8, f9, f10, f11, hs, ⟨t0, o0⟩, ⟨t1, o1⟩, ⟨t2, o2⟩, ⟨t3, o3⟩, ⟨t4, o4⟩, t11, o11⟩ := txFields
  unfold Value.okWide at hv
  rw [hs] at hv
  obtain ⟨cs, rfl, hsz, ts, _, _, hrow⟩ := hv
  obtain ⟨l⟩ := cs
  have hl : l.length = 215 := hsz.trans txCells
  have hone : ∀ c ∈ l, c.oneCell' = true := fun c hc => by
    obtain ⟨i, hi, rfl⟩ := List.getElem_of_mem hc
    obtain ⟨u, _, hu⟩ := hrow i l[i] (by simp [hi])
    exact one_of_ok hu
  obtain ⟨fuel, hf⟩ := h
  obtain ⟨xs, n, _, hx, _, hlen, hg⟩ := DataW.trod_struct hs hf
  have hxl : xs.length = 12 := hlen
  have key : ∀ (i : Nat) (f : Field) (u : TypeId) (j : Nat), (#[f0, f1, f2, f3, f4, f5, f6, f7, f8, f9, f10, f11] : Array Field)[i]? = some f → f.type = u → f.offset = j → Tryz.prog.cellsOf u = 1 → i < 12 → j < 215 → ∃ (c : Value) (y : DataW H × List MemPlace), l[j]? = some c ∧ xs[i]? = some y ∧ DataW.trod enc Tryz.prog w base spare held n u [c] = some y := fun i f u j hfi hu hj hc hi hj215 => by
    have := hg i f hfi
    rw [hu, hj, hc] at this
    have hb : xs[i]? = some xs[i] := List.getElem?_eq_getElem (by omega)
    rw [hb] at this
    have hne : ∃ c, (l.drop j).take 1 = [c] := by
      have e1 : ((l.drop j).take 1).length = 1 := by simp; omega
      exact List.length_eq_one_iff.1 e1
    obtain ⟨c, hcc⟩ := hne
    exact ⟨c, xs[i], drop_one hcc, hb, by simpa [Value.cells, hcc] using this⟩
  obtain ⟨c0, y0, g0, -, d0⟩ := key 0 f0 _ 0 rfl t0 o0 kindCells (by omega) (by omega)
  obtain ⟨c1, y1, g1, -, d1⟩ := key 1 f1 _ 1 rfl t1 o1 strCells (by omega) (by omega)
  obtain ⟨c2, y2, g2, -, d2⟩ := key 2 f2 _ 2 rfl t2 o2 strCells (by omega) (by omega)
  obtain ⟨c3, y3, g3, -, d3⟩ := key 3 f3 _ 3 rfl t3 o3 strCells (by omega) (by omega)
  obtain ⟨c4, y4, g4, -, d4⟩ := key 4 f4 _ 4 rfl t4 o4 u64Cells (by omega) (by omega)
  obtain ⟨c11, y11, g11, m11, d11⟩ := key 11 f11 _ 214 rfl t11 o11 valsCells (by omega) (by omega)
  obtain ⟨k, e0, -, _⟩ := DataW.trod_int Tryz.underlying56 d0
  obtain ⟨s1, e1, -, b1⟩ := DataW.trod_string Tryz.underlying9 d1
  obtain ⟨s2, e2, -, b2⟩ := DataW.trod_string Tryz.underlying9 d2
  obtain ⟨s3, e3, -, b3⟩ := DataW.trod_string Tryz.underlying9 d3
  obtain ⟨q, e4, -, b4⟩ := DataW.trod_int Tryz.underlying23 d4
  obtain ⟨am, rfl, ham⟩ := nat_of_u64 b4
  simp only [List.cons.injEq, and_true] at e0 e1 e2 e3 e4
  subst e0; subst e1; subst e2; subst e3; subst e4
  have hd : d = .agg (xs.map (·.1)) := congrArg Prod.fst hx
  obtain ⟨chs, hvals, hbig⟩ := open_vals d11 (fun n hn => hz n (by
    rw [hd]
    simp only [DataW.weights, hs]
    exact DataW.weights_mem_each (j := 11) (t := 22) (d := y11.1) (by simp [t11]) (by rw [List.getElem?_map, m11]; rfl) n hn))
  exact ⟨⟨l, k, s1, s2, s3, am, c11⟩, chs, rfl, ⟨hl, hone, g0, g1, g2, g3, g4, g11, b1, b2, b3, ham⟩, hvals, hbig⟩
end
end Go.Proofs.YtlaahjcdbdipdaaGreatDoor
