/- From a row's readings to the walks' facts: acts, scripts of acts, the library's tables. -/
import Derived.Test.YtjghnfnlhmhmkaaDoorNilWalk
import Derived.Test.YtjghnfnlhmhmkaaDoorCards
import Derived.Test.YtjghnfnlhmhmkaaDoorTie
import Derived.ProofKit
import Derived.Deep.Slices
import Derived.Deep.Fields
import Derived.ChangeSame
import Derived.Lib.SmallJoins
import Derived.Lib.LaidU8T
import Derived.PinnedBridge
import Derived.Lay
import Derived.LaidOnce
import Derived.SevenTiedAt
namespace Go.Proofs.YtjghnfnlhmhmkaaDoor
open Go Go.RowKit Go.MapKept Go.ChangeShapes Go.WideShapes Go.ChangeAt Go.Deep Go.Lib

/-! ### the tables -/
theorem u8Types : U8Types Tryd.prog Tryd.lays271_ren := U8Types.of260 { Tryd.lays271 with }
theorem u8Extra : U8Extra Tryd.prog Tryd.lays271_ren := ⟨by kernel_rfl, by kernel_rfl, by kernel_rfl, by kernel_rfl, by kernel_rfl, by kernel_rfl, by kernel_rfl⟩
theorem powCells : Tryd.prog.cellsOf 103 = 20 := by kernel_rfl
theorem u64Cells : Tryd.prog.cellsOf 26 = 1 := by kernel_rfl
theorem powType : (Tryd.prog.globals[0]?).map (·.type) = some 103 := by kernel_rfl
/-- The list of tables that every row of this seat bears. -/
abbrev laidAll : List (String × DataW Unit) := [("math/bits.deBruijn32tab", Rows.laid_math_bits_deBruijn32tab), ("math/bits.deBruijn64tab", Rows.laid_math_bits_deBruijn64tab), ("internal/strconv.uint64pow10", Rows.laid_internal_strconv_uint64pow10), ("unicode/utf8.acceptRanges", Rows.laid_unicode_utf8_acceptRanges), ("unicode/utf8.first", Rows.laid_unicode_utf8_first)]
theorem powData : (Rows.laid_internal_strconv_uint64pow10 : DataW Unit) = tabData .u64 pow10Tab := by kernel_rfl
theorem acceptIs : (Rows.laid_unicode_utf8_acceptRanges : DataW Unit) = acceptData := by kernel_rfl
theorem laid_of {W : World} (h : laidMet Tryd.prog laidAll W) : Laid W := by
  have h1 : Utf8Tabs 3 4 W := by
    have r1 := laidMet.reads h (n := "unicode/utf8.first") (d := Rows.laid_unicode_utf8_first) (by simp)
    have r2 := laidMet.reads h (n := "unicode/utf8.acceptRanges") (d := Rows.laid_unicode_utf8_acceptRanges) (by simp)
    rw [show (Rows.laid_unicode_utf8_first : DataW Unit) = firstData from Pinned.utf8First_eq] at r1
    rw [acceptIs] at r2
    exact utf8Tabs_of_readsT u8Types u8Extra r1 r2
  have h2 : TabIs Tryd.prog W "internal/strconv.uint64pow10" .u64 pow10Tab := by
    have hp := laidMet.reads h (n := "internal/strconv.uint64pow10") (d := Rows.laid_internal_strconv_uint64pow10) (by simp)
    rw [powData] at hp
    obtain ⟨g', t', cs, fuel, p, hg', ht', hvar, hd⟩ := hp
    obtain rfl := Option.some.inj (powGlobal.symm.trans hg')
    obtain rfl := Option.some.inj (powType.symm.trans ht')
    unfold TabIs
    rw [hvar, ← cells_of_tab Tryd.underlying103 Tryd.underlying26 u64Cells powCells hd]
  refine ⟨h1, h2, ?_⟩
  have e1 := World.block_lt_of_cell? W _ (h1.1 0 (by decide))
  have e2 := World.block_lt_of_cell? W _ (h1.2 0 (by decide)).1
  have e3 := World.block_lt_of_cell? W _ (h2.cell powGlobal 0 (by decide))
  simp only at e1 e2 e3
  omega

/-! ### an act, by value -/
theorem list5 {α : Type} : ∀ {l : List α}, l.length = 5 → ∃ a b c d e, l = [a, b, c, d, e]
  | [a, b, c, d, e], _ => ⟨a, b, c, d, e, rfl⟩
  | [], h => by simp at h
  | [_], h => by simp at h
  | [_, _], h => by simp at h
  | [_, _, _], h => by simp at h
  | [_, _, _, _], h => by simp at h
  | _ :: _ :: _ :: _ :: _ :: _ :: _, h => by simp at h
theorem actFields : ∃ f0 f1 f2 f3 f4 : Field, Tryd.prog.underlying 28 = some (.struct #[f0, f1, f2, f3, f4]) ∧ f0.type = 3 ∧ f1.type = 9 ∧ f2.type = 9 ∧ f3.type = 9 ∧ f4.type = 26 ∧ oneCellFields Tryd.prog #[f0, f1, f2, f3, f4] = true :=
  ⟨_, _, _, _, _, Tryd.underlying28, rfl, rfl, rfl, rfl, rfl, by kernel_rfl⟩
theorem actCells : Tryd.prog.cellsOf 28 = 5 := by kernel_rfl
section
variable {H : Type} {enc : TypeId × Value → H} {w : World} {base : Nat} {spare : Nat → Bool} {held : Bool}
theorem nat_of_u64 {n : Int} (h : (Lit.int .u64 n).wf = true) : ∃ m : Nat, n = m ∧ m ≤ top64 := by
  have : 0 ≤ n ∧ n ≤ 18446744073709551615 := by simpa [Lit.wf, IntKind.min, IntKind.max, IntKind.signed, IntKind.bits] using h
  exact ⟨n.toNat, by omega, by unfold top64; omega⟩
/-- Five cells that read as an act's fields are an act's. -/
theorem act_of_cells {n : Nat} {c0 c1 c2 c3 c4 : Value} {y0 y1 y2 y3 y4 : DataW H × List MemPlace} (h0 : DataW.trod enc Tryd.prog w base spare held n 3 [c0] = some y0) (h1 : DataW.trod enc Tryd.prog w base spare held n 9 [c1] = some y1)
    (h2 : DataW.trod enc Tryd.prog w base spare held n 9 [c2] = some y2) (h3 : DataW.trod enc Tryd.prog w base spare held n 9 [c3] = some y3) (h4 : DataW.trod enc Tryd.prog w base spare held n 26 [c4] = some y4) :
    ∃ a : ActS, [c0, c1, c2, c3, c4] = a.cells ∧ a.Fit := by
  obtain ⟨k, e0, -, _⟩ := DataW.trod_int Tryd.underlying3 h0
  obtain ⟨s1, e1, -, b1⟩ := DataW.trod_string Tryd.underlying9 h1
  obtain ⟨s2, e2, -, b2⟩ := DataW.trod_string Tryd.underlying9 h2
  obtain ⟨s3, e3, -, b3⟩ := DataW.trod_string Tryd.underlying9 h3
  obtain ⟨n, e4, -, b4⟩ := DataW.trod_int Tryd.underlying26 h4
  obtain ⟨m, rfl, hm⟩ := nat_of_u64 b4
  simp only [List.cons.injEq, and_true] at e0 e1 e2 e3 e4
  subst e0; subst e1; subst e2; subst e3; subst e4
  exact ⟨⟨k, s1, s2, s3, m⟩, rfl, b1, b2, b3, hm⟩
set_option maxRecDepth 100000 in
theorem open_act {r : Reach} {b0 : Nat} {v : Value} {d : DataW H} {p : List MemPlace} (hv : Value.okWide Tryd.prog w r b0 28 v) (h : DataW.Trod enc Tryd.prog w base spare held 28 v d p) : ∃ a : ActS, v = .agg a.cells.toArray ∧ a.Fit := by
  obtain ⟨f0, f1, f2, f3, f4, hs, t0, t1, t2, t3, t4, hone⟩ := actFields
  obtain ⟨cs, rfl, hsz⟩ := okWide_struct hs hv
  obtain ⟨l⟩ := cs
  have hl : l.length = 5 := hsz.trans actCells
  obtain ⟨c0, c1, c2, c3, c4, rfl⟩ := list5 hl
  obtain ⟨fuel, hf⟩ := h
  obtain ⟨xs, n, _, hx, _, hlen, hg⟩ := DataW.trod_struct hs hf
  obtain ⟨o0, k0⟩ := hone_of hone 0 f0 rfl
  obtain ⟨o1, k1⟩ := hone_of hone 1 f1 rfl
  obtain ⟨o2, k2⟩ := hone_of hone 2 f2 rfl
  obtain ⟨o3, k3⟩ := hone_of hone 3 f3 rfl
  obtain ⟨o4, k4⟩ := hone_of hone 4 f4 rfl
  have hxl : xs.length = 5 := hlen
  obtain ⟨y0, y1, y2, y3, y4, rfl⟩ := list5 hxl
  have g0 := hg 0 f0 rfl
  have g1 := hg 1 f1 rfl
  have g2 := hg 2 f2 rfl
  have g3 := hg 3 f3 rfl
  have g4 := hg 4 f4 rfl
  simp only [Value.cells, o0, o1, o2, o3, o4, k0, k1, k2, k3, k4, List.drop_zero, List.drop_succ_cons, List.take_succ_cons, List.take_zero, List.getElem?_cons_zero, List.getElem?_cons_succ] at g0 g1 g2 g3 g4
  rw [t0] at g0; rw [t1] at g1; rw [t2] at g2; rw [t3] at g3; rw [t4] at g4
  obtain ⟨a, ha, hfit⟩ := act_of_cells g0 g1 g2 g3 g4
  exact ⟨a, by rw [← ha], hfit⟩
end
end Go.Proofs.YtjghnfnlhmhmkaaDoor
