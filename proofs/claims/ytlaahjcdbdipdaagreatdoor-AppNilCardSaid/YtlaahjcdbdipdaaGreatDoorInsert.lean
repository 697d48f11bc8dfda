/- A validator put into a row of one's own: the contract of slices.Insert at validators. -/
import Derived.Test.YtlaahjcdbdipdaaGreatDoorDelete
import Derived.Lib.Overlaps
import Derived.Lib.AppendZerosOnto
import Derived.Laws.Externs
import Derived.Laws.NewBlocks
namespace Go.Proofs.YtlaahjcdbdipdaaGreatDoor
open Go Go.RowKit Go.MapKept Go.ChangeMaps

section
variable {P : Program}
/-- copy, at elements of k cells: all is read ahead of what is written. -/
theorem run_copy_k (w : World) (dT sT ty elem : TypeId) (k b o dLen dCap : Nat) (a : Addr) (sLen sCap : Nat) (cs : List Value)
    (hu : P.underlying dT = some (.slice elem)) (hs : (P.info? elem).map (·.size) = some k) (hn : cs.length = Nat.min sLen dLen * k)
    (hsrc : ∀ j v, cs[j]? = some v → w.cell? (a.add j) = some v) (hc : ∀ j, j < cs.length → (w.cell? ⟨b, o + j, none⟩).isSome = true) (hf : ∀ j, j < cs.length → w.frozen? ⟨b, o + j, none⟩ = false) (h1 : ∀ v ∈ cs, v.oneCell' = true) :
    (Builtin.copy_ #[dT, sT] ty #[.slice (some ⟨b, o, none⟩) dLen dCap, .slice (some a) sLen sCap]).run P w = .ok (goInt (Nat.min sLen dLen)) (w.setCells b o cs) := by
  have hl := run_loadCells_list (P := P) w a cs hsrc
  have hst := run_storeCells_cells (P := P) b o cs 0 w (by simpa using hc) (by simpa using hf) h1
  cases hq : P.info? elem with
  | none => simp [hq] at hs
  | some i =>
    have hi : i.size = k := by simpa [hq] using hs
    simp [Builtin.copy_, run_underlying hu, Builtin.lenOf, Builtin.firstCells, sizeOf, typeInfo, hq, hi, ← hn, hl, hst]
/-- The operation copy, where its run is known: as a step of a region that draws; in a plain list. -/
theorem step_copy_known {ops : Array Oper} {o : Oper} {a : Act} {w : World} {K : Act → World → Prop} {Q : Exit → Act → World → Prop} {R : Prop}
    (hg : o.guard = none) (d x : Operand) (t : TypeId) (hop : o.op = .call { callee := .builtin .copy, args := #[d, x], argTypes := #[t, t] })
    (v u : Value) (hd : a.eval d = v) (hx : a.eval x = u) {v' : Value} {w' : World} (hr : (Builtin.copy_ #[t, t] o.type #[v, u]).run P w = .ok v' w') (hK : K (a.put o.dst v') w') :
    if Region.wanted o (yielded ops a.tmps) = true then Oper.wp P o a w K Q else R := by
  have hw : Region.wanted o (yielded ops a.tmps) = true := by simp [Region.wanted, hg]
  rw [if_pos hw]
  unfold Oper.wp
  simp only [execOp, hop, resolve, invoke, builtin, Sem.run_bind, Sem.run_pure, Result.andThen_ok, List.map_toArray, List.map_cons, List.map_nil, hd, hx, hr]
  exact hK
theorem wpList_copy_known {w : World} {ops : Array Oper} {rest : List Oper} {o : Oper} {a : Act} {Q : Exit → Act → World → Prop} (hgd : o.guard = none) (d s : Operand) (t : TypeId)
    (ho : o.op = .call { callee := .builtin .copy, args := #[d, s], argTypes := #[t, t] }) (v u : Value) (hd : a.eval d = v) (hs : a.eval s = u) {v' : Value} {w' : World}
    (hr : (Builtin.copy_ #[t, t] o.type #[v, u]).run P w = .ok v' w') (h : wpList P ops Q rest (a.put o.dst v') w') : wpList P ops Q (o :: rest) a w :=
  wpList_plain hgd fun K hK => by
    unfold Oper.wp
    simp only [execOp, ho, resolve, invoke, builtin, Sem.run_bind, Sem.run_pure, Result.andThen_ok, List.map_toArray, List.map_cons, List.map_nil, hd, hs, hr]
    exact hK _ _ h
end
/-- A list with one more at a place. -/
def putAt (l : List Val) (i : Nat) (x : Val) : List Val := l.take i ++ x :: l.drop i
theorem putAt_length {l : List Val} {i : Nat} {x : Val} (h : i ≤ l.length) : (putAt l i x).length = l.length + 1 := by
  unfold putAt; simp; omega
theorem sizeVal2 : ∀ w, (Go.sizeOf 100).run Tryz.prog w = .ok 2 w := fun w => by kernel_rfl
theorem infoSize2 : (Tryz.prog.info? 100).map (·.size) = some 2 := by kernel_rfl
set_option maxHeartbeats 4000000 in
set_option maxRecDepth 100000 in
theorem Insert_shift (w : World) (base g cap : Nat) (cur : Array Value) (l : List Val) (i : Nat) (x : Val) (vb : Nat) (hi : i < l.length) (hroom : l.length + 1 ≤ cap) (hbase : base ≤ g)
    (hh : w.heap[g]? = some (.cells cur 100 (0, 0))) (h2 : cap ≤ maxLen) (h3 : cur.size = cap * 2) (h4 : cur.toList.take (l.length * 2) = l.flatMap valC)
    (hvb : w.heap[vb]? = some (.cells #[u64V x.1, i64V x.2] 100 (0, 0))) (hne : vb ≠ g) :
    Calls Tryz.prog 294 #[.slice (some ⟨g, 0, none⟩) l.length cap, .int .i64 i, .slice (some ⟨vb, 0, none⟩) 1 1] w fun e w' =>
      ∃ v', e = .returned v' ∧ w'.ownsRow base 100 2 v' (putAt l i x).length ((putAt l i x).flatMap valC) ∧ Kept (fun k => k = g) w w' := by
  obtain ⟨n, hn⟩ : ∃ n, l.length = n := ⟨_, rfl⟩
  have hpl := putAt_length (x := x) (Nat.le_of_lt hi)
  rw [hn] at hi hroom h4 hpl ⊢
  unfold maxLen at h2
  have hov : ∀ lb cb, (callFunc 346 #[.slice (some ⟨vb, 0, none⟩) 1 1, .slice (some ⟨g, (i + 1) * 2, none⟩) lb cb]).run Tryz.prog w = .ok (.value (.bool false)) w := fun lb cb => by
    rw [run_callFunc_extern Tryz.func346 (by kernel_rfl) (by kernel_rfl) (by kernel_rfl) (e := Extern.SlicesOverlaps.overlaps #[22, 22] #[4]) (by kernel_rfl),
      Lib.run_overlaps_apart w 22 4 100 Tryz.underlying22 2 sizeVal2 ⟨vb, 0, none⟩ ⟨g, (i + 1) * 2, none⟩ 1 1 lb cb hne 100 100 2 cur.size (by simp [World.shape?, hvb]) (by simp [World.shape?, hh]) (by omega) (by simp [World.frozen?, hvb]) (by simp [World.frozen?, hvb])]
    rfl
  obtain ⟨cs, hcs⟩ : ∃ cs, (l.drop i).flatMap valC = cs := ⟨_, rfl⟩
  have hlen : cs.length = (n - i) * 2 := by rw [← hcs, flat_length (enc := valC) (k := 2) (fun _ => rfl), List.length_drop, hn]
  have hone : ∀ v ∈ cs, v.oneCell' = true := hcs ▸ valC_one _
  have hsrc : ∀ j u, cs[j]? = some u → w.drew.cell? ((⟨g, i * 2, none⟩ : Addr).add j) = some u := fun j u hu => by
    rw [add_none]
    refine (own_cell (w := w.drew) hh h4 (xs := l.flatMap valC) ?_).1
    rw [← hcs, ← flat_drop, List.getElem?_drop] at hu
    exact hu
  have hthere : ∀ {W : World} {c : Array Value}, W.heap[g]? = some (.cells c 100 (0, 0)) → c.size = cap * 2 → ∀ o k, o + k ≤ cap * 2 → (∀ j, j < k → (W.cell? ⟨g, o + j, none⟩).isSome = true) ∧ ∀ j, j < k → W.frozen? ⟨g, o + j, none⟩ = false := fun {W c} hW hc o k hk =>
    ⟨fun j hj => by simp [World.cell?, hW, show o + j < c.size by omega], fun j hj => by simp [World.frozen?, hW]⟩
  have hcp1 : ∀ ty dc sc, (Builtin.copy_ #[22, 22] ty #[.slice (some ⟨g, (i + 1) * 2, none⟩) (n - i) dc, .slice (some ⟨g, i * 2, none⟩) (n + 1 - i) sc]).run Tryz.prog w.drew = .ok (goInt ((n - i : Nat) : Int)) (w.drew.setCells g ((i + 1) * 2) cs) := fun ty dc sc => by
    have hmin : Nat.min (n + 1 - i) (n - i) = n - i := by simp only [Nat.min_def]; split <;> omega
    have ht := hthere (W := w.drew) hh h3 ((i + 1) * 2) cs.length (by rw [hlen]; omega)
    have := run_copy_k w.drew 22 22 ty 100 2 g ((i + 1) * 2) (n - i) dc ⟨g, i * 2, none⟩ (n + 1 - i) sc cs Tryz.underlying22 infoSize2 (by rw [hmin, hlen]) hsrc ht.1 ht.2 hone
    rw [hmin] at this
    exact this
  obtain ⟨cur1, e1, e2, e3⟩ := heap_setCells_row (g := g) (t := 100) cs ((i + 1) * 2) (w := w.drew) hh (by rw [hlen, h3]; omega)
  have k1 : Kept (fun k => k = g) w (w.drew.setCells g ((i + 1) * 2) cs) := ((Kept.refl (fun k => k = g) w).drew).trans (kept_setCells g cs _ _)
  generalize w.drew.setCells g ((i + 1) * 2) cs = W1 at e1 k1 hcp1
  have hvb1 : W1.heap[vb]? = some (.cells #[u64V x.1, i64V x.2] 100 (0, 0)) := (k1.block vb (Array.getElem?_eq_some_iff.1 hvb).1 hne).trans hvb
  have hcp2 : ∀ ty dc, (Builtin.copy_ #[22, 22] ty #[.slice (some ⟨g, i * 2, none⟩) (n + 1 - i) dc, .slice (some ⟨vb, 0, none⟩) 1 1]).run Tryz.prog W1 = .ok (goInt 1) (W1.setCells g (i * 2) (valC x)) := fun ty dc => by
    have hmin : Nat.min 1 (n + 1 - i) = 1 := by simp only [Nat.min_def]; split <;> omega
    have ht := hthere e1 (e2.trans h3) (i * 2) (valC x).length (by rw [valC_length]; omega)
    have := run_copy_k W1 22 22 ty 100 2 g (i * 2) (n + 1 - i) dc ⟨vb, 0, none⟩ 1 1 (valC x) Tryz.underlying22 infoSize2 (by rw [hmin]; rfl) (fun j u hu => by
      rw [add_none, Nat.zero_add]
      rcases j with _ | _ | j
      · simp [valC] at hu; subst hu; simp [World.cell?, hvb1]
      · simp [valC] at hu; subst hu; simp [World.cell?, hvb1]
      · simp [valC] at hu) ht.1 ht.2 (fun v hv => by simp [valC] at hv; rcases hv with rfl | rfl <;> rfl)
    rw [hmin] at this
    exact this
  have HX := Lib.hid (And.intro e1 (And.intro e2 (And.intro e3 (And.intro k1 (And.intro hlen (And.intro h4 (And.intro hcs (And.intro hn (And.intro h3 hpl)))))))))
  have hic : i ≤ cap := by omega
  have hin : (i : Int) ≤ (n : Int) := by omega
  have hine : ((i : Int) == (n : Int)) = false := by simp; omega
  have hroomI : ¬ (cap : Int) < (n : Int) + 1 := by omega
  have hroomI2 : (n : Int) + 1 ≤ (cap : Int) := by omega
  have hn1 : (0 : Int) ≤ (n : Int) + 1 := by omega
  have hi1 : (0 : Int) ≤ (i : Int) + 1 := by omega
  have hi2 : (i : Int) + 1 ≤ (n : Int) + 1 := by omega
  have hi3 : (i : Int) ≤ (n : Int) + 1 := by omega
  have hwi : IntKind.i64.wrap ((i : Int) + 1) = (i : Int) + 1 := by rw [IntKind.wrap_i64]; omega
  have htn : ((i : Int) + 1).toNat = i + 1 := by omega
  have hc1 : ¬ (cap = i + 1) := by omega
  have hc2 : ¬ (cap = i) := by omega
  clear e1 e2 e3 k1 hlen h4 hcs hn h3 hpl hone hsrc hthere hvb1 hvb hh
  go_enter Tryz.func294, Tryz.ntmps294
  go_wp2_with (simp only [hov])
  go_region_law (refine step_copy_known rfl (.tmp 73) (.tmp 76) 22 rfl _ _ (by simp [Act.eval, Act.put]) (by simp [Act.eval, Act.put]) (hcp1 _ _ _) ?_)
  go_wp2_with (at_builtin; refine wpList_copy_known rfl _ _ 22 rfl _ _ rfl rfl (hcp2 _ _) ?_)
  go_ret
  obtain ⟨e1, e2, e3, k1, hlen, h4, hcs, hn, h3, hpl⟩ := HX.out
  obtain ⟨cur2, f1, f2, f3⟩ := heap_setCells_row (g := g) (t := 100) (valC x) (i * 2) e1 (by rw [valC_length, e2, h3]; omega)
  refine ⟨_, rfl, ⟨by rw [flat_length (enc := valC) (k := 2) (fun _ => rfl)], .inr ⟨g, cap, cur2, by rw [hpl]; rfl, hbase, f1, by rw [hpl]; exact hroom, by unfold maxLen; exact h2, by rw [f2, e2, h3], ?_⟩⟩, k1.trans (kept_setCells g _ _ _)⟩
  have hc2 : cur.toList.length = cap * 2 := by rw [Array.length_toList, h3]
  rw [hpl, f3, e3, valC_length]
  unfold putAt
  rw [List.flatMap_append, List.flatMap_cons, hcs, ← flat_take, ← h4, List.take_take, Nat.min_eq_left (by omega)]
  have hA : (List.take (i * 2) (List.take ((i + 1) * 2) cur.toList ++ cs ++ List.drop ((i + 1) * 2 + cs.length) cur.toList)) = List.take (i * 2) cur.toList := by
    rw [List.append_assoc, List.take_append_of_le_length (by simp [hc2]; omega), List.take_take, Nat.min_eq_left (by omega)]
  have hB : List.drop (i * 2 + 2) (List.take ((i + 1) * 2) cur.toList ++ cs ++ List.drop ((i + 1) * 2 + cs.length) cur.toList) = cs ++ List.drop ((i + 1) * 2 + cs.length) cur.toList := by
    rw [List.append_assoc, List.drop_append_of_le_length (by simp [hc2]; omega), List.drop_of_length_le (by simp; omega), List.nil_append]
  rw [hA, hB]
  have hl1 : (List.take (i * 2) cur.toList).length = i * 2 := by rw [List.length_take, hc2]; omega
  rw [List.append_assoc, ← List.append_assoc (valC x) cs, ← List.append_assoc]
  rw [List.take_append_of_le_length (by simp [hl1, hlen, valC_length]; omega), List.take_of_length_le (by simp [hl1, hlen, valC_length]; omega)]
theorem own_slice' {w : World} {base e size n : Nat} {v : Value} {xs : List Value} (h : w.ownsRow base e size v n xs) : ∃ p n c, v = .slice p n c := by
  rcases h.2 with ⟨rfl, _⟩ | ⟨g, cap, cur, rfl, _⟩
  · exact ⟨_, _, _, rfl⟩
  · exact ⟨_, _, _, rfl⟩
theorem zeroCells_size (k : Nat) : (Builtin.zeroCells (Value.agg #[.int .u64 0, .int .i64 0]).cells k).size = k * 2 := by
  simp [Builtin.zeroCells, Value.cells]
set_option maxHeartbeats 4000000 in
set_option maxRecDepth 100000 in
theorem Insert_grow (w : World) (base g cap : Nat) (cur : Array Value) (l : List Val) (i : Nat) (x : Val) (vb : Nat) (hi : i < l.length) (hnc : l.length ≤ cap) (hroom : cap < l.length + 1) (hbw : base ≤ w.heap.size)
    (hbig : (l.length + 1) * 16 ≤ 140737488355328)
    (hh : w.heap[g]? = some (.cells cur 100 (0, 0))) (h3 : cur.size = cap * 2) (h4 : cur.toList.take (l.length * 2) = l.flatMap valC)
    (hvb : w.heap[vb]? = some (.cells #[u64V x.1, i64V x.2] 100 (0, 0))) :
    Calls Tryz.prog 294 #[.slice (some ⟨g, 0, none⟩) l.length cap, .int .i64 i, .slice (some ⟨vb, 0, none⟩) 1 1] w fun e w' =>
      ∃ v', e = .returned v' ∧ w'.ownsRow base 100 2 v' (putAt l i x).length ((putAt l i x).flatMap valC) ∧ Kept Nowhere w w' := by
  obtain ⟨i0, hi0, hz0, hz1, hz2⟩ := info_parts infoVal
  obtain ⟨n, hn⟩ : ∃ n, l.length = n := ⟨_, rfl⟩
  have hpl := putAt_length (x := x) (Nat.le_of_lt hi)
  rw [hn] at hi hroom h4 hpl hnc hbig ⊢
  have hgl : g < w.heap.size := (Array.getElem?_eq_some_iff.1 hh).1
  have hvl : vb < w.heap.size := (Array.getElem?_eq_some_iff.1 hvb).1
  have hik : i + (n + 1 - i) = n + 1 := by omega
  have hkk : (n : Int) + 1 - (i : Int) = ((n + 1 - i : Nat) : Int) := by omega
  have hold : (Builtin.firstCells i0.size i (.slice (some ⟨g, 0, none⟩) i cap)).run Tryz.prog w.drew = .ok ((l.take i).flatMap valC).toArray w.drew := by
    rw [hz1]
    exact run_firstCells_some w.drew 2 i ⟨g, 0, none⟩ i cap ((l.take i).flatMap valC) (by rw [flat_length (enc := valC) (k := 2) (fun _ => rfl), List.length_take, hn, Nat.min_eq_left (by omega)]) (fun j v hj => by
      rw [add_none, Nat.zero_add]
      rw [← flat_take, List.getElem?_take] at hj
      split at hj
      · exact (own_cell (w := w.drew) hh h4 hj).1
      · cases hj)
  have hrz : ∀ ty, (Builtin.append_ #[22, 3] ty #[.slice (some ⟨g, 0, none⟩) i cap, .int .i64 ((n : Int) + 1 - (i : Int))]).run Tryz.prog w =
      .ok (.slice (some ⟨w.heap.size, 0, none⟩) (n + 1) (grownCap w (n + 1) cap 100)) (w.drew.alloc (.cells (((l.take i).flatMap valC).toArray ++ Builtin.zeroCells (Value.agg #[.int .u64 0, .int .i64 0]).cells (n + 1 - i) ++ Builtin.zeroCells (Value.agg #[.int .u64 0, .int .i64 0]).cells (grownCap w (n + 1) cap 100 - (n + 1))) 100)) := fun ty => by
    have h := Lib.run_append_grow_zeros w 22 3 ty 100 i0 _ .i64 .i64 Tryz.underlying22 Tryz.underlying3 hi0 hz0 (some ⟨g, 0, none⟩) i cap ((l.take i).flatMap valC) hold (n + 1 - i) (by omega) (by rw [hz1]; omega) (by omega) (by omega) (by rw [hz2]; omega) (by rw [hz2, hik]; exact growslice_fits hroom hbig)
    rw [hik] at h
    rw [hkk]
    exact h
  obtain ⟨G, hG⟩ : ∃ G, G = grownCap w (n + 1) cap 100 := ⟨_, rfl⟩
  have hGn : n + 1 ≤ G := by rw [hG]; exact grownCap_ge w _ _ _
  have hG63 : G ≤ maxLen := by
    rw [hG]
    exact grownCap_le_maxLen w (n + 1) cap 100 (by unfold maxLen; omega)
  obtain ⟨ROW, hROW⟩ : ∃ ROW : Array Value, ROW = ((l.take i).flatMap valC).toArray ++ Builtin.zeroCells (Value.agg #[.int .u64 0, .int .i64 0]).cells (n + 1 - i) ++ Builtin.zeroCells (Value.agg #[.int .u64 0, .int .i64 0]).cells (G - (n + 1)) := ⟨_, rfl⟩
  rw [← hG] at hrz
  rw [← hROW] at hrz
  have hlt : ((l.take i).flatMap valC).length = i * 2 := by rw [flat_length (enc := valC) (k := 2) (fun _ => rfl), List.length_take, hn, Nat.min_eq_left (by omega)]
  have hRl : ROW.size = G * 2 := by
    rw [hROW, Array.size_append, Array.size_append, zeroCells_size, zeroCells_size, List.size_toArray, hlt]
    omega
  have hRt : ROW.toList.take (i * 2) = (l.take i).flatMap valC := by
    rw [hROW, Array.toList_append, Array.toList_append, List.append_assoc, List.take_append_of_le_length (by simp [hlt]), List.take_of_length_le (by simp [hlt])]
  have r1 : (w.drew.alloc (.cells ROW 100)).heap[w.heap.size]? = some (.cells ROW 100 (0, 0)) := heap_alloc_new w.drew _
  have k1 : Kept Nowhere w (w.drew.alloc (.cells ROW 100)) := ((Kept.refl Nowhere w).drew).alloc _
  obtain ⟨W1, hW1⟩ : ∃ W1, W1 = w.drew.alloc (.cells ROW 100) := ⟨_, rfl⟩
  rw [← hW1] at hrz r1 k1
  obtain ⟨N, hN⟩ : ∃ N, w.heap.size = N := ⟨_, rfl⟩
  rw [hN] at hrz r1 hgl hvl hbw
  have hthere : ∀ {W : World} {c : Array Value}, W.heap[N]? = some (.cells c 100 (0, 0)) → c.size = G * 2 → ∀ o k, o + k ≤ G * 2 → (∀ j, j < k → (W.cell? ⟨N, o + j, none⟩).isSome = true) ∧ ∀ j, j < k → W.frozen? ⟨N, o + j, none⟩ = false := fun {W c} hW hc o k hk =>
    ⟨fun j hj => by simp [World.cell?, hW, show o + j < c.size by omega], fun j hj => by simp [World.frozen?, hW]⟩
  have hvb1 : W1.heap[vb]? = some (.cells #[u64V x.1, i64V x.2] 100 (0, 0)) := (k1.block vb (by omega) id).trans hvb
  have hh1 : W1.heap[g]? = some (.cells cur 100 (0, 0)) := (k1.block g (by omega) id).trans hh
  have hcpA : ∀ ty dc, (Builtin.copy_ #[22, 22] ty #[.slice (some ⟨N, i * 2, none⟩) (n + 1 - i) dc, .slice (some ⟨vb, 0, none⟩) 1 1]).run Tryz.prog W1 = .ok (goInt 1) (W1.setCells N (i * 2) (valC x)) := fun ty dc => by
    have hmin : Nat.min 1 (n + 1 - i) = 1 := by simp only [Nat.min_def]; split <;> omega
    have ht := hthere r1 hRl (i * 2) (valC x).length (by rw [valC_length]; omega)
    have := run_copy_k W1 22 22 ty 100 2 N (i * 2) (n + 1 - i) dc ⟨vb, 0, none⟩ 1 1 (valC x) Tryz.underlying22 infoSize2 (by rw [hmin]; rfl) (fun j u hu => by
      rw [add_none, Nat.zero_add]
      rcases j with _ | _ | j
      · simp [valC] at hu; subst hu; simp [World.cell?, hvb1]
      · simp [valC] at hu; subst hu; simp [World.cell?, hvb1]
      · simp [valC] at hu) ht.1 ht.2 (fun v hv => by simp [valC] at hv; rcases hv with rfl | rfl <;> rfl)
    rw [hmin] at this
    exact this
  obtain ⟨cur2, f1, f2, f3⟩ := heap_setCells_row (g := N) (t := 100) (valC x) (i * 2) r1 (by rw [valC_length, hRl]; omega)
  have k2 : Kept (fun k => k = N) W1 (W1.setCells N (i * 2) (valC x)) := kept_setCells N _ _ _
  obtain ⟨W2, hW2⟩ : ∃ W2, W2 = W1.setCells N (i * 2) (valC x) := ⟨_, rfl⟩
  rw [← hW2] at f1 k2 hcpA
  obtain ⟨cs, hcs⟩ : ∃ cs, (l.drop i).flatMap valC = cs := ⟨_, rfl⟩
  have hlen : cs.length = (n - i) * 2 := by rw [← hcs, flat_length (enc := valC) (k := 2) (fun _ => rfl), List.length_drop, hn]
  have hh2 : W2.drew.heap[g]? = some (.cells cur 100 (0, 0)) := (k2.block g (by have := (Array.getElem?_eq_some_iff.1 hh1).1; omega) (by show ¬ g = N; omega)).trans hh1
  have hcpB : ∀ ty dc sc, (Builtin.copy_ #[22, 22] ty #[.slice (some ⟨N, (i + 1) * 2, none⟩) (n - i) dc, .slice (some ⟨g, i * 2, none⟩) (n - i) sc]).run Tryz.prog W2.drew = .ok (goInt ((n - i : Nat) : Int)) (W2.drew.setCells N ((i + 1) * 2) cs) := fun ty dc sc => by
    have hmin : Nat.min (n - i) (n - i) = n - i := Nat.min_self _
    have ht := hthere (W := W2.drew) f1 (f2.trans hRl) ((i + 1) * 2) cs.length (by rw [hlen]; omega)
    have := run_copy_k W2.drew 22 22 ty 100 2 N ((i + 1) * 2) (n - i) dc ⟨g, i * 2, none⟩ (n - i) sc cs Tryz.underlying22 infoSize2 (by rw [hmin, hlen]) (fun j u hu => by
      rw [add_none]
      refine (own_cell (w := W2.drew) hh2 h4 (xs := l.flatMap valC) ?_).1
      rw [← hcs, ← flat_drop, List.getElem?_drop] at hu
      exact hu) ht.1 ht.2 (hcs ▸ valC_one _)
    rw [hmin] at this
    exact this
  obtain ⟨cur3, g1, g2, g3⟩ := heap_setCells_row (g := N) (t := 100) cs ((i + 1) * 2) (w := W2.drew) f1 (by rw [hlen, f2, hRl]; omega)
  have k3 : Kept (fun k => k = N) W2 (W2.drew.setCells N ((i + 1) * 2) cs) := ((Kept.refl (fun k => k = N) W2).drew).trans (kept_setCells N cs _ _)
  have hHN : Hid (W1.heap.size = N + 1) := Lib.hid (show W1.heap.size = N + 1 by rw [hW1]; show (w.heap.push _).size = _; rw [Array.size_push, hN])
  have HX := Lib.hid (And.intro k1 (And.intro k2 (And.intro k3 (And.intro g1 (And.intro g2 (And.intro g3 (And.intro f2 (And.intro f3 (And.intro hRl (And.intro hRt (And.intro hlen (And.intro hcs (And.intro hn hpl)))))))))))))
  have HNN := Lib.hid hN
  have hic : i ≤ cap := by omega
  have hin : (i : Int) ≤ (n : Int) := by omega
  have hine : ((i : Int) == (n : Int)) = false := by simp; omega
  have hroomI : (cap : Int) < (n : Int) + 1 := by omega
  have hi1 : (0 : Int) ≤ (i : Int) + 1 := by omega
  have hi2 : (i : Int) + 1 ≤ (n : Int) + 1 := by omega
  have hi3 : (i : Int) ≤ (n : Int) + 1 := by omega
  have hwi : IntKind.i64.wrap ((i : Int) + 1) = (i : Int) + 1 := by rw [IntKind.wrap_i64]; omega
  have htn : ((i : Int) + 1).toNat = i + 1 := by omega
  have hc1 : ¬ (G = i + 1) := by omega
  have hc2 : ¬ (G = i) := by omega
  have hc3 : ¬ (cap = i) := by omega
  have hG63' : G ≤ 9223372036854775807 := by unfold maxLen at hG63; omega
  clear k1 k2 k3 g1 g2 g3 f1 f2 f3 hRl hRt hlen hcs hn hpl hthere hvb1 hh1 hh2 hvb hh hW1 hW2 hG hROW hlt hold hkk hik h3 h4 r1 hN hi0 hz0 hz1 hz2 hgl hvl
  go_enter Tryz.func294, Tryz.ntmps294
  go_wp2_with (first
    | (at_builtin; refine Lib.wpList_append_run _ rfl _ _ _ _ rfl _ _ rfl rfl _ _ (hrz _) ?_)
    | (at_builtin; refine wpList_copy_known rfl _ _ 22 rfl _ _ rfl rfl (hcpA _ _) ?_))
  go_region_law (refine step_copy_known rfl (.tmp 50) (.tmp 53) 22 rfl _ _ (by simp [Act.eval, Act.put]) (by simp [Act.eval, Act.put]) (hcpB _ _ _) ?_)
  go_wp2_with fail
  go_ret
  obtain ⟨k1, k2, k3, g1, g2, g3, f2, f3, hRl, hRt, hlen, hcs, hn, hpl⟩ := HX.out
  refine ⟨_, rfl, ⟨by rw [flat_length (enc := valC) (k := 2) (fun _ => rfl)], .inr ⟨N, G, cur3, by rw [hpl]; rfl, by omega, g1, by rw [hpl]; exact hGn, hG63, by rw [g2, f2, hRl], ?_⟩⟩, ?_⟩
  · have hc2' : ROW.toList.length = G * 2 := by rw [Array.length_toList, hRl]
    have hA : List.take ((i + 1) * 2) cur2.toList = (l.take i).flatMap valC ++ valC x := by
      have hl1 : ((l.take i).flatMap valC).length = i * 2 := by rw [← hRt, List.length_take, hc2']; omega
      rw [f3, hRt, List.take_append_of_le_length (by simp [hl1, valC_length]; omega), List.take_of_length_le (by simp [hl1, valC_length]; omega)]
    have hl1 : ((l.take i).flatMap valC).length = i * 2 := by rw [← hRt, List.length_take, hc2']; omega
    rw [hpl, g3, hA]
    unfold putAt
    rw [List.flatMap_append, List.flatMap_cons, hcs]
    rw [List.take_append_of_le_length (by simp [hl1, hlen, valC_length]; omega), List.take_of_length_le (by simp [hl1, hlen, valC_length]; omega), List.append_assoc]
  · exact k1.andThen (k2.trans k3) (fun j hj e => by have := HNN.out; omega)
/-- Insert, of one validator: whatever the row, and its room. -/
def InsPost (base : Nat) (v : Value) (l : List Val) (i : Nat) (x : Val) (w : World) (e : Ending) (w' : World) : Prop :=
  ∃ v', e = .returned v' ∧ w'.ownsRow base 100 2 v' (putAt l i x).length ((putAt l i x).flatMap valC) ∧ Kept (fun k => v.ownBlock = some k) w w'
set_option maxHeartbeats 4000000 in
set_option maxRecDepth 100000 in
theorem Insert_end (w : World) (base : Nat) (v : Value) (l : List Val) (x : Val) (vb : Nat) (hbw : base ≤ w.heap.size) (hbig : (l.length + 1) * 16 ≤ 140737488355328)
    (h : w.ownsRow base 100 2 v l.length (l.flatMap valC)) (hvb : w.heap[vb]? = some (.cells #[u64V x.1, i64V x.2] 100 (0, 0))) :
    Calls Tryz.prog 294 #[v, .int .i64 l.length, .slice (some ⟨vb, 0, none⟩) 1 1] w (InsPost base v l l.length x w) := by
  obtain ⟨i0, hi0, hz0, hz1, hz2⟩ := info_parts infoVal
  have hput : putAt l l.length x = l ++ [x] := by unfold putAt; simp
  unfold InsPost
  rw [hput]
  obtain ⟨vp, vn, vc, rfl⟩ := own_slice' h
  have hvn : vn = l.length ∧ vn ≤ vc := by
    rcases h.2 with ⟨hv, h0⟩ | ⟨g, cap, cur, hv, _, _, hc, _⟩ <;> simp only [Value.slice.injEq] at hv <;> omega
  obtain ⟨rfl, hvc⟩ := hvn
  have hvc63 : vc ≤ 9223372036854775807 := by
    rcases h.2 with ⟨hv, h0⟩ | ⟨g, cap, cur, hv, _, _, _, hc, _⟩ <;> simp only [Value.slice.injEq] at hv
    · omega
    · unfold maxLen at hc; omega
  obtain ⟨n, hn⟩ : ∃ n, l.length = n := ⟨_, rfl⟩
  have hfl : (l ++ [x]).length = n + 1 := by simp [hn]
  have hff : (l ++ [x]).flatMap valC = l.flatMap valC ++ valC x := by simp
  rw [hfl, hff]
  rw [hn] at h hbig hvc ⊢
  obtain ⟨xs, hxs⟩ : ∃ xs, l.flatMap valC = xs := ⟨_, rfl⟩
  rw [hxs] at h ⊢
  have HO := Lib.hid h
  have HV := Lib.hid hvb
  clear h hvb hn hxs hfl hff hput
  go_enter Tryz.func294, Tryz.ntmps294
  go_wp2_with (at_builtin; refine wpList_append_own _ rfl _ _ 22 rfl base 100 i0 _ 2 16 Tryz.underlying22 hi0 hz0 hz1 hz2 rfl (by omega) _ n xs rfl HO.out ⟨vb, 0, none⟩ 1 1 (valC x) rfl rfl ?qc2 ?qc3 ?qc4 ?qc5 hbw ?_)
  case qc2 =>
    intro j u hu
    rw [add_none, Nat.zero_add]
    have hvb := HV.out
    rcases j with _ | _ | j
    · simp [valC] at hu; subst hu; simp [World.cell?, hvb]
    · simp [valC] at hu; subst hu; simp [World.cell?, hvb]
    · simp [valC] at hu
  case qc3 => intro v hv; simp [valC] at hv; rcases hv with rfl | rfl <;> rfl
  case qc4 => unfold maxLen; omega
  case qc5 => omega
  all_goals (
    intro v' w1 hown hgrow hnil
    have HX := Lib.hid (And.intro hown (Kept.of_grown hgrow))
    clear hown hgrow hnil
    go_wp2_with fail
    go_ret
    exact ⟨_, rfl, HX.out.1, HX.out.2.weaken (fun k _ hk => by cases vp <;> exact hk)⟩)
end Go.Proofs.YtlaahjcdbdipdaaGreatDoor
