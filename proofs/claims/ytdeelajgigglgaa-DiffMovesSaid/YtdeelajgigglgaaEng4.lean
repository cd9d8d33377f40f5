/-
  Part of the proofs over this seat: E22 E23 E24. Own work; imports the kit.
-/
import Derived.Laws.MakeOwn
import Derived.Test.YtdeelajgigglgaaEng3
set_option linter.unusedVariables false
set_option linter.unusedSimpArgs false
namespace Go.Eng
open Go Go.RowKit
section
variable {P : Program} {r : Option Nat} {N : Nat} {ds : List Deferred} {ops : Array Oper} {Q : Post} {t : Fm} {rest : List Oper} {M : World → Prop}
variable {w0 : World} {E Z0 Z : Nat → Prop} {wz : World} {L : List Res}
variable {ty : TypeId} {pos : String} {aft : Array Edge} {d : Nat} {g : Option (Nat × Bool)}
/-! slices with a bound on what is behind them, slices of texts -/
theorem vo_sliceHM {xt e : TypeId} {x hi mx : Operand} {A : Option Addr} {n c sz : Nat} {k k' : IntKind} {h m : Int} (hx : ev t x = some (.slice A n c)) (hhi : ev t hi = some (.int k h)) (hmx : ev t mx = some (.int k' m)) (hu : P.underlying xt = some (.slice e)) (hz : (P.info? e).map (·.size) = some sz)
    (h0 : 0 ≤ h) (h1 : h ≤ m) (h2 : m ≤ c) : ValOf P N ds t M ⟨some d, .slice xt x none (some hi) (some mx), ty, pos, aft, none⟩ (Go.sliced A 0 h.toNat m.toNat sz) := fun a w ha hw => by
  have he : P.elem xt = e := by simp [Program.elem, hu]
  obtain ⟨inf, hinf, rfl⟩ := Option.map_eq_some_iff.1 hz
  unfold execOp
  simp [ha.eval hx, ha.eval hhi, ha.eval hmx, run_sliceAt_slice, run_slice_hm, he, hu, h0, h1, h2, sizeOf, typeInfo, hinf]
theorem vo_sliceLHM {xt e : TypeId} {x lo hi mx : Operand} {A : Option Addr} {n c sz : Nat} {k k' k'' : IntKind} {l h m : Int} (hx : ev t x = some (.slice A n c)) (hlo : ev t lo = some (.int k'' l)) (hhi : ev t hi = some (.int k h)) (hmx : ev t mx = some (.int k' m)) (hu : P.underlying xt = some (.slice e)) (hz : (P.info? e).map (·.size) = some sz)
    (hl : 0 ≤ l) (h0 : l ≤ h) (h1 : h ≤ m) (h2 : m ≤ c) : ValOf P N ds t M ⟨some d, .slice xt x (some lo) (some hi) (some mx), ty, pos, aft, none⟩ (Go.sliced A l.toNat h.toNat m.toNat sz) := fun a w ha hw => by
  have he : P.elem xt = e := by simp [Program.elem, hu]
  obtain ⟨inf, hinf, rfl⟩ := Option.map_eq_some_iff.1 hz
  unfold execOp
  simp [ha.eval hx, ha.eval hlo, ha.eval hhi, ha.eval hmx, run_sliceAt_slice, run_slice_lhm, he, hu, hl, h0, h1, h2, sizeOf, typeInfo, hinf]
theorem vo_strL {xt : TypeId} {x lo : Operand} {s : ByteArray} {k : IntKind} {l : Int} (hx : ev t x = some (.string s)) (hlo : ev t lo = some (.int k l)) (hu : P.underlying xt = some .string) (h0 : 0 ≤ l) (h1 : l ≤ s.size) :
    ValOf P N ds t M ⟨some d, .slice xt x (some lo) none none, ty, pos, aft, none⟩ (.string (s.extract l.toNat s.size)) := fun a w ha hw => by
  unfold execOp
  simp [ha.eval hx, ha.eval hlo, run_sliceAt_string, Instr.slice, Instr.sliceBounds, run_sliceBound, run_underlying hu, hu, h0, h1]
theorem vo_strH {xt : TypeId} {x hi : Operand} {s : ByteArray} {k : IntKind} {h : Int} (hx : ev t x = some (.string s)) (hhi : ev t hi = some (.int k h)) (hu : P.underlying xt = some .string) (h0 : 0 ≤ h) (h1 : h ≤ s.size) :
    ValOf P N ds t M ⟨some d, .slice xt x none (some hi) none, ty, pos, aft, none⟩ (.string (s.extract 0 h.toNat)) := fun a w ha hw => by
  unfold execOp
  simp [ha.eval hx, ha.eval hhi, run_sliceAt_string, Instr.slice, Instr.sliceBounds, run_sliceBound, run_underlying hu, hu, h0, h1]
theorem vo_strLH {xt : TypeId} {x lo hi : Operand} {s : ByteArray} {k k' : IntKind} {l h : Int} (hx : ev t x = some (.string s)) (hlo : ev t lo = some (.int k' l)) (hhi : ev t hi = some (.int k h)) (hu : P.underlying xt = some .string) (hl : 0 ≤ l) (h0 : l ≤ h) (h1 : h ≤ s.size) :
    ValOf P N ds t M ⟨some d, .slice xt x (some lo) (some hi) none, ty, pos, aft, none⟩ (.string (s.extract l.toNat h.toNat)) := fun a w ha hw => by
  have h2 : (0 : Int) ≤ h := by omega
  have h3 : l ≤ (h.toNat : Int) := by omega
  unfold execOp
  have h4 := run_sliceBound (P := P) w k' l h.toNat .sliceB hl h3
  simp [ha.eval hx, ha.eval hlo, ha.eval hhi, run_sliceAt_string, Instr.slice, Instr.sliceBounds, run_sliceBound, run_underlying hu, hu, h1, h2, h4]
/-! append of a row of items that stands still -/
theorem do_appendItems {α : Type} {f : α → List Value} {sz : Nat} (hf : ∀ x, (f x).length = sz) (hsz : 0 < sz) (hf1 : ∀ x, ∀ u ∈ f x, u.oneCell' = true) {x y : Operand} {v vy : Value} {t0 e bytes n : Nat} {z : Value} {xs : List Value} {l : List α} {L' : Value → List Res} (hx : ev t x = some v) (hy : ev t y = some vy) (hr : RItems Z wz sz f l vy)
    (hu : P.underlying t0 = some (.slice e)) (hi : (P.info? e).map (fun i => (i.zero, i.size, i.bytes)) = some (some z, sz, bytes)) (hz : z.cells.size = sz)
    (ht' : TurnF (.row v e sz n xs) (fun v' => .row v' e sz (n + l.length) (xs ++ l.flatMap f)) L L')
    (hlen : n + l.length ≤ 1000000000) (hby : bytes ≤ 100000) :
    ∀ a w, Fr N ds t a → Mem w0 E Z0 Z wz L w → ∃ v' w', (execOp a.eval ⟨some d, .call { callee := .builtin .append, args := #[x, y], argTypes := #[t0, t0] }, ty, pos, aft, g⟩).run P w = .ok (.value v') w' ∧ Mem w0 E Z0 Z wz (L' v') w' := by
  obtain ⟨A, c, rfl, hc1, hc2, h3⟩ := hr
  rcases h3 with rfl | ⟨b, o, cs, te, fr, rfl, hfb, hcell⟩
  · intro a w ha hw
    have ht := ht'.turn
    obtain ⟨inf, hinf, hzz⟩ := Option.map_eq_some_iff.1 hi
    simp only [Prod.mk.injEq] at hzz
    have hown : w.ownsRow 0 e sz v n xs := hw.own _ (ht v).mem
    refine ⟨v, w, ?_, by simpa using hw.turnRow (ht v) (by simpa using hown) ⟨rfl, rfl, rfl, Nat.le_refl _, fun _ _ _ => rfl⟩ (.inl rfl)⟩
    have hrun : (Builtin.append_ #[t0, t0] ty #[v, .slice A 0 c]).run P w = .ok v w := by
      rcases hown.2 with ⟨rfl, rfl⟩ | ⟨g, cap, cur, rfl, _, _, hnc, _⟩
      · cases A <;> simp [Builtin.append_, run_underlying hu, sizeOf, typeInfo, hinf, Builtin.lenOf, Builtin.firstCells, loadCells, loadCellsFrom]
      · cases A <;> simp [Builtin.append_, run_underlying hu, sizeOf, typeInfo, hinf, Builtin.lenOf, Builtin.firstCells, hnc, storeCells, loadCells, loadCellsFrom]
    unfold execOp
    simp [resolve, invoke, builtin, ha.eval hx, ha.eval hy, hrun]
  · exact do_append hx hy hu hi hz hsz ht' (.frz hfb) (flat_length hf l) (RItems.flat (b := b) hf hsz hcell) (fun u hu => by
      obtain ⟨x, _, hx⟩ := List.mem_flatMap.1 hu
      exact hf1 x u hx) hlen hby
/-- the same, step by step -/
theorem st_of_do {o : Oper} {d : Nat} {L' : Value → List Res} (hg : o.guard = none) (hnd : ∀ c, o.op ≠ .defer c) (ho : o.dst = some d) (hd : d < N)
    (hrun : ∀ a w, Fr N ds t a → Mem w0 E Z0 Z wz L w → ∃ v' w', (execOp a.eval o).run P w = .ok (.value v') w' ∧ Mem w0 E Z0 Z wz (L' v') w')
    (h : ∀ v', JL P r N ds ops Q rest ((d, v') :: t) (Mem w0 E Z0 Z wz (L' v'))) : JL P r N ds ops Q (o :: rest) t (Mem w0 E Z0 Z wz L) :=
  JL_op (β := Value) (fun v' => v') (fun v' => Mem w0 E Z0 Z wz (L' v')) hg hnd ho hd hrun h
theorem do_bslice1 {bt e : TypeId} {x : Operand} {v z : Value} (hx : ev t x = some v) (hu : P.underlying bt = some (.slice e)) (hz : (P.info? e).bind (·.zero) = some z) (hs : (P.info? e).map (·.size) = some v.cells.size) (hle : v.cells.size ≤ 16777216) (h0 : v.cells.size ≠ 0) :
    ∀ a w, Fr N ds t a → Mem w0 E Z0 Z wz L w → ∃ b w', (execOp a.eval ⟨some d, .buildSlice bt 1 #[(0, x)], ty, pos, aft, g⟩).run P w = .ok (.value (.slice (some ⟨b, 0, none⟩) 1 1)) w' ∧ Mem w0 E Z0 Z wz (.blk b (.cells v.cells e (0, 0)) :: L) w' := fun a w ha hw => by
  obtain ⟨inf, hinf, hz'⟩ := Option.bind_eq_some_iff.1 hz
  have hsz : inf.size = v.cells.size := by simpa [hinf] using hs
  refine ⟨w.heap.size, w.alloc (.cells v.cells e), ?_, hw.alloc _⟩
  have hf : ∀ cs : Array Value, cs.size = v.cells.size → Instr.fill (fun i => some (i * v.cells.size, v.cells.size)) cs [(0, v)] = some v.cells := by
    intro cs hcs
    rw [fill_lay v.cells.size [(0, v)] cs (by simp [hcs])]
    have := setSeg_whole (cs := cs) (l := v.cells.toList) (by simpa using hcs)
    simp [laySeg, this]
  unfold execOp
  have hle' : ¬ v.cells.size > 2 ^ 24 := by omega
  simp [ha.eval hx, Instr.buildSlice, run_underlying hu, sizeOf, typeInfo, hinf, hsz, hle', zeroValue, hz', newRow, h0, hf]
/-! make([]T, n) -/
theorem st_makeSlice {mt e : TypeId} {x y : Operand} {k k' : IntKind} {n bytes : Nat} {z : Value} (hx : ev t x = some (.int k n)) (hy : ev t y = some (.int k' n)) (hu : P.underlying mt = some (.slice e)) (hi : (P.info? e).map (fun i => (i.zero, i.size, i.bytes)) = some (some z, 1, bytes)) (hz : z.cells = #[z]) (hn : n ≤ 1000000000) (hby : bytes ≤ 100000) (hd : d < N)
    (h : ∀ b, JL P r N ds ops Q rest ((d, .slice (some ⟨b, 0, none⟩) n n) :: t) (Mem w0 E Z0 Z wz (.row (.slice (some ⟨b, 0, none⟩) n n) e 1 n (List.replicate n z) :: L))) :
    JL P r N ds ops Q (⟨some d, .makeSlice mt x y, ty, pos, aft, none⟩ :: rest) t (Mem w0 E Z0 Z wz L) :=
  JL_op (β := Nat) (fun b => .slice (some ⟨b, 0, none⟩) n n) (fun b => Mem w0 E Z0 Z wz (.row (.slice (some ⟨b, 0, none⟩) n n) e 1 n (List.replicate n z) :: L)) rfl nofun rfl hd (fun a w ha hw => by
    obtain ⟨inf, hinf, hzz⟩ := Option.map_eq_some_iff.1 hi
    simp only [Prod.mk.injEq] at hzz
    have hmul : inf.bytes * n ≤ 281474976710656 := by
      rw [hzz.2.2]
      exact Nat.le_trans (Nat.mul_le_mul hby hn) (by decide)
    have hb' : (inf.bytes : Int) * (n : Int) ≤ 281474976710656 := by
      have h : ((inf.bytes * n : Nat) : Int) ≤ 281474976710656 := by omega
      rwa [Int.natCast_mul] at h
    have hr := run_make (P := P) w mt e inf z hu hinf hzz.1 k k' n n (by omega) (Int.le_refl _) hb' (by omega)
    simp only [Int.toNat_natCast, hzz.2.1, Nat.mul_one] at hr
    have hc : (madeCells z.cells n) = (List.replicate n z).toArray := by
      apply Array.ext
      · simp [madeCells]
      · intro i h1 h2
        simp [madeCells, hz, Nat.mod_one]
    refine ⟨w.heap.size, w.alloc (.cells (madeCells z.cells n) e), ?_, ?_⟩
    · unfold execOp
      simp [ha.eval hx, ha.eval hy, hr]
    · rw [hc]
      have := (hw.alloc (.cells (List.replicate n z).toArray e)).toRow (n := n) (sz := 1) (by simp) (by omega)
      simpa using this) h
/-! a row as its block -/
theorem Mem.rowBlk {w : World} (h : Mem w0 E Z0 Z wz L w) {b cap sz n : Nat} {e : TypeId} {xs : List Value} {L' : Obj → List Res} (ht : TurnF (.row (.slice (some ⟨b, 0, none⟩) n cap) e sz n xs) (fun o => .blk b o) L L') :
    ∃ cur : Array Value, Mem w0 E Z0 Z wz (L' (.cells cur e (0, 0))) w ∧ cur.size = cap * sz ∧ cur.toList.take (n * sz) = xs ∧ xs.length = n * sz ∧ n ≤ cap ∧ cap ≤ 9223372036854775807 := by
  have hown := h.own _ (ht.turn (.cells #[] 0)).mem
  obtain ⟨hl, hh⟩ := hown
  rcases hh with ⟨hh, _⟩ | ⟨g', cap', cur, hh, hb0, hg, hnc, hcm, hcs, htk⟩
  · cases hh
  · cases hh
    have ht2 := ht.turn (.cells cur e (0, 0))
    refine ⟨cur, ⟨h.os, h.tape, h.output, h.size0, h.size, h.base, h.frz, h.zb, h.zlt, fun r hr => ?_, fun r hr k hk => ?_, ?_⟩, hcs, htk, hl, hnc, hcm⟩
    · rcases ht2.others h.nodup r hr with rfl | ⟨hr, _⟩
      · exact hg
      · exact h.own r hr
    · rcases ht2.mem' r hr with rfl | hr
      · cases hk; exact h.sep _ ht2.mem _ rfl
      · exact h.sep r hr k hk
    · exact ht2.apart h.nodup (fun k hk => .inl hk)
theorem Mem.blkRow {w : World} (h : Mem w0 E Z0 Z wz L w) {b cap sz n : Nat} {e : TypeId} {cur : Array Value} {xs : List Value} {L' : List Res} (ht : Turn L (.blk b (.cells cur e (0, 0))) (.row (.slice (some ⟨b, 0, none⟩) n cap) e sz n xs) L')
    (hcs : cur.size = cap * sz) (htk : cur.toList.take (n * sz) = xs) (hnc : n ≤ cap) (hcm : cap ≤ 9223372036854775807) : Mem w0 E Z0 Z wz L' w := by
  have hg : w.heap[b]? = some (.cells cur e (0, 0)) := h.own _ ht.mem
  refine ⟨h.os, h.tape, h.output, h.size0, h.size, h.base, h.frz, h.zb, h.zlt, fun r hr => ?_, fun r hr k hk => ?_, ?_⟩
  · rcases ht.others h.nodup r hr with rfl | ⟨hr, _⟩
    · refine ⟨?_, .inr ⟨b, cap, cur, rfl, Nat.zero_le _, hg, hnc, hcm, hcs, htk⟩⟩
      rw [← htk, List.length_take, Array.length_toList, hcs]
      exact Nat.min_eq_left (Nat.mul_le_mul_right _ hnc)
    · exact h.own r hr
  · rcases ht.mem' r hr with rfl | hr
    · have : b = k := by simpa [Res.foot, Value.ownBlock] using hk
      subst this
      exact h.sep _ ht.mem _ rfl
    · exact h.sep r hr k hk
  · exact ht.apart h.nodup (fun k hk => .inl (by simpa [Res.foot, Value.ownBlock] using hk))
theorem JL_rowBlk {l : List Oper} {b cap sz n : Nat} {e : TypeId} {xs : List Value} {L' : Obj → List Res} (ht : TurnF (.row (.slice (some ⟨b, 0, none⟩) n cap) e sz n xs) (fun o => .blk b o) L L')
    (h : ∀ cur : Array Value, cur.size = cap * sz → cur.toList.take (n * sz) = xs → xs.length = n * sz → n ≤ cap → cap ≤ 9223372036854775807 → JL P r N ds ops Q l t (Mem w0 E Z0 Z wz (L' (.cells cur e (0, 0))))) : JL P r N ds ops Q l t (Mem w0 E Z0 Z wz L) := fun a w ha hw => by
  obtain ⟨cur, h1, h2, h3, h4, h5, h6⟩ := hw.rowBlk ht
  exact h cur h2 h3 h4 h5 h6 a w ha h1
theorem JL_blkRow {l : List Oper} (cap sz n : Nat) (xs : List Value) {b : Nat} {e : TypeId} {cur : Array Value} {L' : List Res} (ht : Turn L (.blk b (.cells cur e (0, 0))) (.row (.slice (some ⟨b, 0, none⟩) n cap) e sz n xs) L')
    (hcs : cur.size = cap * sz) (htk : cur.toList.take (n * sz) = xs) (hnc : n ≤ cap) (hcm : cap ≤ 9223372036854775807)
    (h : JL P r N ds ops Q l t (Mem w0 E Z0 Z wz L')) : JL P r N ds ops Q l t (Mem w0 E Z0 Z wz L) := fun a w ha hw => h a w ha (hw.blkRow ht hcs htk hnc hcm)
/-! append within a block, clear -/
theorem run_storeCells_seg {w : World} {b o : Nat} {cs : Array Value} {te : TypeId} {l : List Value} (h : w.heap[b]? = some (.cells cs te (0, 0))) (h1 : ∀ u ∈ l, u.oneCell' = true) (hfit : o + l.length ≤ cs.size) :
    (storeCells ⟨b, o, none⟩ l).run P w = .ok () (w.setCells b o l) := by
  have := run_storeCells_cells (P := P) b o l 0 w (fun j hj => by
      rw [cell_cells h, Array.getElem?_eq_getElem (by omega)]; rfl) (fun j hj => frozen_of_row w b _ cs te h) h1
  simpa using this
theorem do_appendBlk {x y : Operand} {t0 e b o n cap m bytes : Nat} {A2 : Option Addr} {c2 : Nat} {cs : Array Value} {te : TypeId} {z : Value} {news : List Value} {L' : List Res} (hx : ev t x = some (.slice (some ⟨b, o, none⟩) n cap)) (hy : ev t y = some (.slice A2 m c2))
    (hu : P.underlying t0 = some (.slice e)) (hi : (P.info? e).map (fun i => (i.zero, i.size, i.bytes)) = some (some z, 1, bytes))
    (ht : Turn L (.blk b (.cells cs te (0, 0))) (.blk b (.cells (setSeg cs (o + n) news) te (0, 0))) L') (hn : news.length = m) (hm : m = 0 ∨ ∃ b2 o2 cs2 te2 fr2, A2 = some ⟨b2, o2, none⟩ ∧ Has Z wz L b2 (.cells cs2 te2 fr2) ∧ ∀ (j : Nat) (u : Value), news[j]? = some u → cs2[o2 + j]? = some u)
    (h1 : ∀ u ∈ news, u.oneCell' = true) (hle : n + m ≤ cap) (hfit : o + n + m ≤ cs.size) :
    ∀ a w, Fr N ds t a → Mem w0 E Z0 Z wz L w → ∃ v' w', (execOp a.eval ⟨some d, .call { callee := .builtin .append, args := #[x, y], argTypes := #[t0, t0] }, ty, pos, aft, g⟩).run P w = .ok (.value v') w' ∧ v' = .slice (some ⟨b, o, none⟩) (n + m) cap ∧ Mem w0 E Z0 Z wz L' w' := fun a w ha hw => by
  obtain ⟨inf, hinf, hzz⟩ := Option.map_eq_some_iff.1 hi
  simp only [Prod.mk.injEq] at hzz
  have hh : w.heap[b]? = some (.cells cs te (0, 0)) := hw.own _ ht.mem
  have hc := heap_setCells news (o + n) w cs hh
  have hst : (storeCells ⟨b, o + n, none⟩ news).run P w = .ok () (w.setCells b (o + n) news) := run_storeCells_seg hh h1 (by omega)
  have hfc : (Builtin.firstCells 1 m (.slice A2 m c2)).run P w = .ok news.toArray w := by
    rcases hm with rfl | ⟨b2, o2, cs2, te2, fr2, rfl, hb2, hcell⟩
    · have : news = [] := List.eq_nil_of_length_eq_zero hn
      subst this
      cases A2 <;> simp [Builtin.firstCells, loadCells, loadCellsFrom]
    · have hbl := hw.has hb2
      have hl := run_loadCells_list (P := P) w ⟨b2, o2, none⟩ news (fun j u hu => by rw [Addr.add_mid, cell_cells hbl]; exact hcell j u hu)
      simp only [Builtin.firstCells, Nat.mul_one]
      rw [← hn]
      exact hl
  refine ⟨_, w.setCells b (o + n) news, ?_, rfl, hw.turn ht hc.2.2.2.1 hc.2.2.2.2.1 hc.2.2.2.2.2 hc.2.2.1 hc.2.1 hc.1⟩
  have hrun : (Builtin.append_ #[t0, t0] ty #[.slice (some ⟨b, o, none⟩) n cap, .slice A2 m c2]).run P w = .ok (.slice (some ⟨b, o, none⟩) (n + m) cap) (w.setCells b (o + n) news) := by
    simp [Builtin.append_, run_underlying hu, sizeOf, typeInfo, hinf, hzz.2.1, Builtin.lenOf, hle, hfc, Addr.add_mid, hst]
  unfold execOp
  simp [resolve, invoke, builtin, ha.eval hx, ha.eval hy, hrun]
theorem JL_opN {o : Oper} {M' : World → Prop} (hg : o.guard = none) (hnd : ∀ c, o.op ≠ .defer c) (ho : o.dst = none)
    (hrun : ∀ a w, Fr N ds t a → M w → ∃ v w', (execOp a.eval o).run P w = .ok (.value v) w' ∧ M' w')
    (h : JL P r N ds ops Q rest t M') : JL P r N ds ops Q (o :: rest) t M := fun a w ha hw => by
  refine wpListIn_plain hg fun K hK => ⟨fun _ _ => trivial, ?_⟩
  obtain ⟨v, w', hr, hM⟩ := hrun a w ha hw
  rw [Oper.semAt_eq _ _ _ hnd, hr]
  refine hK _ _ (h _ w' ?_ hM)
  rw [ho]
  exact ha
theorem zeroCells_one {z : Value} (hz : z.cells = #[z]) (n : Nat) : (Builtin.zeroCells z.cells n).toList = List.replicate n z := by
  apply List.ext_getElem?
  intro i
  simp only [Builtin.zeroCells, hz]
  by_cases h : i < n
  · simp [h, Nat.mod_one, List.getElem?_replicate]
  · simp [h, List.getElem?_replicate]
theorem st_clear {x : Operand} {t0 e b o n c : Nat} {cs : Array Value} {te : TypeId} {z : Value} {L' : List Res} (hx : ev t x = some (.slice (some ⟨b, o, none⟩) n c))
    (hu : P.underlying t0 = some (.slice e)) (hzr : (P.info? e).bind (·.zero) = some z) (hz : z.cells = #[z]) (hz1 : z.oneCell' = true)
    (ht : Turn L (.blk b (.cells cs te (0, 0))) (.blk b (.cells (setSeg cs o (List.replicate n z)) te (0, 0))) L') (hn : 0 < n) (hfit : o + n ≤ cs.size)
    (h : JL P r N ds ops Q rest t (Mem w0 E Z0 Z wz L')) :
    JL P r N ds ops Q (⟨none, .call { callee := .builtin .clear, args := #[x], argTypes := #[t0] }, ty, pos, aft, none⟩ :: rest) t (Mem w0 E Z0 Z wz L) :=
  JL_opN rfl nofun rfl (fun a w ha hw => by
    obtain ⟨inf, hinf, hz'⟩ := Option.bind_eq_some_iff.1 hzr
    have hh : w.heap[b]? = some (.cells cs te (0, 0)) := hw.own _ ht.mem
    have hc := heap_setCells (List.replicate n z) o w cs hh
    have hst : (storeCells ⟨b, o, none⟩ (List.replicate n z)).run P w = .ok () (w.setCells b o (List.replicate n z)) := run_storeCells_seg hh (fun u hu => by rw [List.eq_of_mem_replicate hu]; exact hz1) (by simpa using hfit)
    refine ⟨.tuple #[], w.setCells b o (List.replicate n z), ?_, hw.turn ht hc.2.2.2.1 hc.2.2.2.2.1 hc.2.2.2.2.2 hc.2.2.1 hc.2.1 hc.1⟩
    have hrun : (Builtin.clear_ #[t0] ty #[.slice (some ⟨b, o, none⟩) n c]).run P w = .ok (.tuple #[]) (w.setCells b o (List.replicate n z)) := by
      obtain ⟨k, rfl⟩ : ∃ k, n = k + 1 := ⟨n - 1, by omega⟩
      simp [Builtin.clear_, run_underlying hu, zeroValue, typeInfo, hinf, hz', zeroCells_one hz, hst]
    unfold execOp
    simp [resolve, invoke, builtin, ha.eval hx, hrun]) h
end
end Go.Eng

set_option linter.unusedVariables false
set_option linter.unusedSimpArgs false
namespace Go.Eng
open Go Go.RowKit Go.MapKept
/-! ### maps whose keys are structs -/
structure KeyOK (P : Program) (kt : TypeId) {α : Type} [DecidableEq α] (kf : α → Value) : Prop where
  desc : ∃ d, P.underlying kt = some d ∧ ∀ a b, Instr.sameNow d (kf a) (kf b) = none
  check : ∀ (e : Bool) (a : α) (w : World), (Instr.checkKey e 10000 kt (kf a)).run P w = .ok () w
  equal : ∀ (a b : α) (w : World), (Op.equal kt (kf a) (kf b)).run P w = .ok (decide (a = b)) w
  bits : ∀ a, Instr.sameBits 10000 (kf a) (kf a) = true
/-- a map's block: keys with values, stamps that differ -/
def MapS {α : Type} (kf : α → Value) (l : List (α × Value)) (o : Obj) : Prop :=
  ∃ es clock, o = .map es clock ∧ es.toList.map entryKV = l.map (fun p => (kf p.1, p.2)) ∧ (∀ e ∈ es.toList, e.born < clock) ∧ (es.toList.map (·.born)).Nodup
/-- the same; the key's entry bears this stamp -/
def MapE {α : Type} [DecidableEq α] (kf : α → Value) (l : List (α × Value)) (k : α) (stamp : Nat) (o : Obj) : Prop :=
  ∃ es clock j e, o = .map es clock ∧ es.toList.map entryKV = l.map (fun p => (kf p.1, p.2)) ∧ (∀ e ∈ es.toList, e.born < clock) ∧ (es.toList.map (·.born)).Nodup ∧ es[j]? = some e ∧ e.born = stamp ∧
    ∀ v, (es.modify j fun e => { e with val := v }).toList.map entryKV = (aset l k v).map (fun p => (kf p.1, p.2))
section
variable {α : Type} [DecidableEq α]
theorem aget_same {l : List (α × Value)} {k : α} {v : Value} (h : aget l k = some v) : aset l k v = l := by
  induction l with
  | nil => simp [aget] at h
  | cons p l ih =>
    simp only [aget] at h
    simp only [aset]
    split at h
    · rename_i hp
      rw [if_pos hp]
      have : p.2 = v := Option.some.inj h
      rw [← this]
    · rename_i hp
      rw [if_neg hp, ih h]
theorem aset_aset (l : List (α × Value)) (k : α) (u v : Value) : aset (aset l k u) k v = aset l k v := by
  induction l with
  | nil => simp [aset]
  | cons p l ih =>
    simp only [aset]
    split
    · rename_i hp
      simp [aset, hp]
    · rename_i hp
      simp [aset, hp, ih]
end
section
variable {P : Program} {w : World} {α : Type} [DecidableEq α] {kt : TypeId} {kf : α → Value}
/-- what a look for a key finds -/
theorem run_findKeyS (hk : KeyOK P kt kf) (a : α) : ∀ (es : List MapEntry) (l : List (α × Value)) (i : Nat), es.map entryKV = l.map (fun p => (kf p.1, p.2)) →
    ((∀ w, (Instr.findAsking kt (kf a) es i).run P w = .ok none w) ∧ aget l a = none ∧ ∀ v b, (es ++ [({ key := kf a, val := v, born := b } : MapEntry)]).map entryKV = (aset l a v).map (fun p => (kf p.1, p.2))) ∨
    ∃ j e, (∀ w, (Instr.findAsking kt (kf a) es i).run P w = .ok (some (i + j, e.val)) w) ∧ es[j]? = some e ∧ e.key = kf a ∧ aget l a = some e.val ∧ ∀ v, (es.modify j (fun e => { e with val := v })).map entryKV = (aset l a v).map (fun p => (kf p.1, p.2))
  | [], [], i, _ => .inl ⟨fun w => by simp [Instr.findAsking], rfl, fun v b => rfl⟩
  | [], _ :: _, i, h => by simp at h
  | _ :: _, [], i, h => by simp at h
  | e :: es, p :: l, i, h => by
    simp only [List.map_cons, List.cons.injEq] at h
    have hek : e.key = kf p.1 := congrArg Prod.fst h.1
    have hev : e.val = p.2 := congrArg Prod.snd h.1
    have heq := hk.equal a p.1
    by_cases hpa : p.1 = a
    · have hd : decide (a = p.1) = true := by simp [hpa]
      refine .inr ⟨0, e, fun w => by simp [Instr.findAsking, hek, heq, hd], rfl, by rw [hek, hpa], by simp [aget, hpa, hev], fun v => ?_⟩
      simp only [aset, hpa, if_true, List.modify_zero_cons, List.map_cons, h.2]
      simp [entryKV, hek, hpa]
    · have hd : decide (a = p.1) = false := by simp; exact fun e => hpa e.symm
      rcases run_findKeyS hk a es l (i + 1) h.2 with ⟨h1, h2, h3⟩ | ⟨j, e', h1, h2, h3, h4, h5⟩
      · refine .inl ⟨fun w => by simp [Instr.findAsking, hek, heq, hd, h1], by simp [aget, hpa, h2], fun v b => ?_⟩
        rw [List.cons_append, List.map_cons, h3 v b, aset, if_neg hpa, List.map_cons, h.1]
      · refine .inr ⟨j + 1, e', fun w => by simp [Instr.findAsking, hek, heq, hd, h1]; omega, by simpa using h2, h3, by simp [aget, hpa, h4], fun v => ?_⟩
        rw [List.modify_succ_cons, List.map_cons, h5 v, aset, if_neg hpa, List.map_cons, h.1]
theorem run_findKeyA (hk : KeyOK P kt kf) (a : α) {es : List MapEntry} {l : List (α × Value)} (h : es.map entryKV = l.map (fun p => (kf p.1, p.2))) : (Instr.findKey kt (kf a) es).run P w = (Instr.findAsking kt (kf a) es 0).run P w := by
  obtain ⟨d, hd, hn⟩ := hk.desc
  unfold Instr.findKey
  rw [Sem.run_bind, run_underlying hd]
  cases es with
  | nil => simp [Instr.findNow, Instr.findAsking]
  | cons e es =>
    cases l with
    | nil => simp at h
    | cons p l =>
      simp only [List.map_cons, List.cons.injEq] at h
      have hek : e.key = kf p.1 := congrArg Prod.fst h.1
      have : Instr.findNow d (kf a) (e :: es) 0 = none := by simp [Instr.findNow, hek, hn]
      simp [this]
theorem run_staysS (hk : KeyOK P kt kf) (a : α) : (Instr.keyThatStays (kf a) (kf a)).run P w = .ok (kf a) w := by
  unfold Instr.keyThatStays
  simp [hk.bits]
end
section
variable {P : Program} {r : Option Nat} {N : Nat} {ds : List Deferred} {ops : Array Oper} {Q : Post} {t : Fm} {rest : List Oper} {M : World → Prop}
variable {w0 : World} {E Z0 Z : Nat → Prop} {wz : World} {L : List Res}
variable {ty : TypeId} {pos : String} {aft : Array Edge} {dd : Nat} {g : Option (Nat × Bool)}
variable {α : Type} [DecidableEq α] {kf : α → Value} {mt kt et : TypeId}
omit [DecidableEq α] in
theorem st_makeMapS (hd : dd < N) (h : ∀ b o, MapS kf [] o → JL P r N ds ops Q rest ((dd, .map (some b)) :: t) (Mem w0 E Z0 Z wz (.blk b o :: L))) :
    JL P r N ds ops Q (⟨some dd, .makeMap mt none, ty, pos, aft, none⟩ :: rest) t (Mem w0 E Z0 Z wz L) :=
  JL_op (β := Nat) (fun b => .map (some b)) (fun b => Mem w0 E Z0 Z wz (.blk b (.map #[] 0) :: L)) rfl nofun rfl hd (fun a w ha hw => by
    refine ⟨w.heap.size, w.alloc (.map #[] 0), ?_, hw.alloc _⟩
    unfold execOp
    simp [Instr.makeMap]) (fun b => h b _ ⟨#[], 0, rfl, rfl, by simp, by simp⟩)
/-- 'm[k]' -/
theorem vo_lookupS {x y : Operand} {b : Nat} {o : Obj} {l : List (α × Value)} {k : α} {z : Value} (hk : KeyOK P kt kf) (hx : ev t x = some (.map (some b))) (hy : ev t y = some (kf k)) (hu : P.underlying mt = some (.map kt et))
    (hz : (P.info? et).bind (·.zero) = some z) (hb : Has Z wz L b o) (hm : MapS kf l o) : ValOf P N ds t (Mem w0 E Z0 Z wz L) ⟨some dd, .lookup mt x y false, ty, pos, aft, none⟩ ((aget l k).getD z) := fun a w ha hw => by
  obtain ⟨es, clock, rfl, h1, _, _⟩ := hm
  have hbl := hw.has hb
  obtain ⟨inf, hinf, hz'⟩ := Option.bind_eq_some_iff.1 hz
  have hzero : (zeroValue et).run P w = .ok z w := by simp [zeroValue, typeInfo, hinf, hz']
  have hfk := run_findKeyA (P := P) (w := w) hk k h1
  unfold execOp
  rcases run_findKeyS hk k es.toList l 0 h1 with ⟨hf, hg, _⟩ | ⟨j, e, hf, _, _, hg, _⟩
  · simp [ha.eval hx, ha.eval hy, Instr.lookup, run_underlying hu, MapKept.run_getObj_map hbl, hk.check, hfk, hf, hzero, hg]
  · simp [ha.eval hx, ha.eval hy, Instr.lookup, run_underlying hu, MapKept.run_getObj_map hbl, hk.check, hfk, hf, hg]
omit [DecidableEq α] in
theorem MapS.push {es : Array MapEntry} {clock : Nat} {l l' : List (α × Value)} {k : α} {v : Value} (h2 : ∀ e ∈ es.toList, e.born < clock) (h3 : (es.toList.map (·.born)).Nodup) (h : (es.toList ++ [({ key := kf k, val := v, born := clock } : MapEntry)]).map entryKV = l'.map (fun p => (kf p.1, p.2))) :
    (es.push ⟨kf k, v, clock⟩).toList.map entryKV = l'.map (fun p => (kf p.1, p.2)) ∧ (∀ e ∈ (es.push ⟨kf k, v, clock⟩).toList, e.born < clock + 1) ∧ ((es.push ⟨kf k, v, clock⟩).toList.map (·.born)).Nodup := by
  rw [Array.toList_push]
  refine ⟨h, fun e he => ?_, ?_⟩
  · rcases List.mem_append.1 he with he | he
    · have := h2 e he; omega
    · simp at he; subst he; simp
  · rw [List.map_append, List.nodup_append]
    refine ⟨h3, by simp, fun a ha b hb => ?_⟩
    simp at hb
    subst hb
    obtain ⟨e, he, rfl⟩ := List.mem_map.1 ha
    have := h2 e he
    omega
omit [DecidableEq α] in
theorem modify_snoc {β : Type} : ∀ (l : List β) (x : β) (f : β → β) {n : Nat}, n = l.length → (l ++ [x]).modify n f = l ++ [f x]
  | [], x, f, _, rfl => by simp
  | y :: l, x, f, _, rfl => by simpa using modify_snoc l x f rfl
omit [DecidableEq α] in
theorem modify_born (es : List MapEntry) (j : Nat) (f : MapEntry → MapEntry) (hf : ∀ e, (f e).born = e.born) : (es.modify j f).map (·.born) = es.map (·.born) := by
  apply List.ext_getElem?
  intro i
  simp only [List.getElem?_map, List.getElem?_modify]
  split
  · cases es[i]? <;> simp [hf]
  · cases es[i]? <;> rfl
omit [DecidableEq α] in
theorem modify_lt {es : List MapEntry} {clock : Nat} (j : Nat) (f : MapEntry → MapEntry) (hf : ∀ e, (f e).born = e.born) (h : ∀ e ∈ es, e.born < clock) : ∀ e ∈ es.modify j f, e.born < clock := fun e he => by
  have h1 : e.born ∈ (es.modify j f).map (·.born) := List.mem_map_of_mem he
  rw [modify_born es j f hf] at h1
  obtain ⟨x, hx, hb⟩ := List.mem_map.1 h1
  rw [← hb]; exact h x hx
/-- 'm[k] = v' -/
theorem do_mapUpdateS {x y z : Operand} {b : Nat} {o : Obj} {l : List (α × Value)} {k : α} {v : Value} {L' : Obj → List Res} (hk : KeyOK P kt kf) (hx : ev t x = some (.map (some b))) (hy : ev t y = some (kf k)) (hz : ev t z = some v) (hu : P.underlying mt = some (.map kt et))
    (hm : MapS kf l o) (ht' : TurnF (.blk b o) (fun o' => .blk b o') L L') :
    ∃ o', MapS kf (aset l k v) o' ∧ ∀ a w, Fr N ds t a → Mem w0 E Z0 Z wz L w → ∃ w', (execOp a.eval ⟨none, .mapUpdate mt x y z, ty, pos, aft, g⟩).run P w = .ok .skip w' ∧ Mem w0 E Z0 Z wz (L' o') w' := by
  obtain ⟨es, clock, rfl, h1, h2, h3⟩ := hm
  rcases run_findKeyS hk k es.toList l 0 h1 with ⟨hf, hg, hs⟩ | ⟨j, e, hf, hj, hkey, hg, hs⟩
  · have hp := MapS.push (kf := kf) (k := k) (v := v) (l := l) h2 h3 (hs v clock)
    refine ⟨.map (es.push ⟨kf k, v, clock⟩) (clock + 1), ⟨_, _, rfl, hp.1, hp.2.1, hp.2.2⟩, fun a w ha hw => ?_⟩
    have ht := ht'.turn (.map (es.push ⟨kf k, v, clock⟩) (clock + 1))
    have hbl : w.heap[b]? = some (.map es clock) := hw.own _ ht.mem
    have hh := MapKept.heap_set (o' := .map (es.push ⟨kf k, v, clock⟩) (clock + 1)) hbl
    refine ⟨{ w with heap := w.heap.setIfInBounds b (.map (es.push ⟨kf k, v, clock⟩) (clock + 1)) }, ?_, hw.turn ht rfl rfl rfl (by simp) hh.2 hh.1⟩
    have hfk := run_findKeyA (P := P) (w := w) hk k h1
    unfold execOp
    simp [ha.eval hx, ha.eval hy, ha.eval hz, Instr.mapUpdate, run_underlying hu, MapKept.run_getObj_map hbl, hk.check, hfk, hf, MapKept.run_setObj_map _ hbl]
  · have hes : es[j]? = some e := by rw [← Array.getElem?_toList]; exact hj
    have hms : (es.modify j fun e => { e with key := kf k, val := v }).toList = es.toList.modify j fun e => { e with val := v } := by
      rw [Array.toList_modify]
      apply List.ext_getElem?
      intro i
      simp only [List.getElem?_modify]
      split
      · rename_i hi
        subst hi
        rw [hj]
        simp [hkey]
      · rfl
    refine ⟨.map (es.modify j fun e => { e with key := kf k, val := v }) clock, ⟨_, _, rfl, by rw [hms]; exact hs v, by rw [hms]; exact modify_lt j _ (fun _ => rfl) h2, by rw [hms, modify_born es.toList j (fun e => { e with val := v }) (fun _ => rfl)]; exact h3⟩, fun a w ha hw => ?_⟩
    have ht := ht'.turn (.map (es.modify j fun e => { e with key := kf k, val := v }) clock)
    have hbl : w.heap[b]? = some (.map es clock) := hw.own _ ht.mem
    have hh := MapKept.heap_set (o' := .map (es.modify j fun e => { e with key := kf k, val := v }) clock) hbl
    refine ⟨{ w with heap := w.heap.setIfInBounds b (.map (es.modify j fun e => { e with key := kf k, val := v }) clock) }, ?_, hw.turn ht rfl rfl rfl (by simp) hh.2 hh.1⟩
    have hst : (Instr.keyThatStays e.key (kf k)).run P w = .ok (kf k) w := by rw [hkey]; exact run_staysS hk k
    have hfk := run_findKeyA (P := P) (w := w) hk k h1
    unfold execOp
    simp [ha.eval hx, ha.eval hy, ha.eval hz, Instr.mapUpdate, run_underlying hu, MapKept.run_getObj_map hbl, hk.check, hfk, hf, hes, hst, MapKept.run_setObj_map _ hbl]
/-- an entry to be written: 'm[k] op= ..' -/
theorem do_mapEntry {x y : Operand} {b : Nat} {o : Obj} {l : List (α × Value)} {k : α} {z : Value} {L' : Obj → List Res} (hk : KeyOK P kt kf) (hx : ev t x = some (.map (some b))) (hy : ev t y = some (kf k)) (hu : P.underlying mt = some (.map kt et)) (hz : (P.info? et).bind (·.zero) = some z)
    (hm : MapS kf l o) (ht' : TurnF (.blk b o) (fun o' => .blk b o') L L') :
    ∃ o' stamp, MapE kf (aset l k ((aget l k).getD z)) k stamp o' ∧ ∀ a w, Fr N ds t a → Mem w0 E Z0 Z wz L w → ∃ w', (execOp a.eval ⟨some dd, .mapEntry mt x y, ty, pos, aft, g⟩).run P w = .ok (.value (.tuple #[(aget l k).getD z, .int .i64 (stamp : Nat)])) w' ∧ Mem w0 E Z0 Z wz (L' o') w' := by
  obtain ⟨es, clock, rfl, h1, h2, h3⟩ := hm
  obtain ⟨inf, hinf, hz'⟩ := Option.bind_eq_some_iff.1 hz
  have hzero : ∀ w, (zeroValue et).run P w = .ok z w := fun w => by simp [zeroValue, typeInfo, hinf, hz']
  rcases run_findKeyS hk k es.toList l 0 h1 with ⟨hf, hg, hs⟩ | ⟨j, e, hf, hj, hkey, hg, hs⟩
  · have hp := MapS.push (kf := kf) (k := k) (v := z) (l := l) h2 h3 (hs z clock)
    have hlast : (es.push ⟨kf k, z, clock⟩)[es.size]? = some ⟨kf k, z, clock⟩ := by simp
    refine ⟨.map (es.push ⟨kf k, z, clock⟩) (clock + 1), clock, ⟨_, _, es.size, ⟨kf k, z, clock⟩, rfl, by rw [hg]; exact hp.1, hp.2.1, hp.2.2, hlast, rfl, fun v => ?_⟩, fun a w ha hw => ?_⟩
    · rw [hg]
      have h9 := hs v clock
      simp only [Option.getD_none]
      rw [aset_aset, ← h9, Array.toList_modify, Array.toList_push]
      congr 1
      exact modify_snoc es.toList _ _ (by simp)
    have ht := ht'.turn (.map (es.push ⟨kf k, z, clock⟩) (clock + 1))
    have hbl : w.heap[b]? = some (.map es clock) := hw.own _ ht.mem
    have hh := MapKept.heap_set (o' := .map (es.push ⟨kf k, z, clock⟩) (clock + 1)) hbl
    refine ⟨{ w with heap := w.heap.setIfInBounds b (.map (es.push ⟨kf k, z, clock⟩) (clock + 1)) }, ?_, hw.turn ht rfl rfl rfl (by simp) hh.2 hh.1⟩
    have hfk := run_findKeyA (P := P) (w := w) hk k h1
    unfold execOp
    simp [ha.eval hx, ha.eval hy, Instr.mapEntry, run_underlying hu, MapKept.run_getObj_map hbl, hk.check, hfk, hf, hzero, hg, goInt, MapKept.run_setObj_map _ hbl]
  · have hes : es[j]? = some e := by rw [← Array.getElem?_toList]; exact hj
    have hms : es.modify j (fun e => { e with key := kf k }) = es := by
      apply Array.ext_getElem?
      intro i
      rw [Array.getElem?_modify]
      split
      · rename_i hi
        subst hi
        rw [hes]
        simp [← hkey]
      · rfl
    refine ⟨.map es clock, e.born, ⟨es, clock, j, e, rfl, by rw [hg, Option.getD_some, aget_same hg]; exact h1, h2, h3, hes, rfl, fun v => ?_⟩, fun a w ha hw => ?_⟩
    · rw [aset_aset, Array.toList_modify]; exact hs v
    have ht := ht'.turn (.map es clock)
    have hbl : w.heap[b]? = some (.map es clock) := hw.own _ ht.mem
    have hst : (Instr.keyThatStays e.key (kf k)).run P w = .ok (kf k) w := by rw [hkey]; exact run_staysS hk k
    have hfk := run_findKeyA (P := P) (w := w) hk k h1
    have hh := MapKept.heap_set (o' := .map es clock) hbl
    refine ⟨{ w with heap := w.heap.setIfInBounds b (.map es clock) }, ?_, hw.turn ht rfl rfl rfl (by simp) hh.2 hh.1⟩
    unfold execOp
    simp [ha.eval hx, ha.eval hy, Instr.mapEntry, run_underlying hu, MapKept.run_getObj_map hbl, hk.check, hfk, hf, hes, hst, hg, goInt, hms, MapKept.run_setObj_map _ hbl]
theorem do_entryStore {x y z : Operand} {b : Nat} {o : Obj} {l : List (α × Value)} {k : α} {v : Value} {stamp : Nat} {kd : IntKind} {L' : Obj → List Res} (hx : ev t x = some (.map (some b))) (hy : ev t y = some (.int kd stamp)) (hz : ev t z = some v)
    (hm : MapE kf l k stamp o) (ht' : TurnF (.blk b o) (fun o' => .blk b o') L L') :
    ∃ o', MapS kf (aset l k v) o' ∧ ∀ a w, Fr N ds t a → Mem w0 E Z0 Z wz L w → ∃ w', (execOp a.eval ⟨none, .entryStore mt x y z, ty, pos, aft, g⟩).run P w = .ok .skip w' ∧ Mem w0 E Z0 Z wz (L' o') w' := by
  obtain ⟨es, clock, j, e, rfl, h1, h2, h3, hes, rfl, hs⟩ := hm
  refine ⟨.map (es.modify j fun e => { e with val := v }) clock, ⟨_, _, rfl, hs v, by rw [Array.toList_modify]; exact modify_lt j _ (fun _ => rfl) h2, by rw [Array.toList_modify, modify_born es.toList j (fun e => { e with val := v }) (fun _ => rfl)]; exact h3⟩, fun a w ha hw => ?_⟩
  have ht := ht'.turn (.map (es.modify j fun e => { e with val := v }) clock)
  have hbl : w.heap[b]? = some (.map es clock) := hw.own _ ht.mem
  have hh := MapKept.heap_set (o' := .map (es.modify j fun e => { e with val := v }) clock) hbl
  have hj : es.findIdx? (fun x => (x.born : Int) == (e.born : Int)) = some j := by
    obtain ⟨hjl1, hjl2⟩ := (Array.getElem?_eq_some_iff.1 hes)
    rw [Array.findIdx?_eq_some_iff_getElem]
    refine ⟨hjl1, by simp [hjl2], fun i hi => ?_⟩
    simp only [Bool.not_eq_true, beq_eq_false_iff_ne, ne_eq]
    intro hb
    have hb' : (es[i]'(by omega)).born = e.born := by omega
    rw [← hjl2] at hb'
    have hnd := (List.nodup_iff_pairwise_ne.1 h3)
    rw [List.pairwise_iff_getElem] at hnd
    have := hnd i j (by simp; omega) (by simpa using hjl1) hi
    simp at this
    exact this hb'
  refine ⟨{ w with heap := w.heap.setIfInBounds b (.map (es.modify j fun e => { e with val := v }) clock) }, ?_, hw.turn ht rfl rfl rfl (by simp) hh.2 hh.1⟩
  unfold execOp
  simp [ha.eval hx, ha.eval hy, ha.eval hz, Instr.entryStore, MapKept.run_getObj_map hbl, asInt, asIntOf, hj, MapKept.run_setObj_map _ hbl]
end
end Go.Eng

set_option linter.unusedVariables false
set_option linter.unusedSimpArgs false
namespace Go.Eng
open Go Go.RowKit Go.MapKept
section
variable {P : Program} {r : Option Nat} {N : Nat} {ds : List Deferred} {ops : Array Oper} {Q : Post} {t : Fm} {rest : List Oper} {M : World → Prop} {F : World → Prop} {m fuel : Nat} {listed : Array Bool}
variable {w0 : World} {E Z0 Z : Nat → Prop} {wz : World} {L : List Res}
variable {ty : TypeId} {pos : String} {aft : Array Edge} {d dd : Nat} {g : Option (Nat × Bool)}
/-! ### reading by what is known of the heap alone -/
theorem vo_loadH {lt : TypeId} {x : Operand} {b o : Nat} {cs : Array Value} {te : TypeId} {fr : Nat × Nat} {v : Value} (hx : ev t x = some (.pointer (some ⟨b, o, none⟩)))
    (hb : ∀ w, M w → w.heap[b]? = some (.cells cs te fr)) (hp : PartAt P lt cs o v) : ValOf P N ds t M ⟨some d, .load lt x, ty, pos, aft, none⟩ v := fun a w ha hw => by
  unfold execOp
  simp [ha.eval hx, run_loadAt_part (hb w hw) hp]
theorem vo_loadRowH {lt : TypeId} {x : Operand} {b o cap sz n : Nat} {e : TypeId} {xs : List Value} {v : Value} (hx : ev t x = some (.pointer (some ⟨b, o, none⟩)))
    (hb : ∀ w, M w → w.ownsRow 0 e sz (.slice (some ⟨b, 0, none⟩) n cap) n xs) (hp : PartAt P lt xs.toArray o v) : ValOf P N ds t M ⟨some d, .load lt x, ty, pos, aft, none⟩ v := fun a w ha hw => by
  obtain ⟨hl, h1⟩ := hb w hw
  rcases h1 with ⟨h1, _⟩ | ⟨g, cap', cur, h1, _, hg, hnc, hcm, hcs, htk⟩
  · cases h1
  · cases h1
    have key : ∀ i u, xs[i]? = some u → cur[i]? = some u := fun i u hu => by
      have hi := (List.getElem?_eq_some_iff.1 hu).1
      rw [← Array.getElem?_toList, ← hu, ← htk, List.getElem?_take, if_pos (by omega)]
    have hp' : PartAt P lt cur o v := by
      cases hp with
      | cell hu hd h => exact .cell hu hd (key _ _ (by simpa using h))
      | agg hu hd hi h => exact .agg hu hd hi (fun j u hj => key _ _ (by simpa using h j u hj))
    unfold execOp
    simp [ha.eval hx, run_loadAt_part hg hp']
theorem JR_mem {M' : World → Prop} (h : JR P N ops Q F m fuel listed t M') (hM : ∀ w, M w → M' w) : JR P N ops Q F m fuel listed t M := fun a w ha hw => h a w ha (hM w hw)
theorem JK_mem {M' : World → Prop} {i : Nat} (h : JK P N ops Q F m fuel listed t M' i) (hM : ∀ w, M w → M' w) : JK P N ops Q F m fuel listed t M i := fun a w ha hw => h a w ha (hM w hw)
theorem JK_mcall {i : Nat} {f : FuncId} {l : List Operand} {ats : Array TypeId} {vs : List Value} {R : Value → List Res → Prop} (L0 K : List Res) (hLK : L = L0 ++ K) (hi : ops[i]? = some ⟨some d, .call { callee := .value (.func f), args := l.toArray, argTypes := ats }, ty, pos, aft, g⟩)
    (hw : Wants ops t g) (hl : evOps t l = some vs) (he : Enters P f) (hd : d < N)
    (hc : ∀ w, Mem w0 E Z0 Z wz (L0 ++ K) w → MCalls P f vs.toArray w L0 R) (hF : ∀ v L' w, R v L' → Mem w0 E Z0 Z wz (L' ++ K) w → F w)
    (h : ∀ v L', R v L' → JR P N ops Q F m fuel (listed.setIfInBounds i true) ((d, v) :: t) (Mem w0 E Z0 Z wz (L' ++ K))) : JK P N ops Q F m fuel listed t (Mem w0 E Z0 Z wz L) i := by
  subst hLK
  exact JK_call (β := { x : Value × List Res // R x.1 x.2 }) (fun x => x.1.1) (fun x => Mem w0 E Z0 Z wz (x.1.2 ++ K)) hi rfl hd hw (fun a w ha _ => run_call hl he a w ha)
    (fun w hw => Calls.mono (hc w hw) fun e w' ⟨v, L', he', hm, hR⟩ => ⟨⟨(v, L'), hR⟩, he', hw.moves hm⟩) (fun x w' h => hF _ _ w' x.2 h) (fun x => h _ _ x.2)
variable {α : Type} [DecidableEq α] {kf : α → Value} {mt kt et : TypeId}
theorem vo_lookupSH {x y : Operand} {b : Nat} {o : Obj} {l : List (α × Value)} {k : α} {z : Value} (hk : KeyOK P kt kf) (hx : ev t x = some (.map (some b))) (hy : ev t y = some (kf k)) (hu : P.underlying mt = some (.map kt et))
    (hz : (P.info? et).bind (·.zero) = some z) (hb : ∀ w, M w → w.heap[b]? = some o) (hm : MapS kf l o) : ValOf P N ds t M ⟨some dd, .lookup mt x y false, ty, pos, aft, none⟩ ((aget l k).getD z) := fun a w ha hw => by
  obtain ⟨es, clock, rfl, h1, _, _⟩ := hm
  have hbl := hb w hw
  obtain ⟨inf, hinf, hz'⟩ := Option.bind_eq_some_iff.1 hz
  have hzero : (zeroValue et).run P w = .ok z w := by simp [zeroValue, typeInfo, hinf, hz']
  have hfk := run_findKeyA (P := P) (w := w) hk k h1
  unfold execOp
  rcases run_findKeyS hk k es.toList l 0 h1 with ⟨hf, hg, _⟩ | ⟨j, e, hf, _, _, hg, _⟩
  · simp [ha.eval hx, ha.eval hy, Instr.lookup, run_underlying hu, MapKept.run_getObj_map hbl, hk.check, hfk, hf, hzero, hg]
  · simp [ha.eval hx, ha.eval hy, Instr.lookup, run_underlying hu, MapKept.run_getObj_map hbl, hk.check, hfk, hf, hg]
theorem st_mapEntry {x y : Operand} {b : Nat} {o : Obj} {l : List (α × Value)} {k : α} {z : Value} {L' : Obj → List Res} (hk : KeyOK P kt kf) (hx : ev t x = some (.map (some b))) (hy : ev t y = some (kf k)) (hu : P.underlying mt = some (.map kt et)) (hz : (P.info? et).bind (·.zero) = some z)
    (hm : MapS kf l o) (ht' : TurnF (.blk b o) (fun o' => .blk b o') L L') (hd : dd < N)
    (h : ∀ o' (stamp : Nat), MapE kf (aset l k ((aget l k).getD z)) k stamp o' → JL P r N ds ops Q rest ((dd, .tuple #[(aget l k).getD z, .int .i64 stamp]) :: t) (Mem w0 E Z0 Z wz (L' o'))) :
    JL P r N ds ops Q (⟨some dd, .mapEntry mt x y, ty, pos, aft, none⟩ :: rest) t (Mem w0 E Z0 Z wz L) := by
  obtain ⟨o', stamp, hme, hrun⟩ := do_mapEntry (P := P) (N := N) (ds := ds) (t := t) (w0 := w0) (E := E) (Z0 := Z0) (Z := Z) (wz := wz) (L := L) (ty := ty) (pos := pos) (aft := aft) (dd := dd) (g := none) (mt := mt) hk hx hy hu hz hm ht'
  exact JL_op (β := Unit) (fun _ => .tuple #[(aget l k).getD z, .int .i64 stamp]) (fun _ => Mem w0 E Z0 Z wz (L' o')) rfl nofun rfl hd (fun a w ha hw => by
    obtain ⟨w', h1, h2⟩ := hrun a w ha hw
    exact ⟨(), w', h1, h2⟩) (fun _ => h o' stamp hme)
theorem st_entryStore {x y z : Operand} {b : Nat} {o : Obj} {l : List (α × Value)} {k : α} {v : Value} {stamp : Nat} {kd : IntKind} {L' : Obj → List Res} (hx : ev t x = some (.map (some b))) (hy : ev t y = some (.int kd stamp)) (hz : ev t z = some v)
    (hm : MapE kf l k stamp o) (ht' : TurnF (.blk b o) (fun o' => .blk b o') L L')
    (h : ∀ o', MapS kf (aset l k v) o' → JL P r N ds ops Q rest t (Mem w0 E Z0 Z wz (L' o'))) :
    JL P r N ds ops Q (⟨none, .entryStore mt x y z, ty, pos, aft, none⟩ :: rest) t (Mem w0 E Z0 Z wz L) := by
  obtain ⟨o', hms, hrun⟩ := do_entryStore (P := P) (N := N) (ds := ds) (t := t) (w0 := w0) (E := E) (Z0 := Z0) (Z := Z) (wz := wz) (L := L) (ty := ty) (pos := pos) (aft := aft) (g := none) (mt := mt) hx hy hz hm ht'
  exact JL_do _ rfl nofun rfl hrun (h o' hms)
theorem st_mapUpdateS {x y z : Operand} {b : Nat} {o : Obj} {l : List (α × Value)} {k : α} {v : Value} {L' : Obj → List Res} (hk : KeyOK P kt kf) (hx : ev t x = some (.map (some b))) (hy : ev t y = some (kf k)) (hz : ev t z = some v) (hu : P.underlying mt = some (.map kt et))
    (hm : MapS kf l o) (ht' : TurnF (.blk b o) (fun o' => .blk b o') L L')
    (h : ∀ o', MapS kf (aset l k v) o' → JL P r N ds ops Q rest t (Mem w0 E Z0 Z wz (L' o'))) :
    JL P r N ds ops Q (⟨none, .mapUpdate mt x y z, ty, pos, aft, none⟩ :: rest) t (Mem w0 E Z0 Z wz L) := by
  obtain ⟨o', hms, hrun⟩ := do_mapUpdateS (P := P) (N := N) (ds := ds) (t := t) (w0 := w0) (E := E) (Z0 := Z0) (Z := Z) (wz := wz) (L := L) (ty := ty) (pos := pos) (aft := aft) (g := none) (mt := mt) hk hx hy hz hu hm ht'
  exact JL_do _ rfl nofun rfl hrun (h o' hms)
theorem JR_mapUpdateS {x y z : Operand} {b : Nat} {o : Obj} {l : List (α × Value)} {k : α} {v : Value} {L' : Obj → List Res} (hk : KeyOK P kt kf) (hop : ops[m]? = some ⟨none, .mapUpdate mt x y z, ty, pos, aft, none⟩) (hr : Region.ready .any ops listed = [m]) (hrd : Region.ready .any ops (listed.setIfInBounds m true) = []) (hms : Nat.blt m listed.size = true)
    (hx : ev t x = some (.map (some b))) (hy : ev t y = some (kf k)) (hz : ev t z = some v) (hu : P.underlying mt = some (.map kt et))
    (hm : MapS kf l o) (ht' : TurnF (.blk b o) (fun o' => .blk b o') L L')
    (h : ∀ o', MapS kf (aset l k v) o' → JX N [] .normal Q t (Mem w0 E Z0 Z wz (L' o'))) : JR P N ops Q F m (fuel + 1) listed t (Mem w0 E Z0 Z wz L) := by
  obtain ⟨o', hms', hrun⟩ := do_mapUpdateS (P := P) (N := N) (ds := []) (t := t) (w0 := w0) (E := E) (Z0 := Z0) (Z := Z) (wz := wz) (L := L) (ty := ty) (pos := pos) (aft := aft) (g := none) (mt := mt) hk hx hy hz hu hm ht'
  exact JR_last hop rfl (fun a ha => rfl) hr hrd _ hrun (Nat.le_of_ble_eq_true hms) (h o' hms')
end
theorem Mem.hblk {w0 : World} {E Z0 Z : Nat → Prop} {wz w : World} {L : List Res} (h : Mem w0 E Z0 Z wz L w) {b : Nat} {o : Obj} (hm : Res.blk b o ∈ L) : w.heap[b]? = some o := h.own _ hm
theorem Mem.hrow {w0 : World} {E Z0 Z : Nat → Prop} {wz w : World} {L : List Res} (h : Mem w0 E Z0 Z wz L w) {v : Value} {e : TypeId} {sz n : Nat} {xs : List Value} (hm : Res.row v e sz n xs ∈ L) : w.ownsRow 0 e sz v n xs := h.own _ hm
/-! ### groups: keys with rows -/
section
variable {α β : Type} [DecidableEq α]
abbrev Grps (α β : Type) := List (α × Value × List β)
def gM (st : Grps α β) : List (α × Value) := st.map fun e => (e.1, e.2.1)
def gR (e : TypeId) (f : β → Value) (st : Grps α β) : List Res := rowsR e (st.map fun x => (x.2.1, x.2.2.map f))
def gG (st : Grps α β) (x : α) : List β := ((st.find? fun e => decide (e.1 = x)).map (·.2.2)).getD []
theorem g_split (st : Grps α β) (x : α) : (∃ s1 u ks s2, st = s1 ++ (x, u, ks) :: s2 ∧ ∀ p ∈ s1, p.1 ≠ x) ∨ ∀ p ∈ st, p.1 ≠ x := by
  induction st with
  | nil => exact .inr (by simp)
  | cons p st ih =>
    by_cases h : p.1 = x
    · obtain ⟨y, u, ks⟩ := p
      have h' : y = x := h
      subst h'
      exact .inl ⟨[], u, ks, st, rfl, by simp⟩
    · rcases ih with ⟨s1, u, ks, s2, rfl, h2⟩ | h1
      · refine .inl ⟨p :: s1, u, ks, s2, rfl, fun q hq => ?_⟩
        rcases List.mem_cons.1 hq with rfl | hq
        · exact h
        · exact h2 q hq
      · refine .inr fun q hq => ?_
        rcases List.mem_cons.1 hq with rfl | hq
        · exact h
        · exact h1 q hq
theorem ag_none {l : List (α × Value)} {x : α} (h : ∀ p ∈ l, p.1 ≠ x) : aget l x = none ∧ ∀ v, aset l x v = l ++ [(x, v)] := by
  induction l with
  | nil => exact ⟨rfl, fun v => rfl⟩
  | cons p l ih =>
    have h1 := ih (fun q hq => h q (.tail _ hq))
    have h2 := h p (.head _)
    exact ⟨by simp [aget, h2, h1.1], fun v => by simp [aset, h2, h1.2 v]⟩
theorem ag_mid {s1 s2 : List (α × Value)} {x : α} {u : Value} (h : ∀ p ∈ s1, p.1 ≠ x) : aget (s1 ++ (x, u) :: s2) x = some u ∧ ∀ v, aset (s1 ++ (x, u) :: s2) x v = s1 ++ (x, v) :: s2 := by
  induction s1 with
  | nil => exact ⟨by simp [aget], fun v => by simp [aset]⟩
  | cons p s1 ih =>
    have h1 := ih (fun q hq => h q (.tail _ hq))
    have h2 := h p (.head _)
    exact ⟨by simp [aget, h2, h1.1], fun v => by simp [aset, h2, h1.2 v]⟩
theorem gG_none {st : Grps α β} {x : α} (h : ∀ p ∈ st, p.1 ≠ x) : gG st x = [] := by
  unfold gG
  rw [List.find?_eq_none.2 (fun p hp => by simpa using h p hp)]; rfl
theorem gG_mid {s1 s2 : Grps α β} {x : α} {u : Value} {ks : List β} (h : ∀ p ∈ s1, p.1 ≠ x) : gG (s1 ++ (x, u, ks) :: s2) x = ks := by
  unfold gG
  rw [List.find?_append, List.find?_eq_none.2 (fun p hp => by simpa using h p hp)]
  simp
theorem gG_other {s1 s2 : Grps α β} {x y : α} {u v : Value} {ks ls : List β} (hy : x ≠ y) : gG (s1 ++ (x, u, ks) :: s2) y = gG (s1 ++ (x, v, ls) :: s2) y := by
  unfold gG
  rw [List.find?_append, List.find?_append]
  simp [hy]
theorem gG_snoc {st : Grps α β} {x y : α} {u : Value} {ks : List β} (h : ∀ p ∈ st, p.1 ≠ x) : gG (st ++ [(x, u, ks)]) y = if x = y then ks else gG st y := by
  unfold gG
  rw [List.find?_append]
  by_cases hy : x = y
  · subst hy
    rw [List.find?_eq_none.2 (fun p hp => by simpa using h p hp)]
    simp
  · simp [hy]
omit [DecidableEq α] in
theorem gM_mid (s1 s2 : Grps α β) (x : α) (u : Value) (ks : List β) : gM (s1 ++ (x, u, ks) :: s2) = gM s1 ++ (x, u) :: gM s2 := by simp [gM]
omit [DecidableEq α] in
theorem gR_mid (e : TypeId) (f : β → Value) (s1 s2 : Grps α β) (x : α) (u : Value) (ks : List β) : gR e f (s1 ++ (x, u, ks) :: s2) = gR e f s1 ++ .row u e 1 ks.length (ks.map f) :: gR e f s2 := by simp [gR, rowsR]
omit [DecidableEq α] in
theorem gM_ne {s : Grps α β} {x : α} (h : ∀ p ∈ s, p.1 ≠ x) : ∀ p ∈ gM s, p.1 ≠ x := by
  intro p hp
  obtain ⟨q, hq, rfl⟩ := List.mem_map.1 hp
  exact h q hq
omit [DecidableEq α] in
theorem gM_snoc (st : Grps α β) (x : α) (u : Value) (ks : List β) : gM (st ++ [(x, u, ks)]) = gM st ++ [(x, u)] := by simp [gM]
omit [DecidableEq α] in
theorem gR_snoc (e : TypeId) (f : β → Value) (st : Grps α β) (x : α) (u : Value) (ks : List β) : gR e f (st ++ [(x, u, ks)]) = gR e f st ++ [.row u e 1 ks.length (ks.map f)] := by simp [gR, rowsR]
/-- what a look into the groups gives is a slice of that length -/
theorem Mem.gSlice {w0 : World} {E Z0 Z : Nat → Prop} {wz w : World} {L : List Res} (h : Mem w0 E Z0 Z wz L w) {e : TypeId} {f : β → Value} {st : Grps α β} (hs : ∀ r ∈ gR e f st, r ∈ L) (x : α) : ∃ A c, (aget (gM st) x).getD (.slice none 0 0) = .slice A (gG st x).length c := by
  rcases g_split st x with ⟨s1, u, ks, s2, rfl, hne⟩ | hne
  · rw [gM_mid, (ag_mid (gM_ne hne)).1, gG_mid hne, Option.getD_some]
    have hm : Res.row u e 1 ks.length (ks.map f) ∈ L := hs _ (by rw [gR_mid]; simp)
    rcases (h.own _ hm).2 with ⟨rfl, h0⟩ | ⟨g, cap, cur, rfl, _⟩
    · exact ⟨_, _, by rw [h0]⟩
    · exact ⟨_, _, rfl⟩
  · rw [(ag_none (gM_ne hne)).1, gG_none hne]
    exact ⟨_, _, rfl⟩
end
section
variable {P : Program} {r : Option Nat} {N : Nat} {ds : List Deferred} {ops : Array Oper} {Q : Post} {t : Fm}
variable {w0 : World} {E Z0 Z : Nat → Prop} {wz : World} {L : List Res}
theorem JC_gSlice {α β : Type} [DecidableEq α] {e : TypeId} {f : β → Value} {st : Grps α β} {c : Code} (x : α) (hs : ∀ r ∈ gR e f st, r ∈ L) (h : ∀ A cap, (aget (gM st) x).getD (.slice none 0 0) = .slice A (gG st x).length cap → JC P r N ds c Q t (Mem w0 E Z0 Z wz L)) : JC P r N ds c Q t (Mem w0 E Z0 Z wz L) := fun a w ha hw => by
  obtain ⟨A, cap, hq⟩ := hw.gSlice hs x
  exact h A cap hq a w ha hw
theorem JC_rowSome3 {v : Value} {e : TypeId} {sz n : Nat} {xs : List Value} {c : Code} (hm : Res.row v e sz n xs ∈ L) (hn : 0 < n) (h : ∀ g cap, v = .slice (some ⟨g, 0, none⟩) n cap → n ≤ cap → cap ≤ 9223372036854775807 → JC P r N ds c Q t (Mem w0 E Z0 Z wz L)) : JC P r N ds c Q t (Mem w0 E Z0 Z wz L) := fun a w ha hw => by
  rcases (hw.own _ hm).2 with ⟨rfl, h0⟩ | ⟨g, cap, cur, rfl, _, _, h1, h2, _⟩
  · omega
  · exact h _ _ rfl h1 h2 a w ha hw
theorem JC_perm {c : Code} {L' : List Res} (hp : L.Perm L') (h : JC P r N ds c Q t (Mem w0 E Z0 Z wz L')) : JC P r N ds c Q t (Mem w0 E Z0 Z wz L) := fun a w ha hw => h a w ha (hw.perm hp)
end
end Go.Eng
