/-
  Part of the proofs over this seat: E16 E17 E18 E19 E20 E21 E22 E23. Own work; imports the kit.
-/
import Derived.MapKept
import Derived.Laws.IdiomStrings
import Derived.Laws.Strings
import Derived.Laws.Cover3
import Derived.Lib.SliceRun
import Derived.Laws.MakeOwn
import Derived.Test.YtdcafpemkpcmpaaData1
set_option linter.unusedVariables false
set_option linter.unusedSimpArgs false
namespace Go.Eng
open Go Go.RowKit
/-! ### slices of slices -/
theorem RVals.sliced {Z : Nat → Prop} {w : World} {xs : List Value} {A : Option Addr} {n c l h : Nat} (hr : RVals Z w xs (.slice A n c)) (hl : l ≤ h) (hh : h ≤ n) : RVals Z w ((xs.drop l).take (h - l)) (Go.sliced A l h c 1) := by
  obtain ⟨A', c', he, h1, h2, h3⟩ := hr
  cases he
  unfold Go.sliced
  have hlen : ((xs.drop l).take (h - l)).length = h - l := by simp; omega
  refine ⟨_, c - l, by rw [hlen], by omega, by omega, ?_⟩
  rcases h3 with rfl | ⟨b, o, cs, te, fr, rfl, hf, hc⟩
  · exact .inl (by simp)
  · by_cases hm : c = l
    · exact .inl (List.eq_nil_of_length_eq_zero (by omega))
    · refine .inr ⟨b, o + l, cs, te, fr, ?_, hf, fun i u hu => ?_⟩
      · rw [if_neg hm]; simp only [Option.map_some, Addr.add]; split <;> simp_all
      · rw [List.getElem?_take] at hu
        split at hu
        · rw [List.getElem?_drop] at hu
          rw [Nat.add_assoc]
          exact hc _ _ hu
        · cases hu
section
variable {P : Program} {r : Option Nat} {N : Nat} {ds : List Deferred} {ops : Array Oper} {Q : Post} {t : Fm} {rest : List Oper} {M : World → Prop}
variable {w0 : World} {E Z0 Z : Nat → Prop} {wz : World} {L : List Res}
variable {ty : TypeId} {pos : String} {aft : Array Edge} {d : Nat}
theorem vo_sliceLH {xt e : TypeId} {x lo hi : Operand} {A : Option Addr} {n c sz : Nat} {k k' : IntKind} {l h : Int} (hx : ev t x = some (.slice A n c)) (hlo : ev t lo = some (.int k l)) (hhi : ev t hi = some (.int k' h)) (hu : P.underlying xt = some (.slice e)) (hz : (P.info? e).map (·.size) = some sz)
    (h0 : 0 ≤ l) (h1 : l ≤ h) (h2 : h ≤ c) : ValOf P N ds t M ⟨some d, .slice xt x (some lo) (some hi) none, ty, pos, aft, none⟩ (Go.sliced A l.toNat h.toNat c sz) := fun a w ha hw => by
  have he : P.elem xt = e := by simp [Program.elem, hu]
  obtain ⟨inf, hinf, rfl⟩ := Option.map_eq_some_iff.1 hz
  unfold execOp
  simp [ha.eval hx, ha.eval hlo, ha.eval hhi, run_sliceAt_slice, run_slice_lh, he, hu, h0, h1, h2, sizeOf, typeInfo, hinf]
theorem vo_sliceL {xt e : TypeId} {x lo : Operand} {A : Option Addr} {n c sz : Nat} {k : IntKind} {l : Int} (hx : ev t x = some (.slice A n c)) (hlo : ev t lo = some (.int k l)) (hu : P.underlying xt = some (.slice e)) (hz : (P.info? e).map (·.size) = some sz)
    (h0 : 0 ≤ l) (h1 : l ≤ n) : ValOf P N ds t M ⟨some d, .slice xt x (some lo) none none, ty, pos, aft, none⟩ (Go.sliced A l.toNat n c sz) := fun a w ha hw => by
  have he : P.elem xt = e := by simp [Program.elem, hu]
  obtain ⟨inf, hinf, rfl⟩ := Option.map_eq_some_iff.1 hz
  unfold execOp
  simp [ha.eval hx, ha.eval hlo, run_sliceAt_slice, run_slice_any, Instr.sliceBounds, run_sliceBound, he, hu, h0, h1, sizeOf, typeInfo, hinf]
theorem vo_sliceH {xt e : TypeId} {x hi : Operand} {A : Option Addr} {n c sz : Nat} {k' : IntKind} {h : Int} (hx : ev t x = some (.slice A n c)) (hhi : ev t hi = some (.int k' h)) (hu : P.underlying xt = some (.slice e)) (hz : (P.info? e).map (·.size) = some sz)
    (h0 : 0 ≤ h) (h2 : h ≤ c) : ValOf P N ds t M ⟨some d, .slice xt x none (some hi) none, ty, pos, aft, none⟩ (Go.sliced A 0 h.toNat c sz) := fun a w ha hw => by
  have he : P.elem xt = e := by simp [Program.elem, hu]
  obtain ⟨inf, hinf, rfl⟩ := Option.map_eq_some_iff.1 hz
  unfold execOp
  simp [ha.eval hx, ha.eval hhi, run_sliceAt_slice, run_slice_h, he, hu, h0, h2, sizeOf, typeInfo, hinf]
/-- reading from a row of the call's own -/
theorem vo_loadRow {lt : TypeId} {x : Operand} {b o cap sz n : Nat} {e : TypeId} {xs : List Value} {v : Value} (hx : ev t x = some (.pointer (some ⟨b, o, none⟩)))
    (hm : Res.row (.slice (some ⟨b, 0, none⟩) n cap) e sz n xs ∈ L) (hp : PartAt P lt xs.toArray o v) : ValOf P N ds t (Mem w0 E Z0 Z wz L) ⟨some d, .load lt x, ty, pos, aft, none⟩ v := fun a w ha hw => by
  obtain ⟨hl, h1⟩ := hw.own _ hm
  rcases h1 with ⟨h1, _⟩ | ⟨g, cap', cur, h1, _, hg, hnc, hcm, hcs, htk⟩
  · cases h1
  · cases h1
    have key : ∀ i u, xs[i]? = some u → cur[i]? = some u := fun i u hu => by
      have hi := (List.getElem?_eq_some_iff.1 hu).1
      rw [← Array.getElem?_toList, ← hu, ← htk, List.getElem?_take, if_pos (by omega)]
    have hp' : PartAt P lt cur o v := by
      cases hp with
      | cell hu hd h => exact .cell hu hd (key _ _ (by simpa using h))
      | agg hu hd hi h => exact .agg hu hd hi (fun j u hj => key _ _ (by simpa using h j u hj))
    unfold execOp
    simp [ha.eval hx, run_loadAt_part hg hp']
/-- a list with a piece laid over -/
def laid (xs : List Value) (o : Nat) (l : List Value) : List Value := xs.take o ++ l ++ xs.drop (o + l.length)
theorem setSeg_toList : ∀ (l : List Value) (cs : Array Value) (o : Nat), o + l.length ≤ cs.size → (setSeg cs o l).toList = laid cs.toList o l := by
  intro l cs o h
  refine List.ext_getElem? fun i => ?_
  rw [Array.getElem?_toList, setSeg_get, laid]
  by_cases h1 : i < o
  · rw [if_neg (by omega), List.append_assoc, List.getElem?_append_left (by simp; omega), List.getElem?_take, if_pos h1, Array.getElem?_toList]
  · by_cases h2 : i < o + l.length
    · rw [if_pos ⟨by omega, h2, by omega⟩, List.append_assoc, List.getElem?_append_right (by simp; omega), List.getElem?_append_left (by simp; omega)]
      congr 1; simp; omega
    · rw [if_neg (by omega), List.getElem?_append_right (by simp; omega), List.getElem?_drop, Array.getElem?_toList]
      congr 1; simp; omega
theorem laid_length {xs : List Value} {o : Nat} {l : List Value} (h : o + l.length ≤ xs.length) : (laid xs o l).length = xs.length := by simp [laid]; omega
theorem laid_take {cs : List Value} {o m : Nat} {l : List Value} (h : o + l.length ≤ m) (hm : m ≤ cs.length) : (laid cs o l).take m = laid (cs.take m) o l := by
  unfold laid
  rw [List.take_take, Nat.min_eq_left (by omega), List.drop_take, List.take_append, List.take_of_length_le (by simp; omega)]
  congr 2
  simp; omega
/-- writing into a row of the call's own -/
theorem do_storeRow {g : Option (Nat × Bool)} {lt : TypeId} {x y : Operand} {b o cap sz n : Nat} {e : TypeId} {xs : List Value} {v : Value} {L' : List Res} (hx : ev t x = some (.pointer (some ⟨b, o, none⟩))) (hy : ev t y = some v)
    (hi : (P.info? lt).map (·.size) = some v.cells.size) (h1 : ∀ u ∈ v.cells.toList, u.oneCell' = true) (hfit : o + v.cells.size ≤ n * sz)
    (ht : Turn L (.row (.slice (some ⟨b, 0, none⟩) n cap) e sz n xs) (.row (.slice (some ⟨b, 0, none⟩) n cap) e sz n (laid xs o v.cells.toList)) L')
    : ∀ a w, Fr N ds t a → Mem w0 E Z0 Z wz L w → ∃ w', (execOp a.eval ⟨none, .store lt x y, ty, pos, aft, g⟩).run P w = .ok .skip w' ∧ Mem w0 E Z0 Z wz L' w' := fun a w ha hw => by
    obtain ⟨hl, hh⟩ := hw.own _ ht.mem
    rcases hh with ⟨hh, _⟩ | ⟨g', cap', cur, hh, hb0, hg, hnc, hcm, hcs, htk⟩
    · cases hh
    · cases hh
      have hle : n * sz ≤ cap * sz := Nat.mul_le_mul_right _ hnc
      have hc := heap_setCells v.cells.toList o w cur hg
      have hvl : v.cells.toList.length = v.cells.size := by simp
      refine ⟨w.setCells b o v.cells.toList, ?_, hw.turnRow ht ⟨by rw [laid_length (by rw [hl, hvl]; exact hfit)]; exact hl, .inr ⟨b, cap, _, rfl, hb0, hc.1, hnc, hcm, by rw [size_setSeg]; exact hcs, ?_⟩⟩ ⟨?_, ?_, ?_, ?_, ?_⟩ (.inl rfl)⟩
      · unfold execOp
        simp [ha.eval hx, ha.eval hy, run_storeAt_part hg hi h1 (show o + v.cells.size ≤ cur.size by rw [hcs]; omega)]
      · rw [setSeg_toList _ _ _ (by omega), ← htk]
        exact laid_take (by omega) (by rw [Array.length_toList, hcs]; exact hle)
      · exact hc.2.2.2.1
      · exact hc.2.2.2.2.1
      · exact hc.2.2.2.2.2
      · exact Nat.le_of_eq hc.2.2.1.symm
      · intro k hk hne
        exact hc.2.1 k (fun e => hne (by simp [Value.ownBlock, e]))
theorem st_storeRow {lt : TypeId} {x y : Operand} {b o cap sz n : Nat} {e : TypeId} {xs : List Value} {v : Value} {L' : List Res} (hx : ev t x = some (.pointer (some ⟨b, o, none⟩))) (hy : ev t y = some v)
    (hi : (P.info? lt).map (·.size) = some v.cells.size) (h1 : ∀ u ∈ v.cells.toList, u.oneCell' = true) (hfit : o + v.cells.size ≤ n * sz)
    (ht : Turn L (.row (.slice (some ⟨b, 0, none⟩) n cap) e sz n xs) (.row (.slice (some ⟨b, 0, none⟩) n cap) e sz n (laid xs o v.cells.toList)) L')
    (h : JL P r N ds ops Q rest t (Mem w0 E Z0 Z wz L')) : JL P r N ds ops Q (⟨none, .store lt x y, ty, pos, aft, none⟩ :: rest) t (Mem w0 E Z0 Z wz L) :=
  JL_do _ rfl nofun rfl (do_storeRow hx hy hi h1 hfit ht) h
theorem vo_ex {β : Type} {MM : β → World → Prop} {o : Oper} {v : Value} (h : ∀ x, ValOf P N ds t (MM x) o v) : ValOf P N ds t (fun w => ∃ x, MM x w) o v := fun a w ha ⟨x, hw⟩ => h x a w ha hw
/-- a row of the call's own, read as a whole -/
theorem Mem.rvals {w : World} (h : Mem w0 E Z0 Z wz L w) {v : Value} {e : TypeId} {n : Nat} {xs : List Value} (hm : Res.row v e 1 n xs ∈ L) : RVals (fun b => b < w.heap.size) w xs v := by
  obtain ⟨hl, h1⟩ := h.own _ hm
  rcases h1 with ⟨rfl, rfl⟩ | ⟨g, cap, cur, rfl, _, hg, hnc, hcm, hcs, htk⟩
  · have hx : xs = [] := List.eq_nil_of_length_eq_zero (by omega)
    subst hx
    exact RVals.nil
  · have hn : xs.length = n := by omega
    subst hn
    refine ⟨_, cap, rfl, hnc, hcm, .inr ⟨g, 0, cur, e, (0, 0), rfl, ⟨(Array.getElem?_eq_some_iff.1 hg).1, hg⟩, fun i u hu => ?_⟩⟩
    have hi := (List.getElem?_eq_some_iff.1 hu).1
    rw [Nat.zero_add, ← Array.getElem?_toList, ← hu, ← htk, List.getElem?_take, if_pos (by omega)]
theorem Mem.ritems {α : Type} {f : α → List Value} {sz : Nat} (hf : ∀ x, (f x).length = sz) {w : World} (h : Mem w0 E Z0 Z wz L w) {v : Value} {e : TypeId} {l : List α} (hm : Res.row v e sz l.length (l.flatMap f) ∈ L) : RItems (fun b => b < w.heap.size) w sz f l v := by
  obtain ⟨hl, h1⟩ := h.own _ hm
  rcases h1 with ⟨rfl, h0⟩ | ⟨g, cap, cur, rfl, _, hg, hnc, hcm, hcs, htk⟩
  · have hx : l = [] := List.eq_nil_of_length_eq_zero h0
    subst hx
    exact RItems.nil
  · refine ⟨_, cap, rfl, hnc, hcm, .inr ⟨g, 0, cur, e, (0, 0), rfl, ⟨(Array.getElem?_eq_some_iff.1 hg).1, hg⟩, fun i x hi j u hu => ?_⟩⟩
    have h1 := flat_get hf hi hu
    have h2 := (List.getElem?_eq_some_iff.1 h1).1
    rw [flat_length hf] at h2
    rw [Nat.zero_add, ← Array.getElem?_toList, ← h1, ← htk, List.getElem?_take, if_pos (by omega)]
/-- append of what stands still -/
theorem st_appendR {x y : Operand} {v vy : Value} {t0 e bytes n : Nat} {z : Value} {xs ys : List Value} {L' : Value → List Res} (hx : ev t x = some v) (hy : ev t y = some vy) (hr : RVals Z wz ys vy)
    (hu : P.underlying t0 = some (.slice e)) (hi : (P.info? e).map (fun i => (i.zero, i.size, i.bytes)) = some (some z, 1, bytes)) (hz : z.cells.size = 1)
    (ht' : TurnF (.row v e 1 n xs) (fun v' => .row v' e 1 (n + ys.length) (xs ++ ys)) L L') (h1 : ∀ u ∈ ys, u.oneCell' = true)
    (hlen : n + ys.length ≤ 1000000000) (hby : bytes ≤ 100000) (hd : d < N)
    (h : ∀ v', JL P r N ds ops Q rest ((d, v') :: t) (Mem w0 E Z0 Z wz (L' v'))) :
    JL P r N ds ops Q (⟨some d, .call { callee := .builtin .append, args := #[x, y], argTypes := #[t0, t0] }, ty, pos, aft, none⟩ :: rest) t (Mem w0 E Z0 Z wz L) := by
  obtain ⟨A, c, rfl, hc1, hc2, h3⟩ := hr
  rcases h3 with rfl | ⟨b, o, cs, te, fr, rfl, hf, hcell⟩
  · refine JL_op (β := Value) (fun v' => v') (fun v' => Mem w0 E Z0 Z wz (L' v')) rfl nofun rfl hd (fun a w ha hw => ?_) h
    have ht := ht'.turn
    obtain ⟨inf, hinf, hzz⟩ := Option.map_eq_some_iff.1 hi
    simp only [Prod.mk.injEq] at hzz
    have hown : w.ownsRow 0 e 1 v n xs := hw.own _ (ht v).mem
    refine ⟨v, w, ?_, by simpa using hw.turnRow (ht v) (by simpa using hown) ⟨rfl, rfl, rfl, Nat.le_refl _, fun _ _ _ => rfl⟩ (.inl rfl)⟩
    have hrun : (Builtin.append_ #[t0, t0] ty #[v, .slice A 0 c]).run P w = .ok v w := by
      rcases hown.2 with ⟨rfl, rfl⟩ | ⟨g, cap, cur, rfl, _, _, hnc, _⟩
      · cases A <;> simp [Builtin.append_, run_underlying hu, sizeOf, typeInfo, hinf, Builtin.lenOf, Builtin.firstCells, loadCells, loadCellsFrom]
      · cases A <;> simp [Builtin.append_, run_underlying hu, sizeOf, typeInfo, hinf, Builtin.lenOf, Builtin.firstCells, hnc, storeCells, loadCells, loadCellsFrom]
    unfold execOp
    simp [resolve, invoke, builtin, ha.eval hx, ha.eval hy, hrun]
  · exact st_append hx hy hu hi hz (by decide) ht' (.frz hf) (by simp) hcell h1 hlen hby hd h
end
end Go.Eng

set_option linter.unusedVariables false
set_option linter.unusedSimpArgs false
namespace Go.Eng
open Go Go.RowKit Go.MapKept
/-! ### maps -/
section
variable {α β : Type} [DecidableEq α]
def aget : List (α × β) → α → Option β
  | [], _ => none
  | p :: l, a => if p.1 = a then some p.2 else aget l a
def aset : List (α × β) → α → β → List (α × β)
  | [], a, v => [(a, v)]
  | p :: l, a, v => if p.1 = a then (p.1, v) :: l else p :: aset l a v
theorem aget_aset (l : List (α × β)) (a b : α) (v : β) : aget (aset l a v) b = if a = b then some v else aget l b := by
  induction l with
  | nil => simp [aset, aget]
  | cons p l ih =>
    simp only [aset]
    split
    · rename_i h
      subst h
      simp only [aget]
      split <;> rfl
    · rename_i h
      simp only [aget, ih]
      split
      · rename_i h2
        subst h2
        rw [if_neg (fun e => h e.symm)]
      · rfl
end
def entryKV (e : MapEntry) : Value × Value := (e.key, e.val)
/-- a map's block, as a list of keys with values -/
def MapO {α : Type} (d : TypeDesc) (kf : α → Value) (l : List (α × Value)) (o : Obj) : Prop :=
  ∃ es clock, o = .map es clock ∧ es.toList.map entryKV = l.map (fun p => (kf p.1, p.2)) ∧ ∀ e ∈ es.toList, IsKey d e.key
theorem amap_spec {α : Type} [DecidableEq α] {d : TypeDesc} {kf : α → Value} (inj : ∀ a b, kf a = kf b → a = b) {a : α} (hk : IsKey d (kf a)) : ∀ (es : List MapEntry) (l : List (α × Value)) (i : Nat), es.map entryKV = l.map (fun p => (kf p.1, p.2)) → (∀ e ∈ es, IsKey d e.key) →
    (Instr.findNow d (kf a) es i = some none ∧ aget l a = none ∧ ∀ v b, (es ++ [({ key := kf a, val := v, born := b } : MapEntry)]).map entryKV = (aset l a v).map (fun p => (kf p.1, p.2))) ∨
    ∃ j e, Instr.findNow d (kf a) es i = some (some (i + j, e.val)) ∧ es[j]? = some e ∧ e.key = kf a ∧ aget l a = some e.val ∧ ∀ v, (es.modify j (fun e => { e with key := kf a, val := v })).map entryKV = (aset l a v).map (fun p => (kf p.1, p.2))
  | [], [], i, _, _ => .inl ⟨rfl, rfl, fun v b => rfl⟩
  | [], _ :: _, i, h, _ => by simp at h
  | _ :: _, [], i, h, _ => by simp at h
  | e :: es, p :: l, i, h, hks => by
    obtain ⟨r, hr, hiff⟩ := sameNow_of_keys hk (hks e (.head _))
    simp only [List.map_cons, List.cons.injEq] at h
    have hek : e.key = kf p.1 := congrArg Prod.fst h.1
    have hev : e.val = p.2 := congrArg Prod.snd h.1
    cases r with
    | true =>
      have hpa : p.1 = a := inj _ _ (hek.symm.trans (hiff.1 rfl).symm)
      refine .inr ⟨0, e, by simp [Instr.findNow, hr], rfl, (hiff.1 rfl).symm, by simp [aget, hpa, hev], fun v => ?_⟩
      simp only [aset, hpa, if_true, List.modify_zero_cons, List.map_cons, h.2]
      rfl
    | false =>
      have hpa : ¬ p.1 = a := fun q => by
        have := hiff.2 (by rw [hek, q])
        cases this
      rcases amap_spec inj hk es l (i + 1) h.2 (fun x hx => hks x (.tail _ hx)) with ⟨h1, h2, h3⟩ | ⟨j, e', h1, h2, h3, h4, h5⟩
      · refine .inl ⟨by simp [Instr.findNow, hr, h1], by simp [aget, hpa, h2], fun v b => ?_⟩
        rw [List.cons_append, List.map_cons, h3 v b, aset, if_neg hpa, List.map_cons, h.1]
      · refine .inr ⟨j + 1, e', by simp [Instr.findNow, hr, h1]; omega, by simpa using h2, h3, by simp [aget, hpa, h4], fun v => ?_⟩
        rw [List.modify_succ_cons, List.map_cons, h5 v, aset, if_neg hpa, List.map_cons, h.1]
section
variable {P : Program} {r : Option Nat} {N : Nat} {ds : List Deferred} {ops : Array Oper} {Q : Post} {t : Fm} {rest : List Oper} {M : World → Prop}
variable {w0 : World} {E Z0 Z : Nat → Prop} {wz : World} {L : List Res}
variable {ty : TypeId} {pos : String} {aft : Array Edge} {dd : Nat}
variable {α : Type} [DecidableEq α] {d : TypeDesc} {kf : α → Value} {mt kt et : TypeId}
omit [DecidableEq α] in
theorem st_makeMap (hd : dd < N) (h : ∀ b o, MapO d kf [] o → JL P r N ds ops Q rest ((dd, .map (some b)) :: t) (Mem w0 E Z0 Z wz (.blk b o :: L))) :
    JL P r N ds ops Q (⟨some dd, .makeMap mt none, ty, pos, aft, none⟩ :: rest) t (Mem w0 E Z0 Z wz L) :=
  JL_op (β := Nat) (fun b => .map (some b)) (fun b => Mem w0 E Z0 Z wz (.blk b (.map #[] 0) :: L)) rfl nofun rfl hd (fun a w ha hw => by
    refine ⟨w.heap.size, w.alloc (.map #[] 0), ?_, hw.alloc _⟩
    unfold execOp
    simp [Instr.makeMap]) (fun b => h b _ ⟨#[], 0, rfl, rfl, by simp⟩)
/-- 'm[k]' -/
theorem vo_lookup {x y : Operand} {b : Nat} {o : Obj} {l : List (α × Value)} {k : α} {z : Value} (inj : ∀ a b, kf a = kf b → a = b) (hx : ev t x = some (.map (some b))) (hy : ev t y = some (kf k)) (hu : P.underlying mt = some (.map kt et)) (hkt : P.underlying kt = some d) (hk : IsKey d (kf k))
    (hz : (P.info? et).bind (·.zero) = some z) (hb : Has Z wz L b o) (hm : MapO d kf l o) : ValOf P N ds t (Mem w0 E Z0 Z wz L) ⟨some dd, .lookup mt x y false, ty, pos, aft, none⟩ ((aget l k).getD z) := fun a w ha hw => by
  obtain ⟨es, clock, rfl, h1, h2⟩ := hm
  have hbl := hw.has hb
  obtain ⟨inf, hinf, hz'⟩ := Option.bind_eq_some_iff.1 hz
  have hzero : (zeroValue et).run P w = .ok z w := by simp [zeroValue, typeInfo, hinf, hz']
  unfold execOp
  rcases amap_spec inj hk es.toList l 0 h1 h2 with ⟨hf, hg, _⟩ | ⟨j, e, hf, _, _, hg, _⟩
  · simp [ha.eval hx, ha.eval hy, Instr.lookup, run_underlying hu, MapKept.run_getObj_map hbl, MapKept.run_checkKey hkt hk, MapKept.run_findKey hkt hf, hzero, hg]
  · simp [ha.eval hx, ha.eval hy, Instr.lookup, run_underlying hu, MapKept.run_getObj_map hbl, MapKept.run_checkKey hkt hk, MapKept.run_findKey hkt hf, hg]
/-- 'm[k] = v' -/
theorem st_mapUpdate {x y z : Operand} {b : Nat} {o : Obj} {l : List (α × Value)} {k : α} {v : Value} {L' : Obj → List Res} (inj : ∀ a b, kf a = kf b → a = b) (hx : ev t x = some (.map (some b))) (hy : ev t y = some (kf k)) (hz : ev t z = some v) (hu : P.underlying mt = some (.map kt et)) (hkt : P.underlying kt = some d) (hk : IsKey d (kf k))
    (hm : MapO d kf l o) (ht' : TurnF (.blk b o) (fun o' => .blk b o') L L')
    (h : ∀ o', MapO d kf (aset l k v) o' → JL P r N ds ops Q rest t (Mem w0 E Z0 Z wz (L' o'))) :
    JL P r N ds ops Q (⟨none, .mapUpdate mt x y z, ty, pos, aft, none⟩ :: rest) t (Mem w0 E Z0 Z wz L) := by
  obtain ⟨es, clock, rfl, h1, h2⟩ := hm
  rcases amap_spec inj hk es.toList l 0 h1 h2 with ⟨hf, hg, hs⟩ | ⟨j, e, hf, hj, hkey, hg, hs⟩
  · refine JL_do (Mem w0 E Z0 Z wz (L' (.map (es.push ⟨kf k, v, clock⟩) (clock + 1)))) rfl nofun rfl (fun a w ha hw => ?_) (h _ ⟨_, _, rfl, by rw [Array.toList_push]; exact hs v clock, fun e he => by
      rw [Array.toList_push] at he
      rcases List.mem_append.1 he with he | he
      · exact h2 e he
      · simp at he; subst he; exact hk⟩)
    have ht := ht'.turn (.map (es.push ⟨kf k, v, clock⟩) (clock + 1))
    have hbl : w.heap[b]? = some (.map es clock) := hw.own _ ht.mem
    have hh := MapKept.heap_set (o' := .map (es.push ⟨kf k, v, clock⟩) (clock + 1)) hbl
    refine ⟨{ w with heap := w.heap.setIfInBounds b (.map (es.push ⟨kf k, v, clock⟩) (clock + 1)) }, ?_, hw.turn ht rfl rfl rfl (by simp) hh.2 hh.1⟩
    unfold execOp
    simp [ha.eval hx, ha.eval hy, ha.eval hz, Instr.mapUpdate, run_underlying hu, MapKept.run_getObj_map hbl, MapKept.run_checkKey hkt hk, MapKept.run_findKey hkt hf, MapKept.run_setObj_map _ hbl]
  · have hes : es[j]? = some e := by rw [← Array.getElem?_toList]; exact hj
    refine JL_do (Mem w0 E Z0 Z wz (L' (.map (es.modify j fun e => { e with key := kf k, val := v }) clock))) rfl nofun rfl (fun a w ha hw => ?_) (h _ ⟨_, _, rfl, by rw [Array.toList_modify]; exact hs v, MapKept.isKey_modify h2 j _ (fun e' he' => by rw [hes] at he'; cases he'; exact hkey.symm)⟩)
    have ht := ht'.turn (.map (es.modify j fun e => { e with key := kf k, val := v }) clock)
    have hbl : w.heap[b]? = some (.map es clock) := hw.own _ ht.mem
    have hh := MapKept.heap_set (o' := .map (es.modify j fun e => { e with key := kf k, val := v }) clock) hbl
    refine ⟨{ w with heap := w.heap.setIfInBounds b (.map (es.modify j fun e => { e with key := kf k, val := v }) clock) }, ?_, hw.turn ht rfl rfl rfl (by simp) hh.2 hh.1⟩
    have hst : (Instr.keyThatStays e.key (kf k)).run P w = .ok (kf k) w := by rw [hkey]; exact MapKept.run_keyThatStays hk
    unfold execOp
    simp [ha.eval hx, ha.eval hy, ha.eval hz, Instr.mapUpdate, run_underlying hu, MapKept.run_getObj_map hbl, MapKept.run_checkKey hkt hk, MapKept.run_findKey hkt hf, hes, hst, MapKept.run_setObj_map _ hbl]
end
end Go.Eng

set_option linter.unusedVariables false
set_option linter.unusedSimpArgs false
namespace Go.Eng
open Go Go.RowKit
/-! ### bytes, arithmetic, calls that hand over a row -/
def bytesC (l : List UInt8) : List Value := l.map fun b => .int .u8 b.toNat
theorem bytesC_length (l : List UInt8) : (bytesC l).length = l.length := by simp [bytesC]
theorem bytesC_get {l : List UInt8} {i : Nat} {b : UInt8} (h : l[i]? = some b) : (bytesC l)[i]? = some (.int .u8 b.toNat) := by simp [bytesC, h]
theorem bytesC_append (a b : List UInt8) : bytesC (a ++ b) = bytesC a ++ bytesC b := by simp [bytesC]
theorem bytesC_slice (l : List UInt8) (i n : Nat) : ((bytesC l).drop i).take n = bytesC ((l.drop i).take n) := by simp [bytesC, List.map_drop, List.map_take]
theorem bytesC_one (l : List UInt8) : ∀ u ∈ bytesC l, u.oneCell' = true := by
  intro u hu
  obtain ⟨b, _, rfl⟩ := List.mem_map.1 hu
  rfl
theorem beq_mk (a b : List UInt8) : beq ⟨a.toArray⟩ ⟨b.toArray⟩ = decide (a = b) := by
  unfold beq
  rw [ByteArray.toList_eq, ByteArray.toList_eq, Bool.eq_iff_iff]
  simp
section
variable {P : Program} {r : Option Nat} {N : Nat} {ds : List Deferred} {ops : Array Oper} {Q : Post} {t : Fm} {rest : List Oper} {M : World → Prop}
variable {w0 : World} {E Z0 Z : Nat → Prop} {wz : World} {L : List Res}
variable {ty : TypeId} {pos : String} {aft : Array Edge} {d : Nat}
theorem vo_bytesStr {st dt e : TypeId} {x : Operand} {v : Value} {l : List UInt8} (hx : ev t x = some v) (hr : RVals Z wz (bytesC l) v) (hs : P.underlying st = some (.slice e)) (he : P.underlying e = some (.int .u8)) (hd : P.underlying dt = some .string) :
    ValOf P N ds t (Mem w0 E Z0 Z wz L) ⟨some d, .convert st dt x, ty, pos, aft, none⟩ (.string ⟨l.toArray⟩) := fun a w ha hw => by
  obtain ⟨A, c, rfl, h1, h2, h3⟩ := hr
  rw [bytesC_length] at hx
  have hrun : (convert st dt (.slice A l.length c)).run P w = .ok (.string ⟨l.toArray⟩) w := by
    rcases h3 with h3 | ⟨b, o, cs, te, fr, rfl, hf, hc⟩
    · have hl : l = [] := by simpa [bytesC] using h3
      subst hl
      cases A with
      | none => rw [run_convert_bytes_string w st dt e none _ c hs he hd]; simp [Conv.bytesToString]; rfl
      | some A => exact run_convert_bytes_back w st dt e A c [] hs he hd (by simp)
    · refine run_convert_bytes_back w st dt e ⟨b, o, none⟩ c l hs he hd fun j hj => ?_
      rw [Addr.add_mid, cell_cells (hw.frz _ _ hf.z hf.at_)]
      exact hc j _ (bytesC_get (List.getElem?_eq_getElem hj))
  unfold execOp
  simp [ha.eval hx, hrun]
theorem vo_sliceNil {op : BinOp} {xt yt e : TypeId} {x y : Operand} {A : Option Addr} {n c : Nat} {q : Bool} (hx : ev t x = some (.slice A n c)) (hy : ev t y = some (.slice none 0 0)) (hu : P.underlying xt = some (.slice e))
    (hop : (match op with | .eql => some A.isNone | .neq => some (!A.isNone) | _ => none) = some q) :
    ValOf P N ds t M ⟨some d, .binOp op xt x y yt, ty, pos, aft, none⟩ (.bool q) := fun a w ha hw => by
  unfold execOp
  simp only [ha.eval hx, ha.eval hy]
  cases op <;> first | (cases hop; done) | (obtain rfl := Option.some.inj hop; simp [eqGuard, Go.Lib.run_eql_slice_nil w xt e A n c 0 0 hu, run_neq_slice_nil w xt e A n c hu])
theorem vo_convInt {st dt : TypeId} {x : Operand} {k k' : IntKind} {n : Int} {sd : TypeDesc} (hx : ev t x = some (.int k' n)) (hs : P.underlying st = some sd) (hd : P.underlying dt = some (.int k)) :
    ValOf P N ds t M ⟨some d, .convert st dt x, ty, pos, aft, none⟩ (.int k (k.wrap n)) := fun a w ha hw => by
  have hrun : (convert st dt (.int k' n)).run P w = .ok (.int k (k.wrap n)) w := by
    simp [convert, run_underlying hs, run_underlying hd, Conv.intToInt]
  unfold execOp
  simp [ha.eval hx, hrun]
theorem vo_shl {xt yt : TypeId} {x y : Operand} {k k' : IntKind} {m n : Int} (hx : ev t x = some (.int k m)) (hy : ev t y = some (.int k' n)) (hn : 0 ≤ n) :
    ValOf P N ds t M ⟨some d, .binOp .shl xt x y yt, ty, pos, aft, none⟩ (.int k (k.wrap (m * 2 ^ (min n.toNat k.bits)))) := fun a w ha hw => by
  unfold execOp
  simp only [ha.eval hx, ha.eval hy]
  simp [eqGuard, binOp, Op.shift, show ¬ n < 0 by omega]
theorem vo_bits {op : BinOp} {xt yt : TypeId} {x y : Operand} {k : IntKind} {m n c : Int} (hx : ev t x = some (.int k m)) (hy : ev t y = some (.int k n))
    (hop : (match op with | .and => some (k.wrap ((BitVec.ofInt k.bits m &&& BitVec.ofInt k.bits n).toNat)) | .or => some (k.wrap ((BitVec.ofInt k.bits m ||| BitVec.ofInt k.bits n).toNat)) | _ => none) = some c) :
    ValOf P N ds t M ⟨some d, .binOp op xt x y yt, ty, pos, aft, none⟩ (.int k c) := fun a w ha hw => by
  unfold execOp
  simp only [ha.eval hx, ha.eval hy]
  cases op <;> first | (cases hop; done) | (obtain rfl := Option.some.inj hop; simp [eqGuard, binOp, Op.intBits])
/-- int: / and % by something positive of something that is not negative -/
theorem vo_quo {xt yt : TypeId} {x y : Operand} {m n : Int} (hx : ev t x = some (.int .i64 m)) (hy : ev t y = some (.int .i64 n)) (hm : 0 ≤ m) (hm' : m ≤ 9223372036854775807) (hn : 0 < n) :
    ValOf P N ds t M ⟨some d, .binOp .quo xt x y yt, ty, pos, aft, none⟩ (.int .i64 (m / n)) := fun a w ha hw => by
  have h1 : m.tdiv n = m / n := Int.tdiv_eq_ediv_of_nonneg hm
  have h2 : 0 ≤ m / n := Int.ediv_nonneg hm (by omega)
  have h3 : m / n ≤ m := Int.ediv_le_self _ hm
  unfold execOp
  simp only [ha.eval hx, ha.eval hy]
  simp [eqGuard, binOp, Op.intDiv, show ¬ n = 0 by omega, h1, IntWalk.i64_in (m / n) ⟨by omega, by omega⟩]
theorem vo_rem {xt yt : TypeId} {x y : Operand} {m n : Int} (hx : ev t x = some (.int .i64 m)) (hy : ev t y = some (.int .i64 n)) (hm : 0 ≤ m) (hn : 0 < n) :
    ValOf P N ds t M ⟨some d, .binOp .rem xt x y yt, ty, pos, aft, none⟩ (.int .i64 (m % n)) := fun a w ha hw => by
  have h1 : m.tmod n = m % n := Int.tmod_eq_emod_of_nonneg hm
  unfold execOp
  simp only [ha.eval hx, ha.eval hy]
  simp [eqGuard, binOp, Op.intDiv, show ¬ n = 0 by omega, h1]
theorem vo_mul {xt yt : TypeId} {x y : Operand} {m n : Int} (hx : ev t x = some (.int .i64 m)) (hy : ev t y = some (.int .i64 n)) (h0 : -9223372036854775808 ≤ m * n) (h1 : m * n ≤ 9223372036854775807) :
    ValOf P N ds t M ⟨some d, .binOp .mul xt x y yt, ty, pos, aft, none⟩ (.int .i64 (m * n)) :=
  vo_arith (op := .mul) (c := m * n) hx hy (by simp only [IntWalk.i64_in (m * n) ⟨h0, h1⟩])
/-- a call that hands over a row of its own -/
def OCalls (P : Program) (f : FuncId) (args : Array Value) (w : World) (e : TypeId) (sz : Nat) (R : Nat → List Value → Prop) : Prop :=
  Calls P f args w fun en w' => ∃ v n xs, en = .returned v ∧ Below w.heap.size w w' ∧ w'.ownsRow w.heap.size e sz v n xs ∧ R n xs
theorem Mem.callO {w : World} (h : Mem w0 E Z0 Z wz L w) {v : Value} {e : TypeId} {sz n : Nat} {xs : List Value} {w' : World} (hk : Below w.heap.size w w') (ho : w'.ownsRow w.heap.size e sz v n xs) : Mem w0 E Z0 Z wz (.row v e sz n xs :: L) w' := by
  have h1 := h.callS hk
  have hs := h.size
  have hs0 := h.size0
  have hfresh : ∀ b, v.ownBlock = some b → w.heap.size ≤ b := fun b hb => by
    rcases ho.2 with ⟨rfl, _⟩ | ⟨g, cap, cur, rfl, hg, _⟩
    · simp [Value.ownBlock] at hb
    · simp [Value.ownBlock] at hb; omega
  refine ⟨h1.os, h1.tape, h1.output, h1.size0, h1.size, h1.base, h1.frz, h1.zb, h1.zlt, fun r hr => ?_, fun r hr b hb => ?_, ⟨fun b hb x hx e => ?_, h1.nodup⟩⟩
  · rcases List.mem_cons.1 hr with rfl | hr
    · refine ⟨ho.1, ?_⟩
      rcases ho.2 with ho | ⟨g, cap, cur, h2, hg, h3⟩
      · exact .inl ho
      · exact .inr ⟨g, cap, cur, h2, Nat.zero_le _, h3⟩
    · exact h1.own r hr
  · rcases List.mem_cons.1 hr with rfl | hr
    · have := hfresh b hb
      exact ⟨fun hz => by have := h.zlt' b hz; omega, .inl (by omega)⟩
    · exact h1.sep r hr b hb
  · have := hfresh b hb
    have := Res.foot_lt (h.own x hx) e
    omega
theorem st_ocall {f : FuncId} {l : List Operand} {ats : Array TypeId} {vs : List Value} {e : TypeId} {sz : Nat} {R : Nat → List Value → Prop} (hl : evOps t l = some vs) (he : Enters P f) (hd : d < N)
    (hc : ∀ w, Mem w0 E Z0 Z wz L w → OCalls P f vs.toArray w e sz R)
    (h : ∀ v n xs, R n xs → JL P r N ds ops Q rest ((d, v) :: t) (Mem w0 E Z0 Z wz (.row v e sz n xs :: L))) :
    JL P r N ds ops Q (⟨some d, .call { callee := .value (.func f), args := l.toArray, argTypes := ats }, ty, pos, aft, none⟩ :: rest) t (Mem w0 E Z0 Z wz L) :=
  st_call (β := { x : Value × Nat × List Value // R x.2.1 x.2.2 }) (fun x => x.1.1) (fun x => Mem w0 E Z0 Z wz (.row x.1.1 e sz x.1.2.1 x.1.2.2 :: L)) hl he hd
    (fun w hw => Calls.mono (hc w hw) fun en w' ⟨v, n, xs, he', hb, ho, hR⟩ => ⟨⟨(v, n, xs), hR⟩, he', hw.callO hb ho⟩)
    (fun x => h _ _ _ x.2)
theorem OC_end {e : TypeId} {sz n : Nat} {xs : List Value} {R : Nat → List Value → Prop} {v : Value} {w : World} (h : Mem w0 (fun _ => False) Z0 Z wz L w) (hm : Res.row v e sz n xs ∈ L) (hR : R n xs) :
    ∃ v' n' xs', Ending.returned v = .returned v' ∧ Below w0.heap.size w0 w ∧ w.ownsRow w0.heap.size e sz v' n' xs' ∧ R n' xs' := by
  have ho : w.ownsRow 0 e sz v n xs := h.own _ hm
  refine ⟨v, n, xs, rfl, h.below, ⟨ho.1, ?_⟩, hR⟩
  rcases ho.2 with h1 | ⟨g, cap, cur, h2, hg, h3⟩
  · exact .inl h1
  · refine .inr ⟨g, cap, cur, h2, ?_, h3⟩
    have := (h.sep _ hm g (by subst h2; rfl)).2
    exact this.elim id (fun x => x.elim)
/-- '[]T{}' of nothing: a row of the call's own -/
theorem st_bslice0 {bt e : TypeId} {z : Value} {sz : Nat} (hu : P.underlying bt = some (.slice e)) (hz : (P.info? e).bind (·.zero) = some z) (hs : (P.info? e).map (·.size) = some sz) (hle : sz ≤ 16777216) (hd : d < N)
    (h : ∀ v, JL P r N ds ops Q rest ((d, v) :: t) (Mem w0 E Z0 Z wz (.row v e sz 0 [] :: L))) :
    JL P r N ds ops Q (⟨some d, .buildSlice bt 0 #[], ty, pos, aft, none⟩ :: rest) t (Mem w0 E Z0 Z wz L) :=
  JL_op (β := Nat) (fun b => .slice (some ⟨b, 0, none⟩) 0 0) (fun b => Mem w0 E Z0 Z wz (.row (.slice (some ⟨b, 0, none⟩) 0 0) e sz 0 [] :: L)) rfl nofun rfl hd (fun a w ha hw => by
    obtain ⟨inf, hinf, hz'⟩ := Option.bind_eq_some_iff.1 hz
    have hsz : inf.size = sz := by simpa [hinf] using hs
    refine ⟨w.heap.size, w.alloc (.cells #[] e), ?_, by simpa using (hw.alloc (.cells #[] e)).toRow (n := 0) (sz := sz) (by simp) (by omega)⟩
    unfold execOp
    have hle' : ¬ sz > 2 ^ 24 := by omega
    simp [Instr.buildSlice, run_underlying hu, sizeOf, typeInfo, hinf, hsz, hle', zeroValue, hz', newRow, Instr.fill]
    rw [Array.eq_empty_of_size_eq_zero (xs := Array.map (fun _ => default) (Array.range 0)) (by simp)]) (fun b => h _)
end
end Go.Eng

set_option linter.unusedVariables false
set_option linter.unusedSimpArgs false
namespace Go.Eng
open Go Go.RowKit
section
variable {P : Program} {r : Option Nat} {N : Nat} {ds : List Deferred} {ops : Array Oper} {Q : Post} {t : Fm} {rest : List Oper} {F : World → Prop} {m fuel : Nat} {listed : Array Bool}
variable {w0 : World} {E Z0 Z : Nat → Prop} {wz : World} {L : List Res}
variable {ty : TypeId} {pos : String} {aft : Array Edge} {d : Nat} {g : Option (Nat × Bool)}
theorem run_callF {fo : Operand} {f : FuncId} {ca : Array Value} {l : List Operand} {ats : Array TypeId} {vs : List Value} (hfo : ev t fo = some (.func (.func f) #[] ca)) (hl : evOps t l = some vs) (he : Enters P f) (a : Act) (w : World) (ha : Fr N ds t a) :
    (execOp a.eval ⟨some d, .call { callee := .value fo, args := l.toArray, argTypes := ats }, ty, pos, aft, g⟩).run P w = .ok (.enter f (vs.toArray ++ ca)) w := by
  obtain ⟨fn, hf, hn, hb⟩ := he
  have h1 := ha.eval hfo
  have h2 := evOps_eval ha l vs hl
  unfold execOp
  simp [resolve, Deferred.ofValue, h1, h2, invoke, run_enter hf hn hb]
theorem st_scallF {fo : Operand} {f : FuncId} {ca : Array Value} {l : List Operand} {ats : Array TypeId} {vs : List Value} {R : Value → Prop} (hfo : ev t fo = some (.func (.func f) #[] ca)) (hl : evOps t l = some vs) (he : Enters P f) (hd : d < N)
    (hc : ∀ w, Mem w0 E Z0 Z wz L w → SCalls P f (vs.toArray ++ ca) w R)
    (h : ∀ v, R v → JL P r N ds ops Q rest ((d, v) :: t) (Mem w0 E Z0 Z wz L)) :
    JL P r N ds ops Q (⟨some d, .call { callee := .value fo, args := l.toArray, argTypes := ats }, ty, pos, aft, none⟩ :: rest) t (Mem w0 E Z0 Z wz L) :=
  st_callF (β := { v : Value // R v }) (fun x => x.1) (fun _ => Mem w0 E Z0 Z wz L) hfo hl he hd
    (fun w hw => Calls.mono (hc w hw) fun e w' ⟨v, he', hb, hR⟩ => ⟨⟨v, hR⟩, he', hw.callS hb⟩)
    (fun x => h _ x.2)
theorem JK_scallF {i : Nat} {fo : Operand} {f : FuncId} {ca : Array Value} {l : List Operand} {ats : Array TypeId} {vs : List Value} {R : Value → Prop} (hi : ops[i]? = some ⟨some d, .call { callee := .value fo, args := l.toArray, argTypes := ats }, ty, pos, aft, g⟩)
    (hw : Wants ops t g) (hfo : ev t fo = some (.func (.func f) #[] ca)) (hl : evOps t l = some vs) (he : Enters P f) (hd : d < N)
    (hc : ∀ w, Mem w0 E Z0 Z wz L w → SCalls P f (vs.toArray ++ ca) w R) (hF : ∀ w, Mem w0 E Z0 Z wz L w → F w)
    (h : ∀ v, R v → JR P N ds ops Q F m fuel (listed.setIfInBounds i true) ((d, v) :: t) (Mem w0 E Z0 Z wz L)) : JK P N ds ops Q F m fuel listed t (Mem w0 E Z0 Z wz L) i :=
  JK_call (β := { v : Value // R v }) (fun x => x.1) (fun _ => Mem w0 E Z0 Z wz L) hi rfl hd hw (fun a w ha _ => run_callF hfo hl he a w ha)
    (fun w hw => Calls.mono (hc w hw) fun e w' ⟨v, he', hb, hR⟩ => ⟨⟨v, hR⟩, he', hw.callS hb⟩) (fun x w' h => hF w' h) (fun x => h _ x.2)
end
end Go.Eng

set_option linter.unusedVariables false
set_option linter.unusedSimpArgs false
namespace Go.Eng
open Go Go.RowKit
/-! ### rows in any number -/
theorem TurnF.mid {α : Type} {r : Res} {F : α → Res} (l1 l2 : List Res) : TurnF r F (l1 ++ r :: l2) (fun v => l1 ++ F v :: l2) := by
  induction l1 with
  | nil => exact .head _
  | cons x l1 ih => exact .tail x ih
/-- a list of rows of one-cell elements: value, content -/
def rowsR (e : TypeId) (st : List (Value × List Value)) : List Res := st.map fun p => .row p.1 e 1 p.2.length p.2
section
variable {P : Program} {r : Option Nat} {N : Nat} {ds : List Deferred} {ops : Array Oper} {Q : Post} {t : Fm} {rest : List Oper}
variable {w0 : World} {Z0 Z : Nat → Prop} {wz : World} {L : List Res}
theorem Mem.freezeRows {e : TypeId} : ∀ (st : List (Value × List Value)) {Z : Nat → Prop} {wz : World} {w : World}, Mem w0 (fun _ => False) Z0 Z wz (rowsR e st ++ L) w →
    ∃ Z', Mem w0 (fun _ => False) Z0 Z' w L w ∧ Ext Z wz Z' w ∧ ∀ p ∈ st, RVals Z' w p.2 p.1
  | [], Z, wz, w, h => by
    obtain ⟨Z', h1, h2, _⟩ := (h.addNil 0 1).freezeRow (.head _ _)
    exact ⟨Z', h1, h2, by simp⟩
  | p :: st, Z, wz, w, h => by
    obtain ⟨Z', h1, h2, h3⟩ := h.freezeRow (.head _ _)
    obtain ⟨Z2, h4, h5, h6⟩ := Mem.freezeRows st h1
    refine ⟨Z2, h4, h2.trans h5, fun q hq => ?_⟩
    rcases List.mem_cons.1 hq with rfl | hq
    · exact h3.ext h5
    · exact h6 q hq
theorem JL_freezeRows {e : TypeId} (st : List (Value × List Value)) {l : List Oper}
    (h : ∀ Z' wz', Ext Z wz Z' wz' → (∀ p ∈ st, RVals Z' wz' p.2 p.1) → JL P r N ds ops Q l t (Mem w0 (fun _ => False) Z0 Z' wz' L)) : JL P r N ds ops Q l t (Mem w0 (fun _ => False) Z0 Z wz (rowsR e st ++ L)) := fun a w ha hw => by
  obtain ⟨Z', h1, h2, h3⟩ := hw.freezeRows st
  exact h Z' w h2 h3 a w ha h1
theorem JL_rowSome {E : Nat → Prop} {v : Value} {e : TypeId} {sz n : Nat} {xs : List Value} {l : List Oper} (hm : Res.row v e sz n xs ∈ L) (hn : 0 < n) (h : ∀ g c, v = .slice (some ⟨g, 0, none⟩) n c → JL P r N ds ops Q l t (Mem w0 E Z0 Z wz L)) : JL P r N ds ops Q l t (Mem w0 E Z0 Z wz L) := fun a w ha hw => by
  rcases (hw.own _ hm).2 with ⟨rfl, h0⟩ | ⟨g, cap, cur, rfl, _⟩
  · omega
  · exact h _ _ rfl a w ha hw
end
end Go.Eng

set_option linter.unusedVariables false
set_option linter.unusedSimpArgs false
namespace Go.Eng
open Go Go.RowKit
section
variable {P : Program} {r : Option Nat} {N : Nat} {ds : List Deferred} {ops : Array Oper} {Q : Post} {t : Fm} {rest : List Oper}
variable {w0 : World} {E Z0 Z : Nat → Prop} {wz : World} {L : List Res}
variable {ty : TypeId} {pos : String} {aft : Array Edge} {d : Nat} {g : Option (Nat × Bool)}
/-- append of a piece of a block, as a run -/
theorem do_append {x y : Operand} {v : Value} {t0 e b2 o2 m c2 sz bytes n : Nat} {z : Value} {xs news : List Value} {cs : Array Value} {te : TypeId} {fr : Nat × Nat} {L' : Value → List Res} (hx : ev t x = some v) (hy : ev t y = some (.slice (some ⟨b2, o2, none⟩) m c2))
    (hu : P.underlying t0 = some (.slice e)) (hi : (P.info? e).map (fun i => (i.zero, i.size, i.bytes)) = some (some z, sz, bytes)) (hz : z.cells.size = sz) (hsz : 0 < sz)
    (ht' : TurnF (.row v e sz n xs) (fun v' => .row v' e sz (n + m) (xs ++ news)) L L') (hb : Has Z wz L b2 (.cells cs te fr)) (hn : news.length = m * sz) (hnc : ∀ (j : Nat) (u : Value), news[j]? = some u → cs[o2 + j]? = some u) (h1 : ∀ u ∈ news, u.oneCell' = true)
    (hlen : n + m ≤ 1000000000) (hby : bytes ≤ 100000) :
    ∀ a w, Fr N ds t a → Mem w0 E Z0 Z wz L w → ∃ v' w', (execOp a.eval ⟨some d, .call { callee := .builtin .append, args := #[x, y], argTypes := #[t0, t0] }, ty, pos, aft, g⟩).run P w = .ok (.value v') w' ∧ Mem w0 E Z0 Z wz (L' v') w' := fun a w ha hw => by
    have ht := ht'.turn
    obtain ⟨inf, hinf, hzz⟩ := Option.map_eq_some_iff.1 hi
    simp only [Prod.mk.injEq] at hzz
    have hown : w.ownsRow 0 e sz v n xs := hw.own _ (ht v).mem
    have hbl := hw.has hb
    have hml : n + m ≤ maxLen := by simp only [maxLen]; omega
    have hmul : (n + m) * bytes ≤ 140737488355328 := Nat.le_trans (Nat.mul_le_mul hlen hby) (by decide)
    obtain ⟨v', w', hr, ho, hg, _, hat⟩ := run_append_own_at (P := P) w 0 t0 ty e inf z sz bytes hu hinf hzz.1 hzz.2.1 hzz.2.2 hz hsz v n xs hown ⟨b2, o2, none⟩ m c2 news hn
      (fun j u hu => by rw [Addr.add_mid, cell_cells hbl]; exact hnc j u hu) h1 hml hmul (by omega)
    refine ⟨v', w', ?_, hw.turnRow (ht v') ho hg hat⟩
    unfold execOp
    simp [resolve, invoke, builtin, ha.eval hx, ha.eval hy, hr]
theorem do_appendB {x y : Operand} {v : Value} {t0 e b2 m c2 sz bytes n : Nat} {z : Value} {xs : List Value} {cs : Array Value} {te : TypeId} {fr : Nat × Nat} {L' : Value → List Res} (hx : ev t x = some v) (hy : ev t y = some (.slice (some ⟨b2, 0, none⟩) m c2))
    (hu : P.underlying t0 = some (.slice e)) (hi : (P.info? e).map (fun i => (i.zero, i.size, i.bytes)) = some (some z, sz, bytes)) (hz : z.cells.size = sz) (hsz : 0 < sz)
    (hb : Has Z wz L b2 (.cells cs te fr)) (ht' : TurnF (.row v e sz n xs) (fun v' => .row v' e sz (n + m) (xs ++ cs.toList)) L L') (hn : cs.size = m * sz) (h1 : ∀ u ∈ cs.toList, u.oneCell' = true)
    (hlen : n + m ≤ 1000000000) (hby : bytes ≤ 100000) :
    ∀ a w, Fr N ds t a → Mem w0 E Z0 Z wz L w → ∃ v' w', (execOp a.eval ⟨some d, .call { callee := .builtin .append, args := #[x, y], argTypes := #[t0, t0] }, ty, pos, aft, g⟩).run P w = .ok (.value v') w' ∧ Mem w0 E Z0 Z wz (L' v') w' :=
  do_append hx hy hu hi hz hsz ht' hb (by simpa using hn) (fun j u h => by simpa using h) h1 hlen hby
theorem do_appendR {x y : Operand} {v vy : Value} {t0 e bytes n : Nat} {z : Value} {xs ys : List Value} {L' : Value → List Res} (hx : ev t x = some v) (hy : ev t y = some vy) (hr : RVals Z wz ys vy)
    (hu : P.underlying t0 = some (.slice e)) (hi : (P.info? e).map (fun i => (i.zero, i.size, i.bytes)) = some (some z, 1, bytes)) (hz : z.cells.size = 1)
    (ht' : TurnF (.row v e 1 n xs) (fun v' => .row v' e 1 (n + ys.length) (xs ++ ys)) L L') (h1 : ∀ u ∈ ys, u.oneCell' = true)
    (hlen : n + ys.length ≤ 1000000000) (hby : bytes ≤ 100000) :
    ∀ a w, Fr N ds t a → Mem w0 E Z0 Z wz L w → ∃ v' w', (execOp a.eval ⟨some d, .call { callee := .builtin .append, args := #[x, y], argTypes := #[t0, t0] }, ty, pos, aft, g⟩).run P w = .ok (.value v') w' ∧ Mem w0 E Z0 Z wz (L' v') w' := by
  obtain ⟨A, c, rfl, hc1, hc2, h3⟩ := hr
  rcases h3 with rfl | ⟨b, o, cs, te, fr, rfl, hf, hcell⟩
  · intro a w ha hw
    have ht := ht'.turn
    obtain ⟨inf, hinf, hzz⟩ := Option.map_eq_some_iff.1 hi
    simp only [Prod.mk.injEq] at hzz
    have hown : w.ownsRow 0 e 1 v n xs := hw.own _ (ht v).mem
    refine ⟨v, w, ?_, by simpa using hw.turnRow (ht v) (by simpa using hown) ⟨rfl, rfl, rfl, Nat.le_refl _, fun _ _ _ => rfl⟩ (.inl rfl)⟩
    have hrun : (Builtin.append_ #[t0, t0] ty #[v, .slice A 0 c]).run P w = .ok v w := by
      rcases hown.2 with ⟨rfl, rfl⟩ | ⟨g, cap, cur, rfl, _, _, hnc, _⟩
      · cases A <;> simp [Builtin.append_, run_underlying hu, sizeOf, typeInfo, hinf, Builtin.lenOf, Builtin.firstCells, loadCells, loadCellsFrom]
      · cases A <;> simp [Builtin.append_, run_underlying hu, sizeOf, typeInfo, hinf, Builtin.lenOf, Builtin.firstCells, hnc, storeCells, loadCells, loadCellsFrom]
    unfold execOp
    simp [resolve, invoke, builtin, ha.eval hx, ha.eval hy, hrun]
  · exact do_append hx hy hu hi hz (by decide) ht' (.frz hf) (by simp) hcell h1 hlen hby
end
end Go.Eng

set_option linter.unusedVariables false
set_option linter.unusedSimpArgs false
namespace Go.Eng
open Go Go.RowKit
section
variable {P : Program} {r : Option Nat} {N : Nat} {ds : List Deferred} {ops : Array Oper} {Q : Post} {t : Fm} {rest : List Oper} {M : World → Prop}
variable {w0 : World} {E Z0 Z : Nat → Prop} {wz : World} {L : List Res}
variable {ty : TypeId} {pos : String} {aft : Array Edge} {d : Nat} {g : Option (Nat × Bool)}
/-! slices with a bound on what is behind them, slices of texts -/
theorem vo_sliceHM {xt e : TypeId} {x hi mx : Operand} {A : Option Addr} {n c sz : Nat} {k k' : IntKind} {h m : Int} (hx : ev t x = some (.slice A n c)) (hhi : ev t hi = some (.int k h)) (hmx : ev t mx = some (.int k' m)) (hu : P.underlying xt = some (.slice e)) (hz : (P.info? e).map (·.size) = some sz)
    (h0 : 0 ≤ h) (h1 : h ≤ m) (h2 : m ≤ c) : ValOf P N ds t M ⟨some d, .slice xt x none (some hi) (some mx), ty, pos, aft, none⟩ (Go.sliced A 0 h.toNat m.toNat sz) := fun a w ha hw => by
  have he : P.elem xt = e := by simp [Program.elem, hu]
  obtain ⟨inf, hinf, rfl⟩ := Option.map_eq_some_iff.1 hz
  unfold execOp
  simp [ha.eval hx, ha.eval hhi, ha.eval hmx, run_sliceAt_slice, run_slice_hm, he, hu, h0, h1, h2, sizeOf, typeInfo, hinf]
theorem vo_sliceLHM {xt e : TypeId} {x lo hi mx : Operand} {A : Option Addr} {n c sz : Nat} {k k' k'' : IntKind} {l h m : Int} (hx : ev t x = some (.slice A n c)) (hlo : ev t lo = some (.int k'' l)) (hhi : ev t hi = some (.int k h)) (hmx : ev t mx = some (.int k' m)) (hu : P.underlying xt = some (.slice e)) (hz : (P.info? e).map (·.size) = some sz)
    (hl : 0 ≤ l) (h0 : l ≤ h) (h1 : h ≤ m) (h2 : m ≤ c) : ValOf P N ds t M ⟨some d, .slice xt x (some lo) (some hi) (some mx), ty, pos, aft, none⟩ (Go.sliced A l.toNat h.toNat m.toNat sz) := fun a w ha hw => by
  have he : P.elem xt = e := by simp [Program.elem, hu]
  obtain ⟨inf, hinf, rfl⟩ := Option.map_eq_some_iff.1 hz
  unfold execOp
  simp [ha.eval hx, ha.eval hlo, ha.eval hhi, ha.eval hmx, run_sliceAt_slice, run_slice_lhm, he, hu, hl, h0, h1, h2, sizeOf, typeInfo, hinf]
theorem vo_strL {xt : TypeId} {x lo : Operand} {s : ByteArray} {k : IntKind} {l : Int} (hx : ev t x = some (.string s)) (hlo : ev t lo = some (.int k l)) (hu : P.underlying xt = some .string) (h0 : 0 ≤ l) (h1 : l ≤ s.size) :
    ValOf P N ds t M ⟨some d, .slice xt x (some lo) none none, ty, pos, aft, none⟩ (.string (s.extract l.toNat s.size)) := fun a w ha hw => by
  unfold execOp
  simp [ha.eval hx, ha.eval hlo, run_sliceAt_string, Instr.slice, Instr.sliceBounds, run_sliceBound, run_underlying hu, hu, h0, h1]
theorem vo_strH {xt : TypeId} {x hi : Operand} {s : ByteArray} {k : IntKind} {h : Int} (hx : ev t x = some (.string s)) (hhi : ev t hi = some (.int k h)) (hu : P.underlying xt = some .string) (h0 : 0 ≤ h) (h1 : h ≤ s.size) :
    ValOf P N ds t M ⟨some d, .slice xt x none (some hi) none, ty, pos, aft, none⟩ (.string (s.extract 0 h.toNat)) := fun a w ha hw => by
  unfold execOp
  simp [ha.eval hx, ha.eval hhi, run_sliceAt_string, Instr.slice, Instr.sliceBounds, run_sliceBound, run_underlying hu, hu, h0, h1]
theorem vo_strLH {xt : TypeId} {x lo hi : Operand} {s : ByteArray} {k k' : IntKind} {l h : Int} (hx : ev t x = some (.string s)) (hlo : ev t lo = some (.int k' l)) (hhi : ev t hi = some (.int k h)) (hu : P.underlying xt = some .string) (hl : 0 ≤ l) (h0 : l ≤ h) (h1 : h ≤ s.size) :
    ValOf P N ds t M ⟨some d, .slice xt x (some lo) (some hi) none, ty, pos, aft, none⟩ (.string (s.extract l.toNat h.toNat)) := fun a w ha hw => by
  have h2 : (0 : Int) ≤ h := by omega
  have h3 : l ≤ (h.toNat : Int) := by omega
  unfold execOp
  have h4 := run_sliceBound (P := P) w k' l h.toNat .sliceB hl h3
  simp [ha.eval hx, ha.eval hlo, ha.eval hhi, run_sliceAt_string, Instr.slice, Instr.sliceBounds, run_sliceBound, run_underlying hu, hu, h1, h2, h4]
/-! append of a row of items that stands still -/
theorem do_appendItems {α : Type} {f : α → List Value} {sz : Nat} (hf : ∀ x, (f x).length = sz) (hsz : 0 < sz) (hf1 : ∀ x, ∀ u ∈ f x, u.oneCell' = true) {x y : Operand} {v vy : Value} {t0 e bytes n : Nat} {z : Value} {xs : List Value} {l : List α} {L' : Value → List Res} (hx : ev t x = some v) (hy : ev t y = some vy) (hr : RItems Z wz sz f l vy)
    (hu : P.underlying t0 = some (.slice e)) (hi : (P.info? e).map (fun i => (i.zero, i.size, i.bytes)) = some (some z, sz, bytes)) (hz : z.cells.size = sz)
    (ht' : TurnF (.row v e sz n xs) (fun v' => .row v' e sz (n + l.length) (xs ++ l.flatMap f)) L L')
    (hlen : n + l.length ≤ 1000000000) (hby : bytes ≤ 100000) :
    ∀ a w, Fr N ds t a → Mem w0 E Z0 Z wz L w → ∃ v' w', (execOp a.eval ⟨some d, .call { callee := .builtin .append, args := #[x, y], argTypes := #[t0, t0] }, ty, pos, aft, g⟩).run P w = .ok (.value v') w' ∧ Mem w0 E Z0 Z wz (L' v') w' := by
  obtain ⟨A, c, rfl, hc1, hc2, h3⟩ := hr
  rcases h3 with rfl | ⟨b, o, cs, te, fr, rfl, hfb, hcell⟩
  · intro a w ha hw
    have ht := ht'.turn
    obtain ⟨inf, hinf, hzz⟩ := Option.map_eq_some_iff.1 hi
    simp only [Prod.mk.injEq] at hzz
    have hown : w.ownsRow 0 e sz v n xs := hw.own _ (ht v).mem
    refine ⟨v, w, ?_, by simpa using hw.turnRow (ht v) (by simpa using hown) ⟨rfl, rfl, rfl, Nat.le_refl _, fun _ _ _ => rfl⟩ (.inl rfl)⟩
    have hrun : (Builtin.append_ #[t0, t0] ty #[v, .slice A 0 c]).run P w = .ok v w := by
      rcases hown.2 with ⟨rfl, rfl⟩ | ⟨g, cap, cur, rfl, _, _, hnc, _⟩
      · cases A <;> simp [Builtin.append_, run_underlying hu, sizeOf, typeInfo, hinf, Builtin.lenOf, Builtin.firstCells, loadCells, loadCellsFrom]
      · cases A <;> simp [Builtin.append_, run_underlying hu, sizeOf, typeInfo, hinf, Builtin.lenOf, Builtin.firstCells, hnc, storeCells, loadCells, loadCellsFrom]
    unfold execOp
    simp [resolve, invoke, builtin, ha.eval hx, ha.eval hy, hrun]
  · exact do_append hx hy hu hi hz hsz ht' (.frz hfb) (flat_length hf l) (RItems.flat (b := b) hf hsz hcell) (fun u hu => by
      obtain ⟨x, _, hx⟩ := List.mem_flatMap.1 hu
      exact hf1 x u hx) hlen hby
/-- the same, step by step -/
theorem st_of_do {o : Oper} {d : Nat} {L' : Value → List Res} (hg : o.guard = none) (hnd : ∀ c, o.op ≠ .defer c) (ho : o.dst = some d) (hd : d < N)
    (hrun : ∀ a w, Fr N ds t a → Mem w0 E Z0 Z wz L w → ∃ v' w', (execOp a.eval o).run P w = .ok (.value v') w' ∧ Mem w0 E Z0 Z wz (L' v') w')
    (h : ∀ v', JL P r N ds ops Q rest ((d, v') :: t) (Mem w0 E Z0 Z wz (L' v'))) : JL P r N ds ops Q (o :: rest) t (Mem w0 E Z0 Z wz L) :=
  JL_op (β := Value) (fun v' => v') (fun v' => Mem w0 E Z0 Z wz (L' v')) hg hnd ho hd hrun h
theorem do_bslice1 {bt e : TypeId} {x : Operand} {v z : Value} (hx : ev t x = some v) (hu : P.underlying bt = some (.slice e)) (hz : (P.info? e).bind (·.zero) = some z) (hs : (P.info? e).map (·.size) = some v.cells.size) (hle : v.cells.size ≤ 16777216) (h0 : v.cells.size ≠ 0) :
    ∀ a w, Fr N ds t a → Mem w0 E Z0 Z wz L w → ∃ b w', (execOp a.eval ⟨some d, .buildSlice bt 1 #[(0, x)], ty, pos, aft, g⟩).run P w = .ok (.value (.slice (some ⟨b, 0, none⟩) 1 1)) w' ∧ Mem w0 E Z0 Z wz (.blk b (.cells v.cells e (0, 0)) :: L) w' := fun a w ha hw => by
  obtain ⟨inf, hinf, hz'⟩ := Option.bind_eq_some_iff.1 hz
  have hsz : inf.size = v.cells.size := by simpa [hinf] using hs
  refine ⟨w.heap.size, w.alloc (.cells v.cells e), ?_, hw.alloc _⟩
  have hf : ∀ cs : Array Value, cs.size = v.cells.size → Instr.fill (fun i => some (i * v.cells.size, v.cells.size)) cs [(0, v)] = some v.cells := by
    intro cs hcs
    rw [fill_lay v.cells.size [(0, v)] cs (by simp [hcs])]
    have := setSeg_whole (cs := cs) (l := v.cells.toList) (by simpa using hcs)
    simp [laySeg, this]
  unfold execOp
  have hle' : ¬ v.cells.size > 2 ^ 24 := by omega
  simp [ha.eval hx, Instr.buildSlice, run_underlying hu, sizeOf, typeInfo, hinf, hsz, hle', zeroValue, hz', newRow, h0, hf]
/-! make([]T, n) -/
theorem st_makeSlice {mt e : TypeId} {x y : Operand} {k k' : IntKind} {n bytes : Nat} {z : Value} (hx : ev t x = some (.int k n)) (hy : ev t y = some (.int k' n)) (hu : P.underlying mt = some (.slice e)) (hi : (P.info? e).map (fun i => (i.zero, i.size, i.bytes)) = some (some z, 1, bytes)) (hz : z.cells = #[z]) (hn : n ≤ 1000000000) (hby : bytes ≤ 100000) (hd : d < N)
    (h : ∀ b, JL P r N ds ops Q rest ((d, .slice (some ⟨b, 0, none⟩) n n) :: t) (Mem w0 E Z0 Z wz (.row (.slice (some ⟨b, 0, none⟩) n n) e 1 n (List.replicate n z) :: L))) :
    JL P r N ds ops Q (⟨some d, .makeSlice mt x y, ty, pos, aft, none⟩ :: rest) t (Mem w0 E Z0 Z wz L) :=
  JL_op (β := Nat) (fun b => .slice (some ⟨b, 0, none⟩) n n) (fun b => Mem w0 E Z0 Z wz (.row (.slice (some ⟨b, 0, none⟩) n n) e 1 n (List.replicate n z) :: L)) rfl nofun rfl hd (fun a w ha hw => by
    obtain ⟨inf, hinf, hzz⟩ := Option.map_eq_some_iff.1 hi
    simp only [Prod.mk.injEq] at hzz
    have hmul : inf.bytes * n ≤ 281474976710656 := by
      rw [hzz.2.2]
      exact Nat.le_trans (Nat.mul_le_mul hby hn) (by decide)
    have hb' : (inf.bytes : Int) * (n : Int) ≤ 281474976710656 := by
      have h : ((inf.bytes * n : Nat) : Int) ≤ 281474976710656 := by omega
      rwa [Int.natCast_mul] at h
    have hr := run_make (P := P) w mt e inf z hu hinf hzz.1 k k' n n (by omega) (Int.le_refl _) hb' (by omega)
    simp only [Int.toNat_natCast, hzz.2.1, Nat.mul_one] at hr
    have hc : (madeCells z.cells n) = (List.replicate n z).toArray := by
      apply Array.ext
      · simp [madeCells]
      · intro i h1 h2
        simp [madeCells, hz, Nat.mod_one]
    refine ⟨w.heap.size, w.alloc (.cells (madeCells z.cells n) e), ?_, ?_⟩
    · unfold execOp
      simp [ha.eval hx, ha.eval hy, hr]
    · rw [hc]
      have := (hw.alloc (.cells (List.replicate n z).toArray e)).toRow (n := n) (sz := 1) (by simp) (by omega)
      simpa using this) h
/-! a row as its block -/
theorem Mem.rowBlk {w : World} (h : Mem w0 E Z0 Z wz L w) {b cap sz n : Nat} {e : TypeId} {xs : List Value} {L' : Obj → List Res} (ht : TurnF (.row (.slice (some ⟨b, 0, none⟩) n cap) e sz n xs) (fun o => .blk b o) L L') :
    ∃ cur : Array Value, Mem w0 E Z0 Z wz (L' (.cells cur e (0, 0))) w ∧ cur.size = cap * sz ∧ cur.toList.take (n * sz) = xs ∧ xs.length = n * sz ∧ n ≤ cap ∧ cap ≤ 9223372036854775807 := by
  have hown := h.own _ (ht.turn (.cells #[] 0)).mem
  obtain ⟨hl, hh⟩ := hown
  rcases hh with ⟨hh, _⟩ | ⟨g', cap', cur, hh, hb0, hg, hnc, hcm, hcs, htk⟩
  · cases hh
  · cases hh
    have ht2 := ht.turn (.cells cur e (0, 0))
    refine ⟨cur, ⟨h.os, h.tape, h.output, h.size0, h.size, h.base, h.frz, h.zb, h.zlt, fun r hr => ?_, fun r hr k hk => ?_, ?_⟩, hcs, htk, hl, hnc, hcm⟩
    · rcases ht2.others h.nodup r hr with rfl | ⟨hr, _⟩
      · exact hg
      · exact h.own r hr
    · rcases ht2.mem' r hr with rfl | hr
      · cases hk; exact h.sep _ ht2.mem _ rfl
      · exact h.sep r hr k hk
    · exact ht2.apart h.nodup (fun k hk => .inl hk)
theorem Mem.blkRow {w : World} (h : Mem w0 E Z0 Z wz L w) {b cap sz n : Nat} {e : TypeId} {cur : Array Value} {xs : List Value} {L' : List Res} (ht : Turn L (.blk b (.cells cur e (0, 0))) (.row (.slice (some ⟨b, 0, none⟩) n cap) e sz n xs) L')
    (hcs : cur.size = cap * sz) (htk : cur.toList.take (n * sz) = xs) (hnc : n ≤ cap) (hcm : cap ≤ 9223372036854775807) : Mem w0 E Z0 Z wz L' w := by
  have hg : w.heap[b]? = some (.cells cur e (0, 0)) := h.own _ ht.mem
  refine ⟨h.os, h.tape, h.output, h.size0, h.size, h.base, h.frz, h.zb, h.zlt, fun r hr => ?_, fun r hr k hk => ?_, ?_⟩
  · rcases ht.others h.nodup r hr with rfl | ⟨hr, _⟩
    · refine ⟨?_, .inr ⟨b, cap, cur, rfl, Nat.zero_le _, hg, hnc, hcm, hcs, htk⟩⟩
      rw [← htk, List.length_take, Array.length_toList, hcs]
      exact Nat.min_eq_left (Nat.mul_le_mul_right _ hnc)
    · exact h.own r hr
  · rcases ht.mem' r hr with rfl | hr
    · have : b = k := by simpa [Res.foot, Value.ownBlock] using hk
      subst this
      exact h.sep _ ht.mem _ rfl
    · exact h.sep r hr k hk
  · exact ht.apart h.nodup (fun k hk => .inl (by simpa [Res.foot, Value.ownBlock] using hk))
theorem JL_rowBlk {l : List Oper} {b cap sz n : Nat} {e : TypeId} {xs : List Value} {L' : Obj → List Res} (ht : TurnF (.row (.slice (some ⟨b, 0, none⟩) n cap) e sz n xs) (fun o => .blk b o) L L')
    (h : ∀ cur : Array Value, cur.size = cap * sz → cur.toList.take (n * sz) = xs → xs.length = n * sz → n ≤ cap → cap ≤ 9223372036854775807 → JL P r N ds ops Q l t (Mem w0 E Z0 Z wz (L' (.cells cur e (0, 0))))) : JL P r N ds ops Q l t (Mem w0 E Z0 Z wz L) := fun a w ha hw => by
  obtain ⟨cur, h1, h2, h3, h4, h5, h6⟩ := hw.rowBlk ht
  exact h cur h2 h3 h4 h5 h6 a w ha h1
theorem JL_blkRow {l : List Oper} (cap sz n : Nat) (xs : List Value) {b : Nat} {e : TypeId} {cur : Array Value} {L' : List Res} (ht : Turn L (.blk b (.cells cur e (0, 0))) (.row (.slice (some ⟨b, 0, none⟩) n cap) e sz n xs) L')
    (hcs : cur.size = cap * sz) (htk : cur.toList.take (n * sz) = xs) (hnc : n ≤ cap) (hcm : cap ≤ 9223372036854775807)
    (h : JL P r N ds ops Q l t (Mem w0 E Z0 Z wz L')) : JL P r N ds ops Q l t (Mem w0 E Z0 Z wz L) := fun a w ha hw => h a w ha (hw.blkRow ht hcs htk hnc hcm)
/-! append within a block, clear -/
theorem run_storeCells_seg {w : World} {b o : Nat} {cs : Array Value} {te : TypeId} {l : List Value} (h : w.heap[b]? = some (.cells cs te (0, 0))) (h1 : ∀ u ∈ l, u.oneCell' = true) (hfit : o + l.length ≤ cs.size) :
    (storeCells ⟨b, o, none⟩ l).run P w = .ok () (w.setCells b o l) := by
  have := run_storeCells_cells (P := P) b o l 0 w (fun j hj => by
      rw [cell_cells h, Array.getElem?_eq_getElem (by omega)]; rfl) (fun j hj => frozen_of_row w b _ cs te h) h1
  simpa using this
theorem do_appendBlk {x y : Operand} {t0 e b o n cap m bytes : Nat} {A2 : Option Addr} {c2 : Nat} {cs : Array Value} {te : TypeId} {z : Value} {news : List Value} {L' : List Res} (hx : ev t x = some (.slice (some ⟨b, o, none⟩) n cap)) (hy : ev t y = some (.slice A2 m c2))
    (hu : P.underlying t0 = some (.slice e)) (hi : (P.info? e).map (fun i => (i.zero, i.size, i.bytes)) = some (some z, 1, bytes))
    (ht : Turn L (.blk b (.cells cs te (0, 0))) (.blk b (.cells (setSeg cs (o + n) news) te (0, 0))) L') (hn : news.length = m) (hm : m = 0 ∨ ∃ b2 o2 cs2 te2 fr2, A2 = some ⟨b2, o2, none⟩ ∧ Has Z wz L b2 (.cells cs2 te2 fr2) ∧ ∀ (j : Nat) (u : Value), news[j]? = some u → cs2[o2 + j]? = some u)
    (h1 : ∀ u ∈ news, u.oneCell' = true) (hle : n + m ≤ cap) (hfit : o + n + m ≤ cs.size) :
    ∀ a w, Fr N ds t a → Mem w0 E Z0 Z wz L w → ∃ v' w', (execOp a.eval ⟨some d, .call { callee := .builtin .append, args := #[x, y], argTypes := #[t0, t0] }, ty, pos, aft, g⟩).run P w = .ok (.value v') w' ∧ v' = .slice (some ⟨b, o, none⟩) (n + m) cap ∧ Mem w0 E Z0 Z wz L' w' := fun a w ha hw => by
  obtain ⟨inf, hinf, hzz⟩ := Option.map_eq_some_iff.1 hi
  simp only [Prod.mk.injEq] at hzz
  have hh : w.heap[b]? = some (.cells cs te (0, 0)) := hw.own _ ht.mem
  have hc := heap_setCells news (o + n) w cs hh
  have hst : (storeCells ⟨b, o + n, none⟩ news).run P w = .ok () (w.setCells b (o + n) news) := run_storeCells_seg hh h1 (by omega)
  have hfc : (Builtin.firstCells 1 m (.slice A2 m c2)).run P w = .ok news.toArray w := by
    rcases hm with rfl | ⟨b2, o2, cs2, te2, fr2, rfl, hb2, hcell⟩
    · have : news = [] := List.eq_nil_of_length_eq_zero hn
      subst this
      cases A2 <;> simp [Builtin.firstCells, loadCells, loadCellsFrom]
    · have hbl := hw.has hb2
      have hl := run_loadCells_list (P := P) w ⟨b2, o2, none⟩ news (fun j u hu => by rw [Addr.add_mid, cell_cells hbl]; exact hcell j u hu)
      simp only [Builtin.firstCells, Nat.mul_one]
      rw [← hn]
      exact hl
  refine ⟨_, w.setCells b (o + n) news, ?_, rfl, hw.turn ht hc.2.2.2.1 hc.2.2.2.2.1 hc.2.2.2.2.2 hc.2.2.1 hc.2.1 hc.1⟩
  have hrun : (Builtin.append_ #[t0, t0] ty #[.slice (some ⟨b, o, none⟩) n cap, .slice A2 m c2]).run P w = .ok (.slice (some ⟨b, o, none⟩) (n + m) cap) (w.setCells b (o + n) news) := by
    simp [Builtin.append_, run_underlying hu, sizeOf, typeInfo, hinf, hzz.2.1, Builtin.lenOf, hle, hfc, Addr.add_mid, hst]
  unfold execOp
  simp [resolve, invoke, builtin, ha.eval hx, ha.eval hy, hrun]
theorem JL_opN {o : Oper} {M' : World → Prop} (hg : o.guard = none) (hnd : ∀ c, o.op ≠ .defer c) (ho : o.dst = none)
    (hrun : ∀ a w, Fr N ds t a → M w → ∃ v w', (execOp a.eval o).run P w = .ok (.value v) w' ∧ M' w')
    (h : JL P r N ds ops Q rest t M') : JL P r N ds ops Q (o :: rest) t M := fun a w ha hw => by
  refine wpListIn_plain hg fun K hK => ⟨fun _ _ => trivial, ?_⟩
  obtain ⟨v, w', hr, hM⟩ := hrun a w ha hw
  rw [Oper.semAt_eq _ _ _ hnd, hr]
  refine hK _ _ (h _ w' ?_ hM)
  rw [ho]
  exact ha
theorem zeroCells_one {z : Value} (hz : z.cells = #[z]) (n : Nat) : (Builtin.zeroCells z.cells n).toList = List.replicate n z := by
  apply List.ext_getElem?
  intro i
  simp only [Builtin.zeroCells, hz]
  by_cases h : i < n
  · simp [h, Nat.mod_one, List.getElem?_replicate]
  · simp [h, List.getElem?_replicate]
theorem st_clear {x : Operand} {t0 e b o n c : Nat} {cs : Array Value} {te : TypeId} {z : Value} {L' : List Res} (hx : ev t x = some (.slice (some ⟨b, o, none⟩) n c))
    (hu : P.underlying t0 = some (.slice e)) (hzr : (P.info? e).bind (·.zero) = some z) (hz : z.cells = #[z]) (hz1 : z.oneCell' = true)
    (ht : Turn L (.blk b (.cells cs te (0, 0))) (.blk b (.cells (setSeg cs o (List.replicate n z)) te (0, 0))) L') (hn : 0 < n) (hfit : o + n ≤ cs.size)
    (h : JL P r N ds ops Q rest t (Mem w0 E Z0 Z wz L')) :
    JL P r N ds ops Q (⟨none, .call { callee := .builtin .clear, args := #[x], argTypes := #[t0] }, ty, pos, aft, none⟩ :: rest) t (Mem w0 E Z0 Z wz L) :=
  JL_opN rfl nofun rfl (fun a w ha hw => by
    obtain ⟨inf, hinf, hz'⟩ := Option.bind_eq_some_iff.1 hzr
    have hh : w.heap[b]? = some (.cells cs te (0, 0)) := hw.own _ ht.mem
    have hc := heap_setCells (List.replicate n z) o w cs hh
    have hst : (storeCells ⟨b, o, none⟩ (List.replicate n z)).run P w = .ok () (w.setCells b o (List.replicate n z)) := run_storeCells_seg hh (fun u hu => by rw [List.eq_of_mem_replicate hu]; exact hz1) (by simpa using hfit)
    refine ⟨.tuple #[], w.setCells b o (List.replicate n z), ?_, hw.turn ht hc.2.2.2.1 hc.2.2.2.2.1 hc.2.2.2.2.2 hc.2.2.1 hc.2.1 hc.1⟩
    have hrun : (Builtin.clear_ #[t0] ty #[.slice (some ⟨b, o, none⟩) n c]).run P w = .ok (.tuple #[]) (w.setCells b o (List.replicate n z)) := by
      obtain ⟨k, rfl⟩ : ∃ k, n = k + 1 := ⟨n - 1, by omega⟩
      simp [Builtin.clear_, run_underlying hu, zeroValue, typeInfo, hinf, hz', zeroCells_one hz, hst]
    unfold execOp
    simp [resolve, invoke, builtin, ha.eval hx, hrun]) h
end
end Go.Eng

set_option linter.unusedVariables false
set_option linter.unusedSimpArgs false
namespace Go.Eng
open Go Go.RowKit Go.MapKept
/-! ### maps whose keys are structs -/
structure KeyOK (P : Program) (kt : TypeId) {α : Type} [DecidableEq α] (kf : α → Value) : Prop where
  desc : ∃ d, P.underlying kt = some d ∧ ∀ a b, Instr.sameNow d (kf a) (kf b) = none
  check : ∀ (e : Bool) (a : α) (w : World), (Instr.checkKey e 10000 kt (kf a)).run P w = .ok () w
  equal : ∀ (a b : α) (w : World), (Op.equal kt (kf a) (kf b)).run P w = .ok (decide (a = b)) w
  bits : ∀ a, Instr.sameBits 10000 (kf a) (kf a) = true
/-- a map's block: keys with values, stamps that differ -/
def MapS {α : Type} (kf : α → Value) (l : List (α × Value)) (o : Obj) : Prop :=
  ∃ es clock, o = .map es clock ∧ es.toList.map entryKV = l.map (fun p => (kf p.1, p.2)) ∧ (∀ e ∈ es.toList, e.born < clock) ∧ (es.toList.map (·.born)).Nodup
/-- the same; the key's entry bears this stamp -/
def MapE {α : Type} [DecidableEq α] (kf : α → Value) (l : List (α × Value)) (k : α) (stamp : Nat) (o : Obj) : Prop :=
  ∃ es clock j e, o = .map es clock ∧ es.toList.map entryKV = l.map (fun p => (kf p.1, p.2)) ∧ (∀ e ∈ es.toList, e.born < clock) ∧ (es.toList.map (·.born)).Nodup ∧ es[j]? = some e ∧ e.born = stamp ∧
    ∀ v, (es.modify j fun e => { e with val := v }).toList.map entryKV = (aset l k v).map (fun p => (kf p.1, p.2))
section
variable {α : Type} [DecidableEq α]
theorem aget_same {l : List (α × Value)} {k : α} {v : Value} (h : aget l k = some v) : aset l k v = l := by
  induction l with
  | nil => simp [aget] at h
  | cons p l ih =>
    simp only [aget] at h
    simp only [aset]
    split at h
    · rename_i hp
      rw [if_pos hp]
      have : p.2 = v := Option.some.inj h
      rw [← this]
    · rename_i hp
      rw [if_neg hp, ih h]
theorem aset_aset (l : List (α × Value)) (k : α) (u v : Value) : aset (aset l k u) k v = aset l k v := by
  induction l with
  | nil => simp [aset]
  | cons p l ih =>
    simp only [aset]
    split
    · rename_i hp
      simp [aset, hp]
    · rename_i hp
      simp [aset, hp, ih]
end
section
variable {P : Program} {w : World} {α : Type} [DecidableEq α] {kt : TypeId} {kf : α → Value}
/-- what a look for a key finds -/
theorem run_findKeyS (hk : KeyOK P kt kf) (a : α) : ∀ (es : List MapEntry) (l : List (α × Value)) (i : Nat), es.map entryKV = l.map (fun p => (kf p.1, p.2)) →
    ((∀ w, (Instr.findAsking kt (kf a) es i).run P w = .ok none w) ∧ aget l a = none ∧ ∀ v b, (es ++ [({ key := kf a, val := v, born := b } : MapEntry)]).map entryKV = (aset l a v).map (fun p => (kf p.1, p.2))) ∨
    ∃ j e, (∀ w, (Instr.findAsking kt (kf a) es i).run P w = .ok (some (i + j, e.val)) w) ∧ es[j]? = some e ∧ e.key = kf a ∧ aget l a = some e.val ∧ ∀ v, (es.modify j (fun e => { e with val := v })).map entryKV = (aset l a v).map (fun p => (kf p.1, p.2))
  | [], [], i, _ => .inl ⟨fun w => by simp [Instr.findAsking], rfl, fun v b => rfl⟩
  | [], _ :: _, i, h => by simp at h
  | _ :: _, [], i, h => by simp at h
  | e :: es, p :: l, i, h => by
    simp only [List.map_cons, List.cons.injEq] at h
    have hek : e.key = kf p.1 := congrArg Prod.fst h.1
    have hev : e.val = p.2 := congrArg Prod.snd h.1
    have heq := hk.equal a p.1
    by_cases hpa : p.1 = a
    · have hd : decide (a = p.1) = true := by simp [hpa]
      refine .inr ⟨0, e, fun w => by simp [Instr.findAsking, hek, heq, hd], rfl, by rw [hek, hpa], by simp [aget, hpa, hev], fun v => ?_⟩
      simp only [aset, hpa, if_true, List.modify_zero_cons, List.map_cons, h.2]
      simp [entryKV, hek, hpa]
    · have hd : decide (a = p.1) = false := by simp; exact fun e => hpa e.symm
      rcases run_findKeyS hk a es l (i + 1) h.2 with ⟨h1, h2, h3⟩ | ⟨j, e', h1, h2, h3, h4, h5⟩
      · refine .inl ⟨fun w => by simp [Instr.findAsking, hek, heq, hd, h1], by simp [aget, hpa, h2], fun v b => ?_⟩
        rw [List.cons_append, List.map_cons, h3 v b, aset, if_neg hpa, List.map_cons, h.1]
      · refine .inr ⟨j + 1, e', fun w => by simp [Instr.findAsking, hek, heq, hd, h1]; omega, by simpa using h2, h3, by simp [aget, hpa, h4], fun v => ?_⟩
        rw [List.modify_succ_cons, List.map_cons, h5 v, aset, if_neg hpa, List.map_cons, h.1]
theorem run_findKeyA (hk : KeyOK P kt kf) (a : α) {es : List MapEntry} {l : List (α × Value)} (h : es.map entryKV = l.map (fun p => (kf p.1, p.2))) : (Instr.findKey kt (kf a) es).run P w = (Instr.findAsking kt (kf a) es 0).run P w := by
  obtain ⟨d, hd, hn⟩ := hk.desc
  unfold Instr.findKey
  rw [Sem.run_bind, run_underlying hd]
  cases es with
  | nil => simp [Instr.findNow, Instr.findAsking]
  | cons e es =>
    cases l with
    | nil => simp at h
    | cons p l =>
      simp only [List.map_cons, List.cons.injEq] at h
      have hek : e.key = kf p.1 := congrArg Prod.fst h.1
      have : Instr.findNow d (kf a) (e :: es) 0 = none := by simp [Instr.findNow, hek, hn]
      simp [this]
theorem run_staysS (hk : KeyOK P kt kf) (a : α) : (Instr.keyThatStays (kf a) (kf a)).run P w = .ok (kf a) w := by
  unfold Instr.keyThatStays
  simp [hk.bits]
end
section
variable {P : Program} {r : Option Nat} {N : Nat} {ds : List Deferred} {ops : Array Oper} {Q : Post} {t : Fm} {rest : List Oper} {M : World → Prop}
variable {w0 : World} {E Z0 Z : Nat → Prop} {wz : World} {L : List Res}
variable {ty : TypeId} {pos : String} {aft : Array Edge} {dd : Nat} {g : Option (Nat × Bool)}
variable {α : Type} [DecidableEq α] {kf : α → Value} {mt kt et : TypeId}
omit [DecidableEq α] in
theorem st_makeMapS (hd : dd < N) (h : ∀ b o, MapS kf [] o → JL P r N ds ops Q rest ((dd, .map (some b)) :: t) (Mem w0 E Z0 Z wz (.blk b o :: L))) :
    JL P r N ds ops Q (⟨some dd, .makeMap mt none, ty, pos, aft, none⟩ :: rest) t (Mem w0 E Z0 Z wz L) :=
  JL_op (β := Nat) (fun b => .map (some b)) (fun b => Mem w0 E Z0 Z wz (.blk b (.map #[] 0) :: L)) rfl nofun rfl hd (fun a w ha hw => by
    refine ⟨w.heap.size, w.alloc (.map #[] 0), ?_, hw.alloc _⟩
    unfold execOp
    simp [Instr.makeMap]) (fun b => h b _ ⟨#[], 0, rfl, rfl, by simp, by simp⟩)
/-- 'm[k]' -/
theorem vo_lookupS {x y : Operand} {b : Nat} {o : Obj} {l : List (α × Value)} {k : α} {z : Value} (hk : KeyOK P kt kf) (hx : ev t x = some (.map (some b))) (hy : ev t y = some (kf k)) (hu : P.underlying mt = some (.map kt et))
    (hz : (P.info? et).bind (·.zero) = some z) (hb : Has Z wz L b o) (hm : MapS kf l o) : ValOf P N ds t (Mem w0 E Z0 Z wz L) ⟨some dd, .lookup mt x y false, ty, pos, aft, none⟩ ((aget l k).getD z) := fun a w ha hw => by
  obtain ⟨es, clock, rfl, h1, _, _⟩ := hm
  have hbl := hw.has hb
  obtain ⟨inf, hinf, hz'⟩ := Option.bind_eq_some_iff.1 hz
  have hzero : (zeroValue et).run P w = .ok z w := by simp [zeroValue, typeInfo, hinf, hz']
  have hfk := run_findKeyA (P := P) (w := w) hk k h1
  unfold execOp
  rcases run_findKeyS hk k es.toList l 0 h1 with ⟨hf, hg, _⟩ | ⟨j, e, hf, _, _, hg, _⟩
  · simp [ha.eval hx, ha.eval hy, Instr.lookup, run_underlying hu, MapKept.run_getObj_map hbl, hk.check, hfk, hf, hzero, hg]
  · simp [ha.eval hx, ha.eval hy, Instr.lookup, run_underlying hu, MapKept.run_getObj_map hbl, hk.check, hfk, hf, hg]
omit [DecidableEq α] in
theorem MapS.push {es : Array MapEntry} {clock : Nat} {l l' : List (α × Value)} {k : α} {v : Value} (h2 : ∀ e ∈ es.toList, e.born < clock) (h3 : (es.toList.map (·.born)).Nodup) (h : (es.toList ++ [({ key := kf k, val := v, born := clock } : MapEntry)]).map entryKV = l'.map (fun p => (kf p.1, p.2))) :
    (es.push ⟨kf k, v, clock⟩).toList.map entryKV = l'.map (fun p => (kf p.1, p.2)) ∧ (∀ e ∈ (es.push ⟨kf k, v, clock⟩).toList, e.born < clock + 1) ∧ ((es.push ⟨kf k, v, clock⟩).toList.map (·.born)).Nodup := by
  rw [Array.toList_push]
  refine ⟨h, fun e he => ?_, ?_⟩
  · rcases List.mem_append.1 he with he | he
    · have := h2 e he; omega
    · simp at he; subst he; simp
  · rw [List.map_append, List.nodup_append]
    refine ⟨h3, by simp, fun a ha b hb => ?_⟩
    simp at hb
    subst hb
    obtain ⟨e, he, rfl⟩ := List.mem_map.1 ha
    have := h2 e he
    omega
omit [DecidableEq α] in
theorem modify_snoc {β : Type} : ∀ (l : List β) (x : β) (f : β → β) {n : Nat}, n = l.length → (l ++ [x]).modify n f = l ++ [f x]
  | [], x, f, _, rfl => by simp
  | y :: l, x, f, _, rfl => by simpa using modify_snoc l x f rfl
omit [DecidableEq α] in
theorem modify_born (es : List MapEntry) (j : Nat) (f : MapEntry → MapEntry) (hf : ∀ e, (f e).born = e.born) : (es.modify j f).map (·.born) = es.map (·.born) := by
  apply List.ext_getElem?
  intro i
  simp only [List.getElem?_map, List.getElem?_modify]
  split
  · cases es[i]? <;> simp [hf]
  · cases es[i]? <;> rfl
omit [DecidableEq α] in
theorem modify_lt {es : List MapEntry} {clock : Nat} (j : Nat) (f : MapEntry → MapEntry) (hf : ∀ e, (f e).born = e.born) (h : ∀ e ∈ es, e.born < clock) : ∀ e ∈ es.modify j f, e.born < clock := fun e he => by
  have h1 : e.born ∈ (es.modify j f).map (·.born) := List.mem_map_of_mem he
  rw [modify_born es j f hf] at h1
  obtain ⟨x, hx, hb⟩ := List.mem_map.1 h1
  rw [← hb]; exact h x hx
/-- 'm[k] = v' -/
theorem do_mapUpdateS {x y z : Operand} {b : Nat} {o : Obj} {l : List (α × Value)} {k : α} {v : Value} {L' : Obj → List Res} (hk : KeyOK P kt kf) (hx : ev t x = some (.map (some b))) (hy : ev t y = some (kf k)) (hz : ev t z = some v) (hu : P.underlying mt = some (.map kt et))
    (hm : MapS kf l o) (ht' : TurnF (.blk b o) (fun o' => .blk b o') L L') :
    ∃ o', MapS kf (aset l k v) o' ∧ ∀ a w, Fr N ds t a → Mem w0 E Z0 Z wz L w → ∃ w', (execOp a.eval ⟨none, .mapUpdate mt x y z, ty, pos, aft, g⟩).run P w = .ok .skip w' ∧ Mem w0 E Z0 Z wz (L' o') w' := by
  obtain ⟨es, clock, rfl, h1, h2, h3⟩ := hm
  rcases run_findKeyS hk k es.toList l 0 h1 with ⟨hf, hg, hs⟩ | ⟨j, e, hf, hj, hkey, hg, hs⟩
  · have hp := MapS.push (kf := kf) (k := k) (v := v) (l := l) h2 h3 (hs v clock)
    refine ⟨.map (es.push ⟨kf k, v, clock⟩) (clock + 1), ⟨_, _, rfl, hp.1, hp.2.1, hp.2.2⟩, fun a w ha hw => ?_⟩
    have ht := ht'.turn (.map (es.push ⟨kf k, v, clock⟩) (clock + 1))
    have hbl : w.heap[b]? = some (.map es clock) := hw.own _ ht.mem
    have hh := MapKept.heap_set (o' := .map (es.push ⟨kf k, v, clock⟩) (clock + 1)) hbl
    refine ⟨{ w with heap := w.heap.setIfInBounds b (.map (es.push ⟨kf k, v, clock⟩) (clock + 1)) }, ?_, hw.turn ht rfl rfl rfl (by simp) hh.2 hh.1⟩
    have hfk := run_findKeyA (P := P) (w := w) hk k h1
    unfold execOp
    simp [ha.eval hx, ha.eval hy, ha.eval hz, Instr.mapUpdate, run_underlying hu, MapKept.run_getObj_map hbl, hk.check, hfk, hf, MapKept.run_setObj_map _ hbl]
  · have hes : es[j]? = some e := by rw [← Array.getElem?_toList]; exact hj
    have hms : (es.modify j fun e => { e with key := kf k, val := v }).toList = es.toList.modify j fun e => { e with val := v } := by
      rw [Array.toList_modify]
      apply List.ext_getElem?
      intro i
      simp only [List.getElem?_modify]
      split
      · rename_i hi
        subst hi
        rw [hj]
        simp [hkey]
      · rfl
    refine ⟨.map (es.modify j fun e => { e with key := kf k, val := v }) clock, ⟨_, _, rfl, by rw [hms]; exact hs v, by rw [hms]; exact modify_lt j _ (fun _ => rfl) h2, by rw [hms, modify_born es.toList j (fun e => { e with val := v }) (fun _ => rfl)]; exact h3⟩, fun a w ha hw => ?_⟩
    have ht := ht'.turn (.map (es.modify j fun e => { e with key := kf k, val := v }) clock)
    have hbl : w.heap[b]? = some (.map es clock) := hw.own _ ht.mem
    have hh := MapKept.heap_set (o' := .map (es.modify j fun e => { e with key := kf k, val := v }) clock) hbl
    refine ⟨{ w with heap := w.heap.setIfInBounds b (.map (es.modify j fun e => { e with key := kf k, val := v }) clock) }, ?_, hw.turn ht rfl rfl rfl (by simp) hh.2 hh.1⟩
    have hst : (Instr.keyThatStays e.key (kf k)).run P w = .ok (kf k) w := by rw [hkey]; exact run_staysS hk k
    have hfk := run_findKeyA (P := P) (w := w) hk k h1
    unfold execOp
    simp [ha.eval hx, ha.eval hy, ha.eval hz, Instr.mapUpdate, run_underlying hu, MapKept.run_getObj_map hbl, hk.check, hfk, hf, hes, hst, MapKept.run_setObj_map _ hbl]
/-- an entry to be written: 'm[k] op= ..' -/
theorem do_mapEntry {x y : Operand} {b : Nat} {o : Obj} {l : List (α × Value)} {k : α} {z : Value} {L' : Obj → List Res} (hk : KeyOK P kt kf) (hx : ev t x = some (.map (some b))) (hy : ev t y = some (kf k)) (hu : P.underlying mt = some (.map kt et)) (hz : (P.info? et).bind (·.zero) = some z)
    (hm : MapS kf l o) (ht' : TurnF (.blk b o) (fun o' => .blk b o') L L') :
    ∃ o' stamp, MapE kf (aset l k ((aget l k).getD z)) k stamp o' ∧ ∀ a w, Fr N ds t a → Mem w0 E Z0 Z wz L w → ∃ w', (execOp a.eval ⟨some dd, .mapEntry mt x y, ty, pos, aft, g⟩).run P w = .ok (.value (.tuple #[(aget l k).getD z, .int .i64 (stamp : Nat)])) w' ∧ Mem w0 E Z0 Z wz (L' o') w' := by
  obtain ⟨es, clock, rfl, h1, h2, h3⟩ := hm
  obtain ⟨inf, hinf, hz'⟩ := Option.bind_eq_some_iff.1 hz
  have hzero : ∀ w, (zeroValue et).run P w = .ok z w := fun w => by simp [zeroValue, typeInfo, hinf, hz']
  rcases run_findKeyS hk k es.toList l 0 h1 with ⟨hf, hg, hs⟩ | ⟨j, e, hf, hj, hkey, hg, hs⟩
  · have hp := MapS.push (kf := kf) (k := k) (v := z) (l := l) h2 h3 (hs z clock)
    have hlast : (es.push ⟨kf k, z, clock⟩)[es.size]? = some ⟨kf k, z, clock⟩ := by simp
    refine ⟨.map (es.push ⟨kf k, z, clock⟩) (clock + 1), clock, ⟨_, _, es.size, ⟨kf k, z, clock⟩, rfl, by rw [hg]; exact hp.1, hp.2.1, hp.2.2, hlast, rfl, fun v => ?_⟩, fun a w ha hw => ?_⟩
    · rw [hg]
      have h9 := hs v clock
      simp only [Option.getD_none]
      rw [aset_aset, ← h9, Array.toList_modify, Array.toList_push]
      congr 1
      exact modify_snoc es.toList _ _ (by simp)
    have ht := ht'.turn (.map (es.push ⟨kf k, z, clock⟩) (clock + 1))
    have hbl : w.heap[b]? = some (.map es clock) := hw.own _ ht.mem
    have hh := MapKept.heap_set (o' := .map (es.push ⟨kf k, z, clock⟩) (clock + 1)) hbl
    refine ⟨{ w with heap := w.heap.setIfInBounds b (.map (es.push ⟨kf k, z, clock⟩) (clock + 1)) }, ?_, hw.turn ht rfl rfl rfl (by simp) hh.2 hh.1⟩
    have hfk := run_findKeyA (P := P) (w := w) hk k h1
    unfold execOp
    simp [ha.eval hx, ha.eval hy, Instr.mapEntry, run_underlying hu, MapKept.run_getObj_map hbl, hk.check, hfk, hf, hzero, hg, goInt, MapKept.run_setObj_map _ hbl]
  · have hes : es[j]? = some e := by rw [← Array.getElem?_toList]; exact hj
    have hms : es.modify j (fun e => { e with key := kf k }) = es := by
      apply Array.ext_getElem?
      intro i
      rw [Array.getElem?_modify]
      split
      · rename_i hi
        subst hi
        rw [hes]
        simp [← hkey]
      · rfl
    refine ⟨.map es clock, e.born, ⟨es, clock, j, e, rfl, by rw [hg, Option.getD_some, aget_same hg]; exact h1, h2, h3, hes, rfl, fun v => ?_⟩, fun a w ha hw => ?_⟩
    · rw [aset_aset, Array.toList_modify]; exact hs v
    have ht := ht'.turn (.map es clock)
    have hbl : w.heap[b]? = some (.map es clock) := hw.own _ ht.mem
    have hst : (Instr.keyThatStays e.key (kf k)).run P w = .ok (kf k) w := by rw [hkey]; exact run_staysS hk k
    have hfk := run_findKeyA (P := P) (w := w) hk k h1
    have hh := MapKept.heap_set (o' := .map es clock) hbl
    refine ⟨{ w with heap := w.heap.setIfInBounds b (.map es clock) }, ?_, hw.turn ht rfl rfl rfl (by simp) hh.2 hh.1⟩
    unfold execOp
    simp [ha.eval hx, ha.eval hy, Instr.mapEntry, run_underlying hu, MapKept.run_getObj_map hbl, hk.check, hfk, hf, hes, hst, hg, goInt, hms, MapKept.run_setObj_map _ hbl]
theorem do_entryStore {x y z : Operand} {b : Nat} {o : Obj} {l : List (α × Value)} {k : α} {v : Value} {stamp : Nat} {kd : IntKind} {L' : Obj → List Res} (hx : ev t x = some (.map (some b))) (hy : ev t y = some (.int kd stamp)) (hz : ev t z = some v)
    (hm : MapE kf l k stamp o) (ht' : TurnF (.blk b o) (fun o' => .blk b o') L L') :
    ∃ o', MapS kf (aset l k v) o' ∧ ∀ a w, Fr N ds t a → Mem w0 E Z0 Z wz L w → ∃ w', (execOp a.eval ⟨none, .entryStore mt x y z, ty, pos, aft, g⟩).run P w = .ok .skip w' ∧ Mem w0 E Z0 Z wz (L' o') w' := by
  obtain ⟨es, clock, j, e, rfl, h1, h2, h3, hes, rfl, hs⟩ := hm
  refine ⟨.map (es.modify j fun e => { e with val := v }) clock, ⟨_, _, rfl, hs v, by rw [Array.toList_modify]; exact modify_lt j _ (fun _ => rfl) h2, by rw [Array.toList_modify, modify_born es.toList j (fun e => { e with val := v }) (fun _ => rfl)]; exact h3⟩, fun a w ha hw => ?_⟩
  have ht := ht'.turn (.map (es.modify j fun e => { e with val := v }) clock)
  have hbl : w.heap[b]? = some (.map es clock) := hw.own _ ht.mem
  have hh := MapKept.heap_set (o' := .map (es.modify j fun e => { e with val := v }) clock) hbl
  have hj : es.findIdx? (fun x => (x.born : Int) == (e.born : Int)) = some j := by
    obtain ⟨hjl1, hjl2⟩ := (Array.getElem?_eq_some_iff.1 hes)
    rw [Array.findIdx?_eq_some_iff_getElem]
    refine ⟨hjl1, by simp [hjl2], fun i hi => ?_⟩
    simp only [Bool.not_eq_true, beq_eq_false_iff_ne, ne_eq]
    intro hb
    have hb' : (es[i]'(by omega)).born = e.born := by omega
    rw [← hjl2] at hb'
    have hnd := (List.nodup_iff_pairwise_ne.1 h3)
    rw [List.pairwise_iff_getElem] at hnd
    have := hnd i j (by simp; omega) (by simpa using hjl1) hi
    simp at this
    exact this hb'
  refine ⟨{ w with heap := w.heap.setIfInBounds b (.map (es.modify j fun e => { e with val := v }) clock) }, ?_, hw.turn ht rfl rfl rfl (by simp) hh.2 hh.1⟩
  unfold execOp
  simp [ha.eval hx, ha.eval hy, ha.eval hz, Instr.entryStore, MapKept.run_getObj_map hbl, asInt, asIntOf, hj, MapKept.run_setObj_map _ hbl]
end
end Go.Eng
