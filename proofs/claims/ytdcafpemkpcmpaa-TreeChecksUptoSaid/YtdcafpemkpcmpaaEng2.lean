/-
  Part of the proofs over this seat: E7 E8 E9 E10 E11. Own work; imports the kit.
-/
import Derived.Laws.RangeAny
import Derived.Test.YtdcafpemkpcmpaaEng1
set_option linter.unusedVariables false
set_option linter.unusedSimpArgs false
namespace Go.Eng
open Go Go.RowKit
section
variable {P : Program} {r : Option Nat} {N : Nat} {ds : List Deferred} {ops : Array Oper} {Q : Post} {t : Fm} {rest : List Oper} {M : World → Prop}
/-- a guarded operation whose guard was passed over itself -/
theorem JL_nou {d : Nat} {op : Op} {ty : TypeId} {pos : String} {aft : Array Edge} {j : Nat} {b : Bool} {gt : Nat}
    (hj : (ops[j]?).bind (·.dst) = some gt) (hb : look t gt = some undef) (hd : d < N)
    (h : JL P r N ds ops Q rest ((d, undef) :: t) M) : JL P r N ds ops Q (⟨some d, op, ty, pos, aft, some (j, b)⟩ :: rest) t M := fun a w ha hw => by
  have hy : yielded ops a.tmps j = none := by
    unfold yielded
    rw [hj]
    simp [ha.get _ _ hb, undef]
  unfold wpListIn
  rw [if_neg (by simp [Region.wanted, hy])]
  exact ⟨fun _ _ => trivial, h _ w (ha.put hd _) hw⟩
theorem JR_vnu {F : World → Prop} {m fuel : Nat} {listed : Array Bool} {i d j gt : Nat} {b : Bool} {op : Op} {ty : TypeId} {pos : String} {aft : Array Edge} (hi : ops[i]? = some ⟨some d, op, ty, pos, aft, some (j, b)⟩)
    (hj : (ops[j]?).bind (·.dst) = some gt) (hb : look t gt = some undef)
    (hsel : Region.noSelect ops = true) (ht : tailOK ops m = true) (him : Nat.beq i m = false) (hfree : Region.free .any ops listed i = true) (hr : (Region.ready .any ops listed).contains i = true) (hQ : PanicOK Q) (hd : d < N) (hMF : ∀ w, M w → F w)
    (h : JR P N ds ops Q F m fuel (listed.setIfInBounds i true) ((d, undef) :: t) M) : JR P N ds ops Q F m (fuel + 1) listed t M := fun a w ha hw hcl => by
  have hr' : i ∈ Region.ready .any ops listed := by simpa using hr
  have hy : yielded ops a.tmps j = none := by
    unfold yielded
    rw [hj]
    simp [ha.get _ _ hb, undef]
  refine wpAnyG_first hi (Region.noSelect_spec hsel) ht (fun e => by subst e; rw [Nat.beq_refl] at him; cases him) fuel listed a w hcl (Region.free_spec hi hfree) hr'
    (.inr ⟨by simp [Region.wanted, hy], rfl⟩) (fun _ => hMF w hw) (h _ w (ha.put hd _) hw (hcl.set hr'))
/-- the ways meet again: one temporary is known -/
theorem JC_joinB {c : Code} (s : Nat) (B : Bool) (h : JC P r N ds c (Exit.then (fun a w => Fr N ds ((s, .bool B) :: t) a ∧ M w) Q) t M) (hK : JX N ds .normal Q ((s, .bool B) :: t) M) :
    JC P r N ds c Q t M := fun a w ha hw => by
  refine wpIn_mono (h a w ha hw) ?_
  intro e a' w' q
  cases e with
  | normal => exact hK _ _ q.1 q.2
  | _ => exact q
theorem JX_joinB {s : Nat} {B : Bool} {t0 : Fm} (b : Bool) (hs : subF t ((s, .bool b) :: t0)) (hb : b = B) : JX N ds .normal (Exit.then (fun a w => Fr N ds ((s, .bool B) :: t0) a ∧ M w) Q) t M := fun a w ha hw => by
  subst hb; exact ⟨ha.weak hs.look, hw⟩
/-- several temporaries are known -/
theorem JC_joinV {c : Code} (T : Fm) (h : JC P r N ds c (Exit.then (fun a w => Fr N ds (T ++ t) a ∧ M w) Q) t M) (hK : JX N ds .normal Q (T ++ t) M) :
    JC P r N ds c Q t M := fun a w ha hw => by
  refine wpIn_mono (h a w ha hw) ?_
  intro e a' w' q
  cases e with
  | normal => exact hK _ _ q.1 q.2
  | _ => exact q
theorem JX_joinV {T t0 : Fm} (T' : Fm) (hs : subF t (T' ++ t0)) (hT : T' = T) : JX N ds .normal (Exit.then (fun a w => Fr N ds (T ++ t0) a ∧ M w) Q) t M := fun a w ha hw => by
  subst hT; exact ⟨ha.weak hs.look, hw⟩
/-- anything is known -/
theorem JC_joinG {c : Code} {α : Type} (T : α → Fm) (MM : α → World → Prop) (h : JC P r N ds c (Exit.then (fun a w => ∃ y, Fr N ds (T y ++ t) a ∧ MM y w) Q) t M) (hK : ∀ y, JX N ds .normal Q (T y ++ t) (MM y)) :
    JC P r N ds c Q t M := fun a w ha hw => by
  refine wpIn_mono (h a w ha hw) ?_
  intro e a' w' q
  cases e with
  | normal => obtain ⟨y, h1, h2⟩ := q; exact hK y _ _ h1 h2
  | _ => exact q
theorem JX_joinG {α : Type} {T : α → Fm} {t0 : Fm} {MM : α → World → Prop} (y : α) (hs : subF t (T y ++ t0)) (hM : ∀ w, M w → MM y w) :
    JX N ds .normal (Exit.then (fun a w => ∃ y, Fr N ds (T y ++ t0) a ∧ MM y w) Q) t M := fun a w ha hw => ⟨y, ha.weak hs.look, hM w hw⟩
theorem JC_drawM {id : Nat} {l : List Oper} (m : Nat) (hm : P.follows .mixedOrders = true) (hM : ∀ w, M w → M { w with drawn := w.drawn + 1 })
    (h : JR P N ds l.toArray Q M m l.length (Array.replicate l.toArray.size false) t M) : JC P r N ds (.region id l.toArray true) Q t M := JC_draw m hm hM h
theorem one_of_all {l : List Value} (h : l.all (·.oneCell') = true) : ∀ u ∈ l, u.oneCell' = true := List.all_eq_true.1 h
theorem PartAt.whole {ty : TypeId} {d : TypeDesc} {l : List Value} (hu : P.underlying ty = some d) (hd : d.isRow = true) (hi : (P.info? ty).map (·.size) = some l.length) : PartAt P ty l.toArray 0 (.agg l.toArray) :=
  .agg hu hd hi (fun j u h => by simpa using h)
end
end Go.Eng

set_option linter.unusedVariables false
set_option linter.unusedSimpArgs false
namespace Go.Eng
open Go Go.RowKit

/-- of the old blocks those of E alone may have turned -/
structure Keeps (E : Nat → Prop) (w w' : World) : Prop where
  os : w'.os = w.os
  tape : w'.tape = w.tape
  output : w'.output = w.output
  size : w.heap.size ≤ w'.heap.size
  block : ∀ k, k < w.heap.size → ¬ E k → w'.heap[k]? = w.heap[k]?
theorem Keeps.below {w w' : World} (h : Keeps (fun _ => False) w w') : Below w.heap.size w w' := ⟨h.os, h.tape, h.output, h.size, fun k hk => h.block k hk (fun h => h)⟩
theorem Below.keeps {E : Nat → Prop} {w w' : World} (h : Below w.heap.size w w') : Keeps E w w' := ⟨h.os, h.tape, h.output, h.size, fun k hk _ => h.block k hk⟩
section
variable {w0 : World} {E Z0 Z : Nat → Prop} {wz : World} {L : List Res} {w : World}
theorem Mem.keeps (h : Mem w0 E Z0 Z wz L w) : Keeps E w0 w := ⟨h.os, h.tape, h.output, by have := h.size0; have := h.size; omega, h.base⟩
/-- THE BEGIN where one old block is written -/
theorem Mem.startW (w0 : World) (b : Nat) (o : Obj) (hb : w0.heap[b]? = some o) : Mem w0 (fun k => k = b) (fun k => k < w0.heap.size ∧ k ≠ b) (fun k => k < w0.heap.size ∧ k ≠ b) w0 [.blk b o] w0 :=
  ⟨rfl, rfl, rfl, Nat.le_refl _, Nat.le_refl _, fun _ _ _ => rfl, fun _ _ _ h => h, fun _ h => .inl h, fun _ h => h.1, fun r hr => by
    obtain rfl := List.mem_singleton.1 hr
    exact hb, fun r hr k hk => by
    obtain rfl := List.mem_singleton.1 hr
    cases hk
    exact ⟨fun h => h.2 rfl, .inr rfl⟩, ⟨fun _ _ r hr => (by cases hr), trivial⟩⟩
theorem Res.foot_lt {r : Res} {b : Nat} (hh : r.holds w) (hb : r.foot = some b) : b < w.heap.size := by
  cases r with
  | blk b' o' => cases hb; exact (Array.getElem?_eq_some_iff.1 hh).1
  | row v e sz n xs =>
    rcases hh.2 with ⟨rfl, _⟩ | ⟨g, cap, cur, rfl, _, h3, _⟩
    · simp [Res.foot, Value.ownBlock] at hb
    · have : g = b := by simpa [Res.foot, Value.ownBlock] using hb
      subst this
      exact (Array.getElem?_eq_some_iff.1 h3).1
/-- a call that writes one of the call's own blocks -/
theorem Mem.callW (h : Mem w0 E Z0 Z wz L w) {b : Nat} {o o' : Obj} {L' : List Res} (ht : Turn L (.blk b o) (.blk b o') L') {w' : World} (hk : Keeps (fun k => k = b) w w') (hb : w'.heap[b]? = some o') : Mem w0 E Z0 Z wz L' w' := by
  have hsep := h.sep _ ht.mem b rfl
  have hs := h.size
  have hs0 := h.size0
  have hsz := hk.size
  refine ⟨hk.os.trans h.os, hk.tape.trans h.tape, hk.output.trans h.output, hs0, by omega, ?_, ?_, h.zb, h.zlt, ?_, ?_, ?_⟩
  · intro k hk' hE
    have hne : k ≠ b := fun e => by
      subst e
      rcases hsep.2 with h7 | h7
      · omega
      · exact hE h7
    rw [hk.block k (by omega) hne]
    exact h.base k hk' hE
  · intro k o2 hz ho
    have hne : k ≠ b := fun e => by subst e; exact hsep.1 hz
    have := h.frz k o2 hz ho
    rw [hk.block k (Array.getElem?_eq_some_iff.1 this).1 hne]
    exact this
  · intro r hr
    rcases ht.others h.nodup r hr with rfl | ⟨hr, hne⟩
    · exact hb
    · exact Res.holds_keep (fun k hkf => hk.block k (Res.foot_lt (h.own r hr) hkf) (fun e => by subst e; exact hne _ rfl hkf)) (h.own r hr)
  · intro r hr k hkf
    rcases ht.mem' r hr with rfl | hr
    · cases hkf; exact hsep
    · exact h.sep r hr k hkf
  · exact ht.apart h.nodup (fun k hk => .inl hk)
/-- a call that hands over a new block -/
theorem Mem.callN (h : Mem w0 E Z0 Z wz L w) {b : Nat} {o : Obj} {w' : World} (hk : Below w.heap.size w w') (hb : w.heap.size ≤ b) (ho : w'.heap[b]? = some o) : Mem w0 E Z0 Z wz (.blk b o :: L) w' := by
  have h1 := h.callS hk
  have hs := h.size
  have hs0 := h.size0
  refine ⟨h1.os, h1.tape, h1.output, h1.size0, h1.size, h1.base, h1.frz, h1.zb, h1.zlt, ?_, ?_, ?_⟩
  · intro r hr
    rcases List.mem_cons.1 hr with rfl | hr
    · exact ho
    · exact h1.own r hr
  · intro r hr k hkf
    rcases List.mem_cons.1 hr with rfl | hr
    · cases hkf
      refine ⟨fun hz => ?_, .inl (by omega)⟩
      rcases h.zb _ hz with h2 | h2
      · have := h.zlt _ h2; omega
      · omega
    · exact h1.sep r hr k hkf
  · refine ⟨?_, h1.nodup⟩
    intro k hkf r' hr' hk'
    cases hkf
    have := Res.foot_lt (h.own r' hr') hk'
    omega
end

section
variable {P : Program} {r : Option Nat} {N : Nat} {ds : List Deferred} {ops : Array Oper} {Q : Post} {t : Fm} {rest : List Oper}
variable {w0 : World} {E Z0 Z : Nat → Prop} {wz : World} {L : List Res}
variable {ty : TypeId} {pos : String} {aft : Array Edge} {d : Nat}
def WCalls (P : Program) (f : FuncId) (args : Array Value) (w : World) (b : Nat) (R : Value → Obj → Prop) : Prop :=
  Calls P f args w fun e w' => ∃ v o, e = .returned v ∧ Keeps (fun k => k = b) w w' ∧ w'.heap[b]? = some o ∧ R v o
theorem st_wcall {f : FuncId} {l : List Operand} {ats : Array TypeId} {vs : List Value} {b : Nat} {o : Obj} {R : Value → Obj → Prop} {L' : Obj → List Res} (hl : evOps t l = some vs) (he : Enters P f) (hd : d < N)
    (ht : ∀ o', Turn L (.blk b o) (.blk b o') (L' o'))
    (hc : ∀ w, Mem w0 E Z0 Z wz L w → w.heap[b]? = some o → WCalls P f vs.toArray w b R)
    (h : ∀ v o', R v o' → JL P r N ds ops Q rest ((d, v) :: t) (Mem w0 E Z0 Z wz (L' o'))) :
    JL P r N ds ops Q (⟨some d, .call { callee := .value (.func f), args := l.toArray, argTypes := ats }, ty, pos, aft, none⟩ :: rest) t (Mem w0 E Z0 Z wz L) :=
  st_call (β := { x : Value × Obj // R x.1 x.2 }) (fun x => x.1.1) (fun x => Mem w0 E Z0 Z wz (L' x.1.2)) hl he hd
    (fun w hw => (hc w hw (hw.own _ (ht o).mem)).mono fun e w' ⟨v, o', he', hb, ho, hR⟩ => ⟨⟨(v, o'), hR⟩, he', hw.callW (ht o') hb ho⟩)
    (fun x => h _ _ x.2)
theorem WC_end {b : Nat} {R : Value → Obj → Prop} {v : Value} {w : World} {o : Obj} (h : Mem w0 (fun k => k = b) Z0 Z wz L w) (hm : Res.blk b o ∈ L) (hR : R v o) :
    ∃ v' o', Ending.returned v = .returned v' ∧ Keeps (fun k => k = b) w0 w ∧ w.heap[b]? = some o' ∧ R v' o' := ⟨v, o, rfl, h.keeps, h.own _ hm, hR⟩
/-- a call that hands back the address of a new block -/
def NCalls (P : Program) (f : FuncId) (args : Array Value) (w : World) (R : Obj → Prop) : Prop :=
  Calls P f args w fun e w' => ∃ b o, e = .returned (.pointer (some ⟨b, 0, none⟩)) ∧ w.heap.size ≤ b ∧ Below w.heap.size w w' ∧ w'.heap[b]? = some o ∧ R o
theorem st_ncall {f : FuncId} {l : List Operand} {ats : Array TypeId} {vs : List Value} {R : Obj → Prop} (hl : evOps t l = some vs) (he : Enters P f) (hd : d < N)
    (hc : ∀ w, Mem w0 E Z0 Z wz L w → NCalls P f vs.toArray w R)
    (h : ∀ b o, R o → JL P r N ds ops Q rest ((d, .pointer (some ⟨b, 0, none⟩)) :: t) (Mem w0 E Z0 Z wz (.blk b o :: L))) :
    JL P r N ds ops Q (⟨some d, .call { callee := .value (.func f), args := l.toArray, argTypes := ats }, ty, pos, aft, none⟩ :: rest) t (Mem w0 E Z0 Z wz L) :=
  st_call (β := { x : Nat × Obj // R x.2 }) (fun x => .pointer (some ⟨x.1.1, 0, none⟩)) (fun x => Mem w0 E Z0 Z wz (.blk x.1.1 x.1.2 :: L)) hl he hd
    (fun w hw => (hc w hw).mono fun e w' ⟨b, o, he', hge, hb, ho, hR⟩ => ⟨⟨(b, o), hR⟩, he', hw.callN hb hge ho⟩)
    (fun x => h _ _ x.2)
theorem NC_end {R : Obj → Prop} {b : Nat} {o : Obj} {w : World} (h : Mem w0 (fun _ => False) Z0 Z wz L w) (hm : Res.blk b o ∈ L) (hR : R o) :
    ∃ b' o', Ending.returned (.pointer (some ⟨b, 0, none⟩)) = .returned (.pointer (some ⟨b', 0, none⟩)) ∧ w0.heap.size ≤ b' ∧ Below w0.heap.size w0 w ∧ w.heap[b']? = some o' ∧ R o' :=
  ⟨b, o, rfl, ((h.sep _ hm b rfl).2).elim id (fun h => h.elim), h.below, h.own _ hm, hR⟩

/-! a string, rune by rune -/
theorem st_range {xt : TypeId} {x : Operand} {s : ByteArray} (hx : ev t x = some (.string s)) (hu : P.underlying xt = some .string) (hd : d < N)
    (h : ∀ b, JL P r N ds ops Q rest ((d, .pointer (some ⟨b, 0, none⟩)) :: t) (Mem w0 E Z0 Z wz (.blk b (.stringIter s 0) :: L))) :
    JL P r N ds ops Q (⟨some d, .range xt x, ty, pos, aft, none⟩ :: rest) t (Mem w0 E Z0 Z wz L) :=
  JL_op (β := Nat) (fun b => .pointer (some ⟨b, 0, none⟩)) (fun b => Mem w0 E Z0 Z wz (.blk b (.stringIter s 0) :: L)) rfl nofun rfl hd (fun a w ha hw => by
    refine ⟨w.heap.size, w.alloc (.stringIter s 0), ?_, hw.alloc _⟩
    unfold execOp
    simp [ha.eval hx, Instr.range, run_underlying hu]) h
theorem st_next {x : Operand} {b pos' : Nat} {s : ByteArray} {L' : List Res} (hx : ev t x = some (.pointer (some ⟨b, 0, none⟩))) (hd : d < N)
    (ht : Turn L (.blk b (.stringIter s pos')) (.blk b (.stringIter s (pos' + (Utf8.decode s pos').2))) L')
    (h1 : pos' < s.size → JL P r N ds ops Q rest ((d, .tuple #[.bool true, .int .i64 pos', .int .i32 (Utf8.decode s pos').1]) :: t) (Mem w0 E Z0 Z wz L'))
    (h2 : s.size ≤ pos' → JL P r N ds ops Q rest ((d, .tuple #[.bool false]) :: t) (Mem w0 E Z0 Z wz L)) :
    JL P r N ds ops Q (⟨some d, .next x true, ty, pos, aft, none⟩ :: rest) t (Mem w0 E Z0 Z wz L) := by
  by_cases hlt : pos' < s.size
  · refine JL_op (β := Unit) (fun _ => .tuple #[.bool true, .int .i64 pos', .int .i32 (Utf8.decode s pos').1]) (fun _ => Mem w0 E Z0 Z wz L') rfl nofun rfl hd (fun a w ha hw => ?_) (fun _ => h1 hlt)
    have hh : w.heap[b]? = some (.stringIter s pos') := hw.own _ ht.mem
    have hsz : b < w.heap.size := (Array.getElem?_eq_some_iff.1 hh).1
    refine ⟨(), { w with heap := w.heap.setIfInBounds b (.stringIter s (pos' + (Utf8.decode s pos').2)) }, ?_, hw.turn ht rfl rfl rfl (by simp) (fun k hk => by
      show (w.heap.setIfInBounds b _)[k]? = _
      rw [Array.getElem?_setIfInBounds_ne (Ne.symm hk)]) (by
      show (w.heap.setIfInBounds b _)[b]? = _
      rw [Array.getElem?_setIfInBounds_self_of_lt hsz])⟩
    unfold execOp
    simp [ha.eval hx, Instr.next, getObj, setObj, Sem.run, hh, hlt, goInt]
  · refine JL_v ?_ nofun hd (h2 (by omega))
    intro a w ha hw
    have hh : w.heap[b]? = some (.stringIter s pos') := hw.own _ ht.mem
    unfold execOp
    simp [ha.eval hx, Instr.next, getObj, Sem.run, hh, hlt]
end
end Go.Eng
namespace Go.Eng
open Go Go.RowKit
section
variable {w0 : World} {E Z0 Z : Nat → Prop} {wz : World} {L : List Res} {w : World}
theorem Mem.ext_now (h : Mem w0 E Z0 Z wz L w) {b : Nat} {o : Obj} (hm : Res.blk b o ∈ L) : Ext Z wz (fun k => k < w.heap.size ∧ k ≠ b) w := ⟨fun k o' hf => by
  have := h.frz k o' hf.z hf.at_
  exact ⟨⟨(Array.getElem?_eq_some_iff.1 this).1, fun e => by subst e; exact (h.sep _ hm _ rfl).1 hf.z⟩, this⟩⟩
theorem Mem.ext_all (h : Mem w0 E Z0 Z wz L w) : Ext Z wz (fun k => k < w.heap.size) w := ⟨fun k o' hf => by
  have := h.frz k o' hf.z hf.at_
  exact ⟨(Array.getElem?_eq_some_iff.1 this).1, this⟩⟩
end
end Go.Eng
namespace Go.Eng
open Go Go.RowKit
section
variable {P : Program} {r : Option Nat} {N : Nat} {ds : List Deferred} {ops : Array Oper} {Q : Post} {t : Fm} {rest : List Oper}
variable {w0 : World} {E Z0 Z : Nat → Prop} {wz : World} {L : List Res}
variable {ty : TypeId} {pos : String} {aft : Array Edge} {d : Nat}
theorem setSeg_get : ∀ (l : List Value) (cs : Array Value) (o j : Nat), (setSeg cs o l)[j]? = if o ≤ j ∧ j < o + l.length ∧ j < cs.size then l[j - o]? else cs[j]?
  | [], cs, o, j => by
    have : ¬ (o ≤ j ∧ j < o + 0 ∧ j < cs.size) := by omega
    simp [setSeg]; omega
  | v :: l, cs, o, j => by
    rw [setSeg, setSeg_get l]
    simp only [Array.size_setIfInBounds, List.length_cons]
    by_cases h1 : o + 1 ≤ j ∧ j < o + 1 + l.length ∧ j < cs.size
    · rw [if_pos h1, if_pos (by omega), show j - o = (j - (o + 1)) + 1 by omega, List.getElem?_cons_succ]
    · rw [if_neg h1]
      by_cases h2 : j = o
      · subst h2
        by_cases h3 : j < cs.size
        · rw [if_pos (by omega), Array.getElem?_setIfInBounds_self_of_lt h3]; simp
        · rw [if_neg (by omega), Array.getElem?_eq_none (by simp; omega), Array.getElem?_eq_none (by omega)]
      · rw [Array.getElem?_setIfInBounds_ne (Ne.symm h2), if_neg (by omega)]
theorem setSeg_whole {cs : Array Value} {l : List Value} (h : cs.size = l.length) : setSeg cs 0 l = l.toArray := by
  apply Array.ext_getElem?
  intro j
  rw [setSeg_get]
  by_cases hj : j < l.length
  · rw [if_pos (by omega)]; simp
  · rw [if_neg (by omega), Array.getElem?_eq_none (by omega), Array.getElem?_eq_none (by simp; omega)]
theorem st_storeW {lt : TypeId} {x y : Operand} {b : Nat} {cs : Array Value} {te : TypeId} {l : List Value} {L' : List Res} (hx : ev t x = some (.pointer (some ⟨b, 0, none⟩))) (hy : ev t y = some (.agg l.toArray))
    (hi : (P.info? lt).map (·.size) = some l.length) (h1 : l.all (·.oneCell') = true)
    (ht : Turn L (.blk b (.cells cs te (0, 0))) (.blk b (.cells l.toArray te (0, 0))) L') (hsz : cs.size = l.length)
    (h : JL P r N ds ops Q rest t (Mem w0 E Z0 Z wz L')) : JL P r N ds ops Q (⟨none, .store lt x y, ty, pos, aft, none⟩ :: rest) t (Mem w0 E Z0 Z wz L) :=
  st_store (v := .agg l.toArray) hx hy (by simpa [Value.cells] using hi) (by simpa [Value.cells] using one_of_all h1) ht (by simp [Value.cells, hsz]) (by simpa [Value.cells] using setSeg_whole hsz) h
theorem size47 : (⟨#[47]⟩ : ByteArray).size = 1 := rfl
end
end Go.Eng

set_option linter.unusedVariables false
set_option linter.unusedSimpArgs false
namespace Go.Eng
open Go Go.RowKit
/-- byte j of a text -/
def bAt (s : ByteArray) (j : Nat) : Nat := ((s.data.toList[j]?).getD 0).toNat
theorem bAt_get (s : ByteArray) (j : Nat) (h : j < s.size) : (s[j]'h).toNat = bAt s j := by
  have h' : j < s.data.toList.length := by simpa using h
  simp [bAt, List.getElem?_eq_getElem h']
  rfl
section
variable {P : Program} {N : Nat} {ds : List Deferred} {t : Fm} {M : World → Prop} {ty : TypeId} {pos : String} {aft : Array Edge} {d : Nat} {g : Option (Nat × Bool)}
theorem vo_indexS {xt : TypeId} {x y : Operand} {s : ByteArray} {k : IntKind} {i : Int} (hx : ev t x = some (.string s)) (hy : ev t y = some (.int k i)) (hu : P.underlying xt = some .string) (h0 : 0 ≤ i) (h1 : i < s.size) :
    ValOf P N ds t M ⟨some d, .index xt x y, ty, pos, aft, g⟩ (.int .u8 (bAt s i.toNat)) := fun a w ha hw => by
  unfold execOp
  have hlt : i.toNat < s.size := by omega
  have hg : s[i.toNat]? = some (s[i.toNat]'hlt) := getElem?_pos s i.toNat hlt
  simp [ha.eval hx, ha.eval hy, Instr.index, asIntOf, run_underlying hu, h0, hg, bAt_get]
end
theorem decode_in (s : ByteArray) (pos : Nat) (h : pos < s.size) : ∀ j, 0 < j → j < (Utf8.decode s pos).2 → pos + j < s.size ∧ 128 ≤ bAt s (pos + j) := by
  have key : ∀ k, (decide (pos + k < s.size) && (s.get! (pos + k)).toNat / 64 == 2) = true → pos + k < s.size ∧ 128 ≤ bAt s (pos + k) := by
    intro k hk
    simp only [Bool.and_eq_true, decide_eq_true_eq, beq_iff_eq] at hk
    refine ⟨hk.1, ?_⟩
    have : (s.get! (pos + k)) = s[pos + k]'hk.1 := by
      simp [ByteArray.get!, getElem!_pos, hk.1]
      rfl
    rw [← bAt_get s _ hk.1, ← this]
    omega
  intro j hj0 hj
  unfold Utf8.decode at hj
  simp only at hj
  split at hj
  · omega
  · split at hj
    · rename_i h2
      simp only [Bool.and_eq_true] at h2
      split at hj
      · obtain rfl : j = 1 := by omega
        exact key 1 (by simpa using h2.2)
      · omega
    · split at hj
      · rename_i h3
        simp only [Bool.and_eq_true] at h3
        split at hj
        · rcases (show j = 1 ∨ j = 2 by omega) with rfl | rfl
          · exact key 1 (by simpa using h3.1.2)
          · exact key 2 (by simpa using h3.2)
        · omega
      · split at hj
        · rename_i h4
          simp only [Bool.and_eq_true] at h4
          split at hj
          · rcases (show j = 1 ∨ j = 2 ∨ j = 3 by omega) with rfl | rfl | rfl
            · exact key 1 (by simpa using h4.1.1.2)
            · exact key 2 (by simpa using h4.1.2)
            · exact key 3 (by simpa using h4.2)
          · omega
        · omega
def isBad (c : Nat) : Bool := c == 47 || c == 0
theorem decode_bad (s : ByteArray) (pos : Nat) (h : pos < s.size) : (Utf8.decode s pos).1 = 47 ∨ (Utf8.decode s pos).1 = 0 ↔ isBad (bAt s pos) = true := by
  by_cases ha : (s[pos]'h).toNat < 128
  · rw [decode_ascii s pos h ha, bAt_get]
    simp [isBad]
  · have := (decode_high s pos h (by omega)).1
    rw [bAt_get] at ha
    simp only [isBad, Bool.or_eq_true, beq_iff_eq]
    omega
theorem decode_wide (s : ByteArray) (pos : Nat) (h : pos < s.size) : 1 ≤ (Utf8.decode s pos).2 := by
  by_cases ha : (s[pos]'h).toNat < 128
  · rw [decode_ascii s pos h ha]; exact Nat.le_refl _
  · exact (decode_high s pos h (by omega)).2
theorem decode_fits (s : ByteArray) (pos : Nat) (h : pos < s.size) : pos + (Utf8.decode s pos).2 ≤ s.size := by
  have hw := decode_wide s pos h
  rcases Nat.lt_or_ge 1 (Utf8.decode s pos).2 with h1 | h1
  · have := (decode_in s pos h ((Utf8.decode s pos).2 - 1) (by omega) (by omega)).1
    omega
  · omega
def badS (s : ByteArray) : Bool := s.data.toList.any fun c => isBad c.toNat
def nameB (s : ByteArray) : Bool := !(decide ((s.size : Int) < 1) || decide ((s.size : Int) > 255) || beq s ⟨#[46]⟩ || beq s ⟨#[46, 46]⟩) && !badS s
theorem badS_true {s : ByteArray} {j : Nat} (hj : j < s.size) (h : isBad (bAt s j) = true) : badS s = true := by
  unfold badS
  have h' : j < s.data.toList.length := by simpa using hj
  refine List.any_eq_true.2 ⟨s.data.toList[j], List.getElem_mem _, ?_⟩
  simpa [bAt, List.getElem?_eq_getElem h'] using h
theorem badS_false {s : ByteArray} (h : ∀ j, j < s.size → isBad (bAt s j) = false) : badS s = false := by
  unfold badS
  rw [List.any_eq_false]
  intro c hc
  obtain ⟨j, hj, rfl⟩ := List.mem_iff_getElem.1 hc
  have := h j (by simpa using hj)
  simpa [bAt, List.getElem?_eq_getElem hj] using this
theorem isBad_int (n : Nat) : (((n : Int) == 47) || ((n : Int) == 0)) = isBad n := by
  rw [Bool.eq_iff_iff]
  simp [isBad]
  omega
theorem decode_isBad (s : ByteArray) (pos : Nat) (h : pos < s.size) : isBad (Utf8.decode s pos).1 = isBad (bAt s pos) := by
  have := decode_bad s pos h
  rw [Bool.eq_iff_iff, ← this]
  simp [isBad]
end Go.Eng

set_option linter.unusedVariables false
set_option linter.unusedSimpArgs false
namespace Go.Eng
open Go Go.RowKit

/-! ### slices of the call's own -/
theorem foldl_setSeg : ∀ (l : List Value) (k o : Nat) (cs : Array Value), (l.zipIdx k).foldl (fun cs p => cs.setIfInBounds (o + p.2) p.1) cs = setSeg cs (o + k) l
  | [], _, _, _ => rfl
  | v :: l, k, o, cs => by
    rw [List.zipIdx_cons, List.foldl_cons, foldl_setSeg l (k + 1) o, setSeg]
    rfl
/-- parts laid over one another, from a place on -/
def laySeg (sz : Nat) : Array Value → List (Nat × Value) → Array Value
  | cs, [] => cs
  | cs, p :: l => laySeg sz (setSeg cs (p.1 * sz) p.2.cells.toList) l
theorem fill_lay (sz : Nat) : ∀ (l : List (Nat × Value)) (cs : Array Value), (∀ p ∈ l, p.2.cells.size = sz ∧ p.1 * sz + sz ≤ cs.size) → Instr.fill (fun i => some (i * sz, sz)) cs l = some (laySeg sz cs l)
  | [], cs, _ => rfl
  | p :: l, cs, h => by
    obtain ⟨i, v⟩ := p
    have h1 := h (i, v) (.head _)
    have h2 : v.cells.zipIdx.foldl (fun cs (x : Value × Nat) => cs.setIfInBounds (i * sz + x.2) x.1) cs = setSeg cs (i * sz) v.cells.toList := by
      rw [← Array.foldl_toList, Array.toList_zipIdx]
      have := foldl_setSeg v.cells.toList 0 (i * sz) cs
      simpa using this
    unfold Instr.fill
    simp only
    rw [if_neg (by simp [h1.1]; have := h1.2; omega)]
    have h3 := fill_lay sz l (setSeg cs (i * sz) v.cells.toList) (fun p hp => by rw [size_setSeg]; exact h p (.tail _ hp))
    rw [laySeg, ← h3, ← h2]
section
variable {P : Program} {r : Option Nat} {N : Nat} {ds : List Deferred} {ops : Array Oper} {Q : Post} {t : Fm} {rest : List Oper}
variable {w0 : World} {E Z0 Z : Nat → Prop} {wz : World} {L : List Res}
variable {ty : TypeId} {pos : String} {aft : Array Edge} {d : Nat}
/-- '[]T{x}' -/
theorem st_bslice1 {bt e : TypeId} {x : Operand} {v z : Value} (hx : ev t x = some v) (hu : P.underlying bt = some (.slice e)) (hz : (P.info? e).bind (·.zero) = some z) (hs : (P.info? e).map (·.size) = some v.cells.size) (hle : v.cells.size ≤ 16777216) (h0 : v.cells.size ≠ 0) (hd : d < N)
    (h : ∀ b, JL P r N ds ops Q rest ((d, .slice (some ⟨b, 0, none⟩) 1 1) :: t) (Mem w0 E Z0 Z wz (.blk b (.cells v.cells e (0, 0)) :: L))) :
    JL P r N ds ops Q (⟨some d, .buildSlice bt 1 #[(0, x)], ty, pos, aft, none⟩ :: rest) t (Mem w0 E Z0 Z wz L) :=
  JL_op (β := Nat) (fun b => .slice (some ⟨b, 0, none⟩) 1 1) (fun b => Mem w0 E Z0 Z wz (.blk b (.cells v.cells e (0, 0)) :: L)) rfl nofun rfl hd (fun a w ha hw => by
    obtain ⟨inf, hinf, hz'⟩ := Option.bind_eq_some_iff.1 hz
    have hsz : inf.size = v.cells.size := by simpa [hinf] using hs
    refine ⟨w.heap.size, w.alloc (.cells v.cells e), ?_, hw.alloc _⟩
    have hf : ∀ cs : Array Value, cs.size = v.cells.size → Instr.fill (fun i => some (i * v.cells.size, v.cells.size)) cs [(0, v)] = some v.cells := by
      intro cs hcs
      rw [fill_lay v.cells.size [(0, v)] cs (by simp [hcs])]
      have := setSeg_whole (cs := cs) (l := v.cells.toList) (by simpa using hcs)
      simp [laySeg, this]
    unfold execOp
    have hle' : ¬ v.cells.size > 2 ^ 24 := by omega
    simp [ha.eval hx, Instr.buildSlice, run_underlying hu, sizeOf, typeInfo, hinf, hsz, hle', zeroValue, hz', newRow, h0, hf]) h
/-- a nil slice of the call's own is something held -/
theorem Mem.addNil {w : World} (h : Mem w0 E Z0 Z wz L w) (e : TypeId) (sz : Nat) : Mem w0 E Z0 Z wz (.row (.slice none 0 0) e sz 0 [] :: L) w :=
  ⟨h.os, h.tape, h.output, h.size0, h.size, h.base, h.frz, h.zb, h.zlt, fun r hr => by
    rcases List.mem_cons.1 hr with rfl | hr
    · exact ⟨by simp, .inl ⟨rfl, rfl⟩⟩
    · exact h.own r hr, fun r hr b hb => by
    rcases List.mem_cons.1 hr with rfl | hr
    · simp [Res.foot, Value.ownBlock] at hb
    · exact h.sep r hr b hb, ⟨fun b hb => by simp [Res.foot, Value.ownBlock] at hb, h.nodup⟩⟩
theorem JL_nilrow (e : TypeId) (sz : Nat) {l : List Oper} (h : JL P r N ds ops Q l t (Mem w0 E Z0 Z wz (.row (.slice none 0 0) e sz 0 [] :: L))) : JL P r N ds ops Q l t (Mem w0 E Z0 Z wz L) :=
  fun a w ha hw => h a w ha (hw.addNil e sz)
theorem JC_nilrow (e : TypeId) (sz : Nat) {c : Code} (h : JC P r N ds c Q t (Mem w0 E Z0 Z wz (.row (.slice none 0 0) e sz 0 [] :: L))) : JC P r N ds c Q t (Mem w0 E Z0 Z wz L) :=
  fun a w ha hw => h a w ha (hw.addNil e sz)
/-- a row has turned into a greater one -/
theorem Mem.turnRow {w : World} (h : Mem w0 E Z0 Z wz L w) {v v' : Value} {e : TypeId} {sz n n' : Nat} {xs xs' : List Value} {L' : List Res} (ht : Turn L (.row v e sz n xs) (.row v' e sz n' xs') L') {w' : World}
    (hown : w'.ownsRow 0 e sz v' n' xs') (hg : w.grownBy w' v.ownBlock) (hat : v'.ownBlock = v.ownBlock ∨ v'.ownBlock = some w.heap.size) : Mem w0 E Z0 Z wz L' w' := by
  have hs := h.size
  have hs0 := h.size0
  have hgs := hg.size
  have hsep := h.sep _ ht.mem
  refine ⟨hg.os.trans h.os, hg.tape.trans h.tape, hg.output.trans h.output, hs0, by omega, ?_, ?_, h.zb, h.zlt, ?_, ?_, ?_⟩
  · intro k hk hE
    rw [hg.block k (by omega) (fun e => by
      rcases (hsep k e.symm).2 with h7 | h7
      · omega
      · exact hE h7)]
    exact h.base k hk hE
  · intro k o hz ho
    have := h.frz k o hz ho
    rw [hg.block k (Array.getElem?_eq_some_iff.1 this).1 (fun e => (hsep k e.symm).1 hz)]
    exact this
  · intro x hx
    rcases ht.others h.nodup x hx with rfl | ⟨hx, hne⟩
    · exact hown
    · exact Res.holds_keep (fun b hb => hg.block b (Res.foot_lt (h.own x hx) hb) (fun e => hne b e.symm hb)) (h.own x hx)
  · intro x hx b hb
    rcases ht.mem' x hx with rfl | hx
    · rcases hat with h1 | h1
      · exact hsep b (show v.ownBlock = some b from h1 ▸ (show v'.ownBlock = some b from hb))
      · have : b = w.heap.size := by
          have : some b = some w.heap.size := hb.symm.trans h1
          simpa using this
        subst this
        refine ⟨fun hz => ?_, .inl (by omega)⟩
        rcases h.zb _ hz with h2 | h2
        · have := h.zlt _ h2; omega
        · omega
    · exact h.sep x hx b hb
  · refine ht.apart h.nodup (fun b hb => ?_)
    rcases hat with h1 | h1
    · exact .inl (show v.ownBlock = some b from h1 ▸ (show v'.ownBlock = some b from hb))
    · have : b = w.heap.size := by
        have : some b = some w.heap.size := hb.symm.trans h1
        simpa using this
      subst this
      exact .inr (fun x hx hx' => absurd (Res.foot_lt (h.own x hx) hx') (by omega))
/-- the same, for all that may come back -/
inductive TurnF {α : Type} (r : Res) (F : α → Res) : List Res → (α → List Res) → Prop where
  | head (L : List Res) : TurnF r F (r :: L) (fun v => F v :: L)
  | tail {L : List Res} {G : α → List Res} (x : Res) (h : TurnF r F L G) : TurnF r F (x :: L) (fun v => x :: G v)
theorem TurnF.turn {α : Type} {r : Res} {F : α → Res} {L : List Res} {G : α → List Res} (h : TurnF r F L G) (v : α) : Turn L r (F v) (G v) := by
  induction h with
  | head L => exact .head _ _ _
  | tail x h ih => exact .tail _ ih
/-- append of what lies in a block -/
theorem st_append {x y : Operand} {v : Value} {t0 e b2 o2 m c2 sz bytes n : Nat} {z : Value} {xs news : List Value} {cs : Array Value} {te : TypeId} {fr : Nat × Nat} {L' : Value → List Res} (hx : ev t x = some v) (hy : ev t y = some (.slice (some ⟨b2, o2, none⟩) m c2))
    (hu : P.underlying t0 = some (.slice e)) (hi : (P.info? e).map (fun i => (i.zero, i.size, i.bytes)) = some (some z, sz, bytes)) (hz : z.cells.size = sz) (hsz : 0 < sz)
    (ht' : TurnF (.row v e sz n xs) (fun v' => .row v' e sz (n + m) (xs ++ news)) L L') (hb : Has Z wz L b2 (.cells cs te fr)) (hn : news.length = m * sz) (hnc : ∀ (j : Nat) (u : Value), news[j]? = some u → cs[o2 + j]? = some u) (h1 : ∀ u ∈ news, u.oneCell' = true)
    (hlen : n + m ≤ 1000000000) (hby : bytes ≤ 100000) (hd : d < N)
    (h : ∀ v', JL P r N ds ops Q rest ((d, v') :: t) (Mem w0 E Z0 Z wz (L' v'))) :
    JL P r N ds ops Q (⟨some d, .call { callee := .builtin .append, args := #[x, y], argTypes := #[t0, t0] }, ty, pos, aft, none⟩ :: rest) t (Mem w0 E Z0 Z wz L) :=
  JL_op (β := Value) (fun v' => v') (fun v' => Mem w0 E Z0 Z wz (L' v')) rfl nofun rfl hd (fun a w ha hw => by
    have ht := ht'.turn
    obtain ⟨inf, hinf, hzz⟩ := Option.map_eq_some_iff.1 hi
    simp only [Prod.mk.injEq] at hzz
    have hown : w.ownsRow 0 e sz v n xs := hw.own _ (ht v).mem
    have hbl := hw.has hb
    have hml : n + m ≤ maxLen := by simp only [maxLen]; omega
    have hmul : (n + m) * bytes ≤ 140737488355328 := Nat.le_trans (Nat.mul_le_mul hlen hby) (by decide)
    obtain ⟨v', w', hr, ho, hg, _, hat⟩ := run_append_own_at (P := P) w 0 t0 ty e inf z sz bytes hu hinf hzz.1 hzz.2.1 hzz.2.2 hz hsz v n xs hown ⟨b2, o2, none⟩ m c2 news hn
      (fun j u hu => by rw [Addr.add_mid, cell_cells hbl]; exact hnc j u hu) h1 hml hmul (by omega)
    refine ⟨v', w', ?_, hw.turnRow (ht v') ho hg hat⟩
    unfold execOp
    simp [resolve, invoke, builtin, ha.eval hx, ha.eval hy, hr]) h

/-- append of a whole block -/
theorem st_appendB {x y : Operand} {v : Value} {t0 e b2 m c2 sz bytes n : Nat} {z : Value} {xs : List Value} {cs : Array Value} {te : TypeId} {fr : Nat × Nat} {L' : Value → List Res} (hx : ev t x = some v) (hy : ev t y = some (.slice (some ⟨b2, 0, none⟩) m c2))
    (hu : P.underlying t0 = some (.slice e)) (hi : (P.info? e).map (fun i => (i.zero, i.size, i.bytes)) = some (some z, sz, bytes)) (hz : z.cells.size = sz) (hsz : 0 < sz)
    (hb : Has Z wz L b2 (.cells cs te fr)) (ht' : TurnF (.row v e sz n xs) (fun v' => .row v' e sz (n + m) (xs ++ cs.toList)) L L') (hn : cs.size = m * sz) (h1 : ∀ u ∈ cs.toList, u.oneCell' = true)
    (hlen : n + m ≤ 1000000000) (hby : bytes ≤ 100000) (hd : d < N)
    (h : ∀ v', JL P r N ds ops Q rest ((d, v') :: t) (Mem w0 E Z0 Z wz (L' v'))) :
    JL P r N ds ops Q (⟨some d, .call { callee := .builtin .append, args := #[x, y], argTypes := #[t0, t0] }, ty, pos, aft, none⟩ :: rest) t (Mem w0 E Z0 Z wz L) :=
  st_append hx hy hu hi hz hsz ht' hb (by simpa using hn) (fun j u h => by simpa using h) h1 hlen hby hd h

/-- a list of one-cell elements that stands still -/
def RVals (Z : Nat → Prop) (w : World) (xs : List Value) (v : Value) : Prop :=
  ∃ A c, v = .slice A xs.length c ∧ xs.length ≤ c ∧ c ≤ 9223372036854775807 ∧ (xs = [] ∨ ∃ b o cs te fr, A = some ⟨b, o, none⟩ ∧ FB Z w b (.cells cs te fr) ∧ ∀ i u, xs[i]? = some u → cs[o + i]? = some u)
theorem RVals.ext {Z' : Nat → Prop} {w w' : World} {xs : List Value} {v : Value} (h : Ext Z w Z' w') (hr : RVals Z w xs v) : RVals Z' w' xs v := by
  obtain ⟨A, c, rfl, h1, h2, h3⟩ := hr
  refine ⟨A, c, rfl, h1, h2, ?_⟩
  rcases h3 with h3 | ⟨b, o, cs, te, fr, rfl, hf, hc⟩
  · exact .inl h3
  · exact .inr ⟨b, o, cs, te, fr, rfl, h.fb _ _ hf, hc⟩
theorem RVals.at_ {w : World} {xs : List Value} {v : Value} (hr : RVals Z w xs v) {i : Nat} {u : Value} (hi : xs[i]? = some u) : ∃ b o c cs te fr, v = .slice (some ⟨b, o, none⟩) xs.length c ∧ FB Z w b (.cells cs te fr) ∧ cs[o + i]? = some u := by
  obtain ⟨A, c, rfl, h1, h2, h3⟩ := hr
  rcases h3 with rfl | ⟨b, o, cs, te, fr, rfl, hf, hc⟩
  · simp at hi
  · exact ⟨b, o, c, cs, te, fr, rfl, hf, hc i u hi⟩
theorem RVals.slice {w : World} {xs : List Value} {v : Value} (hr : RVals Z w xs v) : ∃ A c, v = .slice A xs.length c ∧ xs.length ≤ 9223372036854775807 := by
  obtain ⟨A, c, rfl, h1, h2, h3⟩ := hr
  exact ⟨A, c, rfl, by omega⟩
theorem RVals.nil {w : World} : RVals Z w [] (.slice none 0 0) := ⟨none, 0, rfl, Nat.le_refl _, by omega, .inl rfl⟩
/-- a row of one-cell elements is left to stand still -/
theorem Mem.freezeRow {w : World} (h : Mem w0 (fun _ => False) Z0 Z wz L w) {v : Value} {e : TypeId} {n : Nat} {xs : List Value} {L' : List Res} (hd : Del L (.row v e 1 n xs) L') :
    ∃ Z', Mem w0 (fun _ => False) Z0 Z' w L' w ∧ Ext Z wz Z' w ∧ RVals Z' w xs v := by
  have hown : w.ownsRow 0 e 1 v n xs := h.own _ hd.mem
  have hs := h.size
  rcases hown.2 with ⟨rfl, hn⟩ | ⟨g, cap, cur, rfl, _, hg, hnc, hcm, hcs, htk⟩
  · have hx : xs = [] := List.eq_nil_of_length_eq_zero (by rw [hown.1, hn])
    subst hx
    refine ⟨Z, ?_, ⟨fun b o hf => ⟨hf.z, h.frz b o hf.z hf.at_⟩⟩, RVals.nil⟩
    have hm := h.sub hd.sub
    have := h.size0
    exact ⟨hm.os, hm.tape, hm.output, by omega, Nat.le_refl _, hm.base, fun _ _ _ h => h, fun b hb => (h.zb b hb).imp id (fun h => ⟨h.1, by omega⟩), hm.zlt, hm.own, hm.sep, hm.nodup⟩
  · have hb : w0.heap.size ≤ g := ((h.sep _ hd.mem g rfl).2).elim id (fun h => h.elim)
    refine ⟨_, h.freeze rfl hd hb, h.ext_freeze g, ?_⟩
    have hl : xs.length = n := by rw [hown.1]; omega
    subst hl
    refine ⟨_, cap, rfl, hnc, hcm, .inr ⟨g, 0, cur, e, (0, 0), rfl, ⟨.inr rfl, hg⟩, fun i u hu => ?_⟩⟩
    have hi := (List.getElem?_eq_some_iff.1 hu).1
    rw [Nat.zero_add, ← Array.getElem?_toList, ← hu, ← htk, List.getElem?_take, if_pos (by omega)]
theorem JL_freezeRow {v : Value} {e : TypeId} {n : Nat} {xs : List Value} {L' : List Res} {l : List Oper} (hd : Del L (.row v e 1 n xs) L')
    (h : ∀ Z' wz', Ext Z wz Z' wz' → RVals Z' wz' xs v → JL P r N ds ops Q l t (Mem w0 (fun _ => False) Z0 Z' wz' L')) : JL P r N ds ops Q l t (Mem w0 (fun _ => False) Z0 Z wz L) := fun a w ha hw => by
  obtain ⟨Z', h1, h2, h3⟩ := hw.freezeRow hd
  exact h Z' w h2 h3 a w ha h1
/-- a block is left to stand still -/
theorem Mem.freezeBlk {w : World} (h : Mem w0 (fun _ => False) Z0 Z wz L w) {b : Nat} {o : Obj} {L' : List Res} (hd : Del L (.blk b o) L') :
    ∃ Z', Mem w0 (fun _ => False) Z0 Z' w L' w ∧ Ext Z wz Z' w ∧ FB Z' w b o := by
  have hb : w0.heap.size ≤ b := ((h.sep _ hd.mem b rfl).2).elim id (fun h => h.elim)
  exact ⟨_, h.freeze rfl hd hb, h.ext_freeze b, ⟨.inr rfl, h.own _ hd.mem⟩⟩
theorem JL_freezeBlk {b : Nat} {o : Obj} {L' : List Res} {l : List Oper} (hd : Del L (.blk b o) L')
    (h : ∀ Z' wz', Ext Z wz Z' wz' → FB Z' wz' b o → JL P r N ds ops Q l t (Mem w0 (fun _ => False) Z0 Z' wz' L')) : JL P r N ds ops Q l t (Mem w0 (fun _ => False) Z0 Z wz L) := fun a w ha hw => by
  obtain ⟨Z', h1, h2, h3⟩ := hw.freezeBlk hd
  exact h Z' w h2 h3 a w ha h1
/-- a call that leaves old memory alone, at its end -/
theorem PC_ret {f : FuncId} {args : Array Value} {R : (Nat → Prop) → World → Value → Prop} {v : Value} {w : World} (h : Mem w0 (fun _ => False) Z0 Z wz L w) (hR : R (Znew Z0 w0 w) w v) :
    ∃ v', Ending.returned v = .returned v' ∧ Below w0.heap.size w0 w ∧ R (Znew Z0 w0 w) w v' := ⟨v, rfl, h.below, hR⟩
end
end Go.Eng

set_option linter.unusedVariables false
set_option linter.unusedSimpArgs false
namespace Go.Eng
open Go Go.RowKit
section
variable {w0 : World} {E Z0 Z : Nat → Prop} {wz : World} {L : List Res} {w : World}
theorem Mem.extZ (h : Mem w0 E Z0 Z wz L w) : Ext Z wz Z w := ⟨fun b o hf => ⟨hf.z, h.frz b o hf.z hf.at_⟩⟩
theorem Mem.zlt' (h : Mem w0 E Z0 Z wz L w) : ∀ b, Z b → b < w.heap.size := fun b hb => by
  have := h.size; have := h.size0
  rcases h.zb b hb with h1 | h1
  · have := h.zlt b h1; omega
  · omega
end

/-! ### calls that turn several things held -/
def ZL (L : List Res) (w : World) : Nat → Prop := fun k => k < w.heap.size ∧ ∀ r ∈ L, r.foot ≠ some k
def EL (L : List Res) : Nat → Prop := fun k => ∃ r ∈ L, r.foot = some k
structure Moves (L L' : List Res) (w w' : World) : Prop where
  keeps : Keeps (EL L) w w'
  own : ∀ r ∈ L', r.holds w'
  apart : Apart L'
  foot : ∀ r ∈ L', ∀ b, r.foot = some b → EL L b ∨ w.heap.size ≤ b
/-- what a call is handed: things held -/
structure Holds (L : List Res) (w : World) : Prop where
  own : ∀ r ∈ L, r.holds w
  apart : Apart L
def MCalls (P : Program) (f : FuncId) (args : Array Value) (w : World) (L : List Res) (R : Value → List Res → Prop) : Prop :=
  Calls P f args w fun e w' => ∃ v L', e = .returned v ∧ Moves L L' w w' ∧ R v L'
section
variable {w0 : World} {E Z0 Z : Nat → Prop} {wz : World} {L K : List Res} {w : World}
theorem Mem.startL {L : List Res} {w0 : World} (h : Holds L w0) : Mem w0 (EL L) (ZL L w0) (ZL L w0) w0 L w0 :=
  ⟨rfl, rfl, rfl, Nat.le_refl _, Nat.le_refl _, fun _ _ _ => rfl, fun _ _ _ h => h, fun b hb => .inl hb, fun b hb => hb.1, h.own,
    fun r hr b hb => ⟨fun hz => hz.2 r hr hb, .inr ⟨r, hr, hb⟩⟩, h.apart⟩
theorem Apart.append {L K : List Res} : Apart (L ++ K) ↔ Apart L ∧ Apart K ∧ ∀ r ∈ L, ∀ b, r.foot = some b → ∀ s ∈ K, s.foot ≠ some b := by
  induction L with
  | nil => simp [Apart]
  | cons r L ih =>
    simp only [List.cons_append, Apart, ih, List.mem_append, List.mem_cons]
    constructor
    · rintro ⟨h1, h2, h3, h4⟩
      exact ⟨⟨fun b hb x hx => h1 b hb x (.inl hx), h2⟩, h3, fun s hs b hb x hx => by
        rcases hs with rfl | hs
        · exact h1 b hb x (.inr hx)
        · exact h4 s hs b hb x hx⟩
    · rintro ⟨⟨h1, h2⟩, h3, h4⟩
      exact ⟨fun b hb x hx => by
        rcases hx with hx | hx
        · exact h1 b hb x hx
        · exact h4 r (.inl rfl) b hb x hx, h2, h3, fun s hs => h4 s (.inr hs)⟩
theorem Mem.holds (h : Mem w0 E Z0 Z wz (L ++ K) w) : Holds L w := ⟨fun r hr => h.own r (List.mem_append_left _ hr), (Apart.append.1 h.nodup).1⟩
theorem Mem.ext_ZL (h : Mem w0 E Z0 Z wz (L ++ K) w) : Ext Z wz (ZL L w) w := ⟨fun b o hf => ⟨⟨h.zlt' b hf.z, fun r hr hb => (h.sep r (List.mem_append_left _ hr) b hb).1 hf.z⟩, h.frz b o hf.z hf.at_⟩⟩
theorem Mem.moves (h : Mem w0 E Z0 Z wz (L ++ K) w) {L' : List Res} {w' : World} (hm : Moves L L' w w') : Mem w0 E Z0 Z wz (L' ++ K) w' := by
  have hs := h.size
  have hs0 := h.size0
  have hks := hm.keeps.size
  have hap := Apart.append.1 h.nodup
  have hLs : ∀ r ∈ L, ∀ b, r.foot = some b → ¬ Z b ∧ (w0.heap.size ≤ b ∨ E b) := fun r hr => h.sep r (List.mem_append_left _ hr)
  have hKlt : ∀ r ∈ K, ∀ b, r.foot = some b → b < w.heap.size := fun r hr b hb => Res.foot_lt (h.own r (List.mem_append_right _ hr)) hb
  have hK : ∀ r ∈ K, ∀ b, r.foot = some b → w'.heap[b]? = w.heap[b]? := fun r hr b hb => hm.keeps.block b (hKlt r hr b hb) (by
    rintro ⟨s, hs, hsb⟩; exact hap.2.2 s hs b hsb r hr hb)
  refine ⟨hm.keeps.os.trans h.os, hm.keeps.tape.trans h.tape, hm.keeps.output.trans h.output, hs0, by omega, ?_, ?_, h.zb, h.zlt, ?_, ?_, ?_⟩
  · intro k hk hE
    rw [hm.keeps.block k (by omega) (by
      rintro ⟨s, hs, hsb⟩
      rcases (hLs s hs k hsb).2 with h7 | h7
      · omega
      · exact hE h7)]
    exact h.base k hk hE
  · intro k o hz ho
    have := h.frz k o hz ho
    rw [hm.keeps.block k (h.zlt' k hz) (by rintro ⟨s, hs, hsb⟩; exact (hLs s hs k hsb).1 hz)]
    exact this
  · intro x hx
    rcases List.mem_append.1 hx with hx | hx
    · exact hm.own x hx
    · exact Res.holds_keep (hK x hx) (h.own x (List.mem_append_right _ hx))
  · intro x hx b hb
    rcases List.mem_append.1 hx with hx | hx
    · rcases hm.foot x hx b hb with ⟨s, hs, hsb⟩ | h8
      · exact hLs s hs b hsb
      · exact ⟨fun hz => by have := h.zlt' b hz; omega, .inl (by omega)⟩
    · exact h.sep x (List.mem_append_right _ hx) b hb
  · refine Apart.append.2 ⟨hm.apart, hap.2.1, fun r hr b hb s hs hsb => ?_⟩
    rcases hm.foot r hr b hb with ⟨q, hq, hqb⟩ | h8
    · exact hap.2.2 q hq b hqb s hs hsb
    · have := hKlt s hs b hsb; omega
/-- THE END of such a call -/
theorem Mem.movesEnd {L L' : List Res} {w0 w : World} {Z0 Z : Nat → Prop} (h : Mem w0 (EL L) Z0 Z wz L' w) : Moves L L' w0 w :=
  ⟨h.keeps, h.own, h.nodup, fun r hr b hb => ((h.sep r hr b hb).2).symm⟩
theorem Mem.perm {L' : List Res} (h : Mem w0 E Z0 Z wz L w) (hp : L.Perm L') : Mem w0 E Z0 Z wz L' w :=
  ⟨h.os, h.tape, h.output, h.size0, h.size, h.base, h.frz, h.zb, h.zlt, fun r hr => h.own r (hp.mem_iff.2 hr), fun r hr => h.sep r (hp.mem_iff.2 hr), by
    have h1 := h.nodup
    have : ∀ {L L' : List Res}, L.Perm L' → Apart L → Apart L' := by
      intro L L' hp
      induction hp with
      | nil => exact id
      | cons x hp ih => exact fun ⟨a, b⟩ => ⟨fun k hk y hy => a k hk y (hp.mem_iff.2 hy), ih b⟩
      | swap x y l => exact fun ⟨a, b, c⟩ => ⟨fun k hk z hz => by
          rcases List.mem_cons.1 hz with rfl | hz
          · exact fun e => a k e _ (.head _) hk
          · exact b k hk z hz, fun k hk z hz => a k hk z (.tail _ hz), c⟩
      | trans _ _ h1 h2 => exact fun h => h2 (h1 h)
    exact this hp h1⟩
end
section
variable {P : Program} {r : Option Nat} {N : Nat} {ds : List Deferred} {ops : Array Oper} {Q : Post} {t : Fm} {rest : List Oper}
variable {w0 : World} {E Z0 Z : Nat → Prop} {wz : World} {L K : List Res}
variable {ty : TypeId} {pos : String} {aft : Array Edge} {d : Nat}
theorem JL_perm {l : List Oper} {L' : List Res} (hp : L.Perm L') (h : JL P r N ds ops Q l t (Mem w0 E Z0 Z wz L')) : JL P r N ds ops Q l t (Mem w0 E Z0 Z wz L) := fun a w ha hw => h a w ha (hw.perm hp)
/-- number i to the front -/
theorem perm_front {L L' : List Res} {x : Res} (i : Nat) (hx : L[i]? = some x) (hL : L.eraseIdx i = L') : L.Perm (x :: L') := by
  subst hL
  induction L generalizing i with
  | nil => simp at hx
  | cons y L ih =>
    cases i with
    | zero => simp at hx; subst hx; exact .refl _
    | succ i => exact (List.Perm.cons y (ih i (by simpa using hx))).trans (.swap _ _ _)
/-- a call of a closure that turns things held: those that stand ahead -/
theorem st_mcallF {fo : Operand} {f : FuncId} {ca : Array Value} {l : List Operand} {ats : Array TypeId} {vs : List Value} {R : Value → List Res → Prop} (L0 K : List Res) (hLK : L = L0 ++ K)
    (hfo : ev t fo = some (.func (.func f) #[] ca)) (hl : evOps t l = some vs) (he : Enters P f) (hd : d < N)
    (hc : ∀ w, Mem w0 E Z0 Z wz (L0 ++ K) w → MCalls P f (vs.toArray ++ ca) w L0 R)
    (h : ∀ v L', R v L' → JL P r N ds ops Q rest ((d, v) :: t) (Mem w0 E Z0 Z wz (L' ++ K))) :
    JL P r N ds ops Q (⟨some d, .call { callee := .value fo, args := l.toArray, argTypes := ats }, ty, pos, aft, none⟩ :: rest) t (Mem w0 E Z0 Z wz L) := by
  subst hLK
  exact st_callF (β := { x : Value × List Res // R x.1 x.2 }) (fun x => x.1.1) (fun x => Mem w0 E Z0 Z wz (x.1.2 ++ K)) hfo hl he hd
    (fun w hw => (hc w hw).mono fun e w' ⟨v, L', he', hm, hR⟩ => ⟨⟨(v, L'), hR⟩, he', hw.moves hm⟩)
    (fun x => h _ _ x.2)
theorem st_mcall {f : FuncId} {l : List Operand} {ats : Array TypeId} {vs : List Value} {R : Value → List Res → Prop} (L0 K : List Res) (hLK : L = L0 ++ K)
    (hl : evOps t l = some vs) (he : Enters P f) (hd : d < N)
    (hc : ∀ w, Mem w0 E Z0 Z wz (L0 ++ K) w → MCalls P f vs.toArray w L0 R)
    (h : ∀ v L', R v L' → JL P r N ds ops Q rest ((d, v) :: t) (Mem w0 E Z0 Z wz (L' ++ K))) :
    JL P r N ds ops Q (⟨some d, .call { callee := .value (.func f), args := l.toArray, argTypes := ats }, ty, pos, aft, none⟩ :: rest) t (Mem w0 E Z0 Z wz L) := by
  subst hLK
  exact st_call (β := { x : Value × List Res // R x.1 x.2 }) (fun x => x.1.1) (fun x => Mem w0 E Z0 Z wz (x.1.2 ++ K)) hl he hd
    (fun w hw => (hc w hw).mono fun e w' ⟨v, L', he', hm, hR⟩ => ⟨⟨(v, L'), hR⟩, he', hw.moves hm⟩)
    (fun x => h _ _ x.2)
theorem MC_end {L L' : List Res} {R : Value → List Res → Prop} {v : Value} {w : World} (h : Mem w0 (EL L) Z0 Z wz L' w) (hR : R v L') :
    ∃ u L'', Ending.returned v = .returned u ∧ Moves L L'' w0 w ∧ R u L'' := ⟨v, L', rfl, h.movesEnd, hR⟩
end
/-- a piece of a block's cells -/
def SegAt (cs : Array Value) (o : Nat) (l : List Value) : Prop := ∀ j u, l[j]? = some u → cs[o + j]? = some u
theorem SegAt.get {cs : Array Value} {o : Nat} {l : List Value} (h : SegAt cs o l) (j : Nat) {v : Value} (hv : l[j]? = some v) : cs[o + j]? = some v := h j v hv
theorem SegAt.sub {cs : Array Value} {o : Nat} {l : List Value} (h : SegAt cs o l) (k : Nat) {l' : List Value} (hl : ∀ j u, l'[j]? = some u → l[k + j]? = some u) : SegAt cs (o + k) l' := fun j u hu => by
  rw [Nat.add_assoc]; exact h _ _ (hl j u hu)
theorem SegAt.self (l : List Value) : SegAt l.toArray 0 l := fun j u h => by simpa using h
theorem PartAt.seg {P : Program} {ty : TypeId} {d : TypeDesc} {cs : Array Value} {o : Nat} {l : List Value} (h : SegAt cs o l) (hu : P.underlying ty = some d) (hd : d.isRow = true) (hi : (P.info? ty).map (·.size) = some l.length) : PartAt P ty cs o (.agg l.toArray) :=
  .agg hu hd hi h
/-! ### what a call has laid itself -/
def NZ (n : Nat) (Z : Nat → Prop) : Nat → Prop := fun b => Z b ∧ n ≤ b
def NewZ (w w' : World) : Nat → Prop := fun b => w.heap.size ≤ b ∧ b < w'.heap.size
theorem Ext.sub {Z Z' : Nat → Prop} {w : World} (h : ∀ b, Z b → Z' b) : Ext Z w Z' w := ⟨fun b o hf => ⟨h b hf.z, hf.at_⟩⟩
theorem Ext.nz {Z Z' : Nat → Prop} {w w' : World} (h : Ext Z w Z' w') (n : Nat) : Ext (NZ n Z) w (NZ n Z') w' := ⟨fun b o hf => by
  have := h.fb b o ⟨hf.z.1, hf.at_⟩
  exact ⟨⟨this.z, hf.z.2⟩, this.at_⟩⟩
theorem Ext.unNZ {Z : Nat → Prop} {w : World} (n : Nat) : Ext (NZ n Z) w Z w := Ext.sub fun _ h => h.1
def FCalls (P : Program) (f : FuncId) (args : Array Value) (w : World) (R : (Nat → Prop) → World → Value → Prop) : Prop :=
  Calls P f args w fun e w' => ∃ v, e = .returned v ∧ Below w.heap.size w w' ∧ R (NewZ w w') w' v
def Grows (R : (Nat → Prop) → World → Value → Prop) : Prop := ∀ (Z Z' : Nat → Prop) (w : World) (v : Value), (∀ b, Z b → Z' b) → R Z w v → R Z' w v
section
variable {P : Program} {r : Option Nat} {N : Nat} {ds : List Deferred} {ops : Array Oper} {Q : Post} {t : Fm} {rest : List Oper}
variable {w0 : World} {E Z0 Z : Nat → Prop} {wz : World} {L K : List Res}
variable {ty : TypeId} {pos : String} {aft : Array Edge} {d : Nat}
theorem FCalls.toP {f : FuncId} {args : Array Value} {w : World} {R : (Nat → Prop) → World → Value → Prop} (h : FCalls P f args w R) (hR : Grows R) (Z : Nat → Prop) : PCalls P f args w Z R :=
  Calls.mono h fun e w' ⟨v, he, hb, hr⟩ => ⟨v, he, hb, hR _ _ _ _ (fun b hb => .inr hb) hr⟩
theorem Mem.extNew {w : World} (h : Mem w0 E Z0 Z wz L w) : Ext (NZ w0.heap.size Z) wz (NewZ w0 w) w := ⟨fun b o hf => ⟨⟨hf.z.2, h.zlt' b hf.z.1⟩, h.frz b o hf.z.1 hf.at_⟩⟩
/-- a call whose result hangs on what it has laid itself alone -/
theorem st_fcall {f : FuncId} {l : List Operand} {ats : Array TypeId} {vs : List Value} {R : (Nat → Prop) → World → Value → Prop} (hl : evOps t l = some vs) (he : Enters P f) (hd : d < N) (hG : Grows R)
    (hc : ∀ w, Mem w0 E Z0 Z wz L w → FCalls P f vs.toArray w R)
    (h : ∀ v Z' wz', Ext Z wz Z' wz' → R (NZ w0.heap.size Z') wz' v → JL P r N ds ops Q rest ((d, v) :: t) (Mem w0 E Z0 Z' wz' L)) :
    JL P r N ds ops Q (⟨some d, .call { callee := .value (.func f), args := l.toArray, argTypes := ats }, ty, pos, aft, none⟩ :: rest) t (Mem w0 E Z0 Z wz L) :=
  st_call (β := { x : Value × (Nat → Prop) × World // Ext Z wz x.2.1 x.2.2 ∧ R (NZ w0.heap.size x.2.1) x.2.2 x.1 }) (fun x => x.1.1) (fun x => Mem w0 E Z0 x.1.2.1 x.1.2.2 L) hl he hd
    (fun w hw => Calls.mono (hc w hw) fun e w' ⟨v, he', hb, hR⟩ => ⟨⟨(v, _, w'), hw.ext_call hb, hG _ _ _ _ (fun b hb => ⟨.inr hb, by have := hw.size; have := hw.size0; have := hb.1; omega⟩) hR⟩, he', hw.call hb⟩)
    (fun x => h _ _ _ x.2.1 x.2.2)
/-- a call handed a set of still blocks within the caller's own -/
theorem st_pcallN {f : FuncId} {l : List Operand} {ats : Array TypeId} {vs : List Value} {R : (Nat → Prop) → World → Value → Prop} (hl : evOps t l = some vs) (he : Enters P f) (hd : d < N) (hG : Grows R)
    (hc : ∀ w, Mem w0 E Z0 Z wz L w → PCalls P f vs.toArray w (NZ w0.heap.size Z) R)
    (h : ∀ v Z' wz', Ext Z wz Z' wz' → R (NZ w0.heap.size Z') wz' v → JL P r N ds ops Q rest ((d, v) :: t) (Mem w0 E Z0 Z' wz' L)) :
    JL P r N ds ops Q (⟨some d, .call { callee := .value (.func f), args := l.toArray, argTypes := ats }, ty, pos, aft, none⟩ :: rest) t (Mem w0 E Z0 Z wz L) :=
  st_call (β := { x : Value × (Nat → Prop) × World // Ext Z wz x.2.1 x.2.2 ∧ R (NZ w0.heap.size x.2.1) x.2.2 x.1 }) (fun x => x.1.1) (fun x => Mem w0 E Z0 x.1.2.1 x.1.2.2 L) hl he hd
    (fun w hw => Calls.mono (hc w hw) fun e w' ⟨v, he', hb, hR⟩ => ⟨⟨(v, _, w'), hw.ext_call hb, hG _ _ _ _ (fun b hb => by
      rcases hb with hb | hb
      · exact ⟨.inl hb.1, hb.2⟩
      · exact ⟨.inr hb, by have := hw.size; have := hw.size0; have := hb.1; omega⟩) hR⟩, he', hw.call hb⟩)
    (fun x => h _ _ _ x.2.1 x.2.2)
/-- a row left to stand still, as one of the call's own -/
theorem Mem.freezeRowN {w : World} (h : Mem w0 (fun _ => False) Z0 Z wz L w) {v : Value} {e : TypeId} {n : Nat} {xs : List Value} {L' : List Res} (hd : Del L (.row v e 1 n xs) L') :
    ∃ Z', Mem w0 (fun _ => False) Z0 Z' w L' w ∧ Ext Z wz Z' w ∧ RVals (NZ w0.heap.size Z') w xs v := by
  have hb : ∀ g, v.ownBlock = some g → w0.heap.size ≤ g := fun g hg => ((h.sep _ hd.mem g hg).2).elim id (fun h => h.elim)
  obtain ⟨Z', h1, h2, h3⟩ := h.freezeRow hd
  refine ⟨Z', h1, h2, ?_⟩
  obtain ⟨A, c, rfl, h4, h5, h6⟩ := h3
  refine ⟨A, c, rfl, h4, h5, ?_⟩
  rcases h6 with h6 | ⟨b, o, cs, te, fr, rfl, hf, hc⟩
  · exact .inl h6
  · exact .inr ⟨b, o, cs, te, fr, rfl, ⟨⟨hf.z, hb b rfl⟩, hf.at_⟩, hc⟩
theorem JL_freezeRowN {v : Value} {e : TypeId} {n : Nat} {xs : List Value} {L' : List Res} {l : List Oper} (hd : Del L (.row v e 1 n xs) L')
    (h : ∀ Z' wz', Ext Z wz Z' wz' → RVals (NZ w0.heap.size Z') wz' xs v → JL P r N ds ops Q l t (Mem w0 (fun _ => False) Z0 Z' wz' L')) : JL P r N ds ops Q l t (Mem w0 (fun _ => False) Z0 Z wz L) := fun a w ha hw => by
  obtain ⟨Z', h1, h2, h3⟩ := hw.freezeRowN hd
  exact h Z' w h2 h3 a w ha h1
/-- what stood still is written again -/
theorem Mem.thaw {w : World} (h : Mem w0 E Z0 Z wz L w) {b : Nat} {o : Obj} (hz : Z b) (hb : w0.heap.size ≤ b) (ho : w.heap[b]? = some o) : Mem w0 E Z0 (fun k => Z k ∧ k ≠ b) wz (.blk b o :: L) w :=
  ⟨h.os, h.tape, h.output, h.size0, h.size, h.base, fun k o' hk => h.frz k o' hk.1, fun k hk => h.zb k hk.1, h.zlt, fun r hr => by
    rcases List.mem_cons.1 hr with rfl | hr
    · exact ho
    · exact h.own r hr, fun r hr k hk => by
    rcases List.mem_cons.1 hr with rfl | hr
    · cases hk; exact ⟨fun hz' => hz'.2 rfl, .inl hb⟩
    · exact ⟨fun hz' => (h.sep r hr k hk).1 hz'.1, (h.sep r hr k hk).2⟩, ⟨fun k hk r hr e => by
      cases hk
      exact (h.sep r hr b e).1 hz, h.nodup⟩⟩
end
end Go.Eng
