/-
  Part of the proofs over this seat: E12 E13 E14 E15 E16 E17 E18 E19 E20 E21. Own work; imports the kit.
-/
import Derived.MapKept
import Derived.Laws.IdiomStrings
import Derived.Laws.Strings
import Derived.Laws.Cover3
import Derived.Lib.SliceRun
import Derived.Test.YtdeelajgigglgaaEng2
set_option linter.unusedVariables false
set_option linter.unusedSimpArgs false
namespace Go.Eng
open Go Go.RowKit
/-! ### results of any shape -/
section
variable {P : Program} {r : Option Nat} {N : Nat} {ds : List Deferred} {ops : Array Oper} {Q : Post} {t : Fm} {rest : List Oper}
variable {w0 : World} {E Z0 Z : Nat → Prop} {wz : World} {L K : List Res}
inductive RVok (P : Program) (t : Fm) (Z : Nat → Prop) (wz : World) (L : List Res) : List ResultVar → List Value → Prop where
  | nil : RVok P t Z wz L [] []
  | tmp {i : Nat} {v : Value} {rs : List ResultVar} {vs : List Value} (hv : look t i = some v) (h : RVok P t Z wz L rs vs) : RVok P t Z wz L (.tmp i :: rs) (v :: vs)
  | cell {i : Nat} {ty : TypeId} {b o : Nat} {cs : Array Value} {te : TypeId} {fr : Nat × Nat} {v : Value} {rs : List ResultVar} {vs : List Value} (hv : look t i = some (.pointer (some ⟨b, o, none⟩)))
      (hb : Has Z wz L b (.cells cs te fr)) (hp : PartAt P ty cs o v) (h : RVok P t Z wz L rs vs) : RVok P t Z wz L (.cell i ty :: rs) (v :: vs)
theorem RVok.run {a : Act} {w : World} (ha : Fr N ds t a) (hw : Mem w0 E Z0 Z wz L w) {rs : List ResultVar} {vs : List Value} (hv : RVok P t Z wz L rs vs) (f : ResultVar → Sem Value) (hf : ∀ u, f (.tmp u) = pure (a.tmps.getD u undef)) (hc : ∀ p t, f (.cell p t) = (do loadVar t (← asAddr (a.tmps.getD p undef)))) :
    (rs.mapM f).run P w = .ok vs w := by
  induction hv with
  | nil => simp
  | tmp hv h ih =>
    have := ha.get _ _ hv
    simp [List.mapM_cons, hf, ih, this]
  | cell hv hb hp h ih =>
    have h1 := ha.get _ _ hv
    have h2 := run_loadAt_part (hw.has hb) hp
    simp only [Instr.loadAt, Instr.sureAddr, Sem.run_bind, Sem.run_pure, Result.andThen_ok] at h2
    rw [List.mapM_cons, hc]
    simp [h1, asAddr, h2, ih]
theorem retL1 {fn : Func} {R : Ending → World → Prop} {rv : ResultVar} {v : Value} (hres : fn.results = #[rv]) (hv : RVok P t Z wz L [rv] [v]) (h : ∀ w, Mem w0 E Z0 Z wz L w → R (.returned v) w) : JX N [] .ret (bodyPost P fn R) t (Mem w0 E Z0 Z wz L) :=
  fun a w ha hw => ⟨ha.defers, v, by
    unfold results
    rw [show fn.results = [rv].toArray from hres, List.mapM_toArray]
    simp only [Sem.run_bind, Sem.run_map]
    rw [hv.run ha hw _ (fun _ => rfl) (fun _ _ => rfl)]
    simp, h w hw⟩
theorem retL {fn : Func} {R : Ending → World → Prop} {rs : List ResultVar} {vs : List Value} (hres : fn.results = rs.toArray) (hl : Nat.beq vs.length 1 = false) (hv : RVok P t Z wz L rs vs) (h : ∀ w, Mem w0 E Z0 Z wz L w → R (.returned (.tuple vs.toArray)) w) : JX N [] .ret (bodyPost P fn R) t (Mem w0 E Z0 Z wz L) :=
  fun a w ha hw => ⟨ha.defers, _, by
    unfold results
    rw [hres, List.mapM_toArray]
    simp only [Sem.run_bind, Sem.run_map]
    rw [hv.run ha hw _ (fun _ => rfl) (fun _ _ => rfl)]
    have : vs.length ≠ 1 := Nat.ne_of_beq_eq_false hl
    simp [this], h w hw⟩
end
/-! ### rows of items that stand still -/
def RItems (Z : Nat → Prop) (w : World) (sz : Nat) {α : Type} (f : α → List Value) (l : List α) (v : Value) : Prop :=
  ∃ A c, v = .slice A l.length c ∧ l.length ≤ c ∧ c ≤ 9223372036854775807 ∧ (l = [] ∨ ∃ b o cs te fr, A = some ⟨b, o, none⟩ ∧ FB Z w b (.cells cs te fr) ∧ ∀ i x, l[i]? = some x → SegAt cs (o + i * sz) (f x))
section
variable {α : Type} {f : α → List Value} {sz : Nat} {Z : Nat → Prop} {w : World} {l : List α} {v : Value}
theorem RItems.ext {Z' : Nat → Prop} {w' : World} (h : Ext Z w Z' w') (hr : RItems Z w sz f l v) : RItems Z' w' sz f l v := by
  obtain ⟨A, c, rfl, h1, h2, h3⟩ := hr
  refine ⟨A, c, rfl, h1, h2, ?_⟩
  rcases h3 with h3 | ⟨b, o, cs, te, fr, rfl, hf, hc⟩
  · exact .inl h3
  · exact .inr ⟨b, o, cs, te, fr, rfl, h.fb _ _ hf, hc⟩
theorem RItems.at_ (hr : RItems Z w sz f l v) {i : Nat} {x : α} (hi : l[i]? = some x) : ∃ b o c cs te fr, v = .slice (some ⟨b, o, none⟩) l.length c ∧ FB Z w b (.cells cs te fr) ∧ SegAt cs (o + i * sz) (f x) := by
  obtain ⟨A, c, rfl, h1, h2, h3⟩ := hr
  rcases h3 with rfl | ⟨b, o, cs, te, fr, rfl, hf, hc⟩
  · simp at hi
  · exact ⟨b, o, c, cs, te, fr, rfl, hf, hc i x hi⟩
theorem RItems.slice (hr : RItems Z w sz f l v) : ∃ A c, v = .slice A l.length c ∧ l.length ≤ 9223372036854775807 := by
  obtain ⟨A, c, rfl, h1, h2, h3⟩ := hr
  exact ⟨A, c, rfl, by omega⟩
theorem RItems.nil : RItems Z w sz f [] (.slice none 0 0) := ⟨none, 0, rfl, Nat.le_refl _, by omega, .inl rfl⟩
theorem flat_length (hf : ∀ x, (f x).length = sz) (l : List α) : (l.flatMap f).length = l.length * sz := by
  induction l with
  | nil => simp
  | cons x l ih => simp [ih, hf, Nat.succ_mul, Nat.add_comm]
theorem flat_get (hf : ∀ x, (f x).length = sz) {l : List α} {i j : Nat} {x : α} {u : Value} (hi : l[i]? = some x) (hj : (f x)[j]? = some u) : (l.flatMap f)[i * sz + j]? = some u := by
  induction l generalizing i with
  | nil => simp at hi
  | cons y l ih =>
    rw [List.flatMap_cons]
    cases i with
    | zero =>
      simp at hi; subst hi
      rw [Nat.zero_mul, Nat.zero_add, List.getElem?_append_left (List.getElem?_eq_some_iff.1 hj).1]; exact hj
    | succ i =>
      rw [List.getElem?_append_right (by rw [hf, Nat.succ_mul]; omega), hf, show (i + 1) * sz + j - sz = i * sz + j by rw [Nat.succ_mul]; omega]
      exact ih (by simpa using hi)
/-- all the cells of it -/
theorem RItems.flat (hf : ∀ x, (f x).length = sz) (hsz : 0 < sz) {b o : Nat} {cs : Array Value} (h : ∀ i x, l[i]? = some x → SegAt cs (o + i * sz) (f x)) : SegAt cs o (l.flatMap f) := fun j u hu => by
  have hj := (List.getElem?_eq_some_iff.1 hu).1
  rw [flat_length hf] at hj
  have hi : j / sz < l.length := Nat.div_lt_of_lt_mul (by rw [Nat.mul_comm]; exact hj)
  have h1 : l[j / sz]? = some l[j / sz] := List.getElem?_eq_getElem hi
  have hm : j % sz < (f l[j / sz]).length := by rw [hf]; exact Nat.mod_lt _ hsz
  have h2 := flat_get hf h1 (List.getElem?_eq_getElem hm)
  rw [Nat.mul_comm, Nat.div_add_mod] at h2
  rw [h2] at hu
  have h3 := h _ _ h1 (j % sz) _ (List.getElem?_eq_getElem hm)
  rw [← hu, ← h3, Nat.add_assoc, Nat.mul_comm, Nat.div_add_mod]
end
section
variable {P : Program} {r : Option Nat} {N : Nat} {ds : List Deferred} {ops : Array Oper} {Q : Post} {t : Fm} {rest : List Oper}
variable {w0 : World} {E Z0 Z : Nat → Prop} {wz : World} {L K : List Res}
/-- a row of items is left to stand still -/
theorem Mem.freezeItems {α : Type} {f : α → List Value} {sz : Nat} {w : World} (h : Mem w0 E Z0 Z wz L w) (hf : ∀ x, (f x).length = sz) {v : Value} {e : TypeId} {l : List α} {L' : List Res} (hd : Del L (.row v e sz l.length (l.flatMap f)) L')
    (hE : ∀ b, v.ownBlock = some b → w0.heap.size ≤ b) :
    ∃ Z', Mem w0 E Z0 Z' w L' w ∧ Ext Z wz Z' w ∧ RItems Z' w sz f l v := by
  have hown : w.ownsRow 0 e sz v l.length (l.flatMap f) := h.own _ hd.mem
  have hs := h.size
  rcases hown.2 with ⟨rfl, hn⟩ | ⟨g, cap, cur, rfl, _, hg, hnc, hcm, hcs, htk⟩
  · have hx : l = [] := List.eq_nil_of_length_eq_zero hn
    subst hx
    refine ⟨Z, ?_, ⟨fun b o hf => ⟨hf.z, h.frz b o hf.z hf.at_⟩⟩, RItems.nil⟩
    have hm := h.sub hd.sub
    have := h.size0
    exact ⟨hm.os, hm.tape, hm.output, by omega, Nat.le_refl _, hm.base, fun _ _ _ h => h, fun b hb => (h.zb b hb).imp id (fun h => ⟨h.1, by omega⟩), hm.zlt, hm.own, hm.sep, hm.nodup⟩
  · have hb : w0.heap.size ≤ g := hE g rfl
    refine ⟨_, h.freeze rfl hd hb, h.ext_freeze g, ?_⟩
    refine ⟨_, cap, rfl, hnc, hcm, .inr ⟨g, 0, cur, e, (0, 0), rfl, ⟨.inr rfl, hg⟩, fun i x hi j u hu => ?_⟩⟩
    have h1 := flat_get hf hi hu
    have h2 := (List.getElem?_eq_some_iff.1 h1).1
    rw [flat_length hf] at h2
    rw [Nat.zero_add, ← Array.getElem?_toList, ← h1, ← htk, List.getElem?_take, if_pos (by omega)]
theorem JL_freezeItems {α : Type} {f : α → List Value} {sz : Nat} (hf : ∀ x, (f x).length = sz) {v : Value} {e : TypeId} {x : List α} {L' : List Res} {l : List Oper} (hd : Del L (.row v e sz x.length (x.flatMap f)) L')
    (h : ∀ Z' wz', Ext Z wz Z' wz' → RItems Z' wz' sz f x v → JL P r N ds ops Q l t (Mem w0 (fun _ => False) Z0 Z' wz' L')) : JL P r N ds ops Q l t (Mem w0 (fun _ => False) Z0 Z wz L) := fun a w ha hw => by
  obtain ⟨Z', h1, h2, h3⟩ := hw.freezeItems hf hd (fun b hb => ((hw.sep _ hd.mem b hb).2).elim id (fun h => h.elim))
  exact h Z' w h2 h3 a w ha h1
end
end Go.Eng

set_option linter.unusedVariables false
set_option linter.unusedSimpArgs false
namespace Go.Eng
open Go Go.RowKit
/-! ### iterators: what is fed, till the taker stops -/
def feed (cont : Nat → Bool) : Nat → Nat → Bool × Nat
  | i, 0 => (true, i)
  | i, k + 1 => if cont i then feed cont (i + 1) k else (false, i + 1)
theorem feed_zero (cont : Nat → Bool) (i : Nat) : feed cont i 0 = (true, i) := rfl
theorem feed_succ (cont : Nat → Bool) (i k : Nat) : feed cont i (k + 1) = if cont i then feed cont (i + 1) k else (false, i + 1) := rfl
theorem feed_true {cont : Nat → Bool} : ∀ {i k : Nat}, (feed cont i k).1 = true → (feed cont i k).2 = i + k
  | i, 0, _ => rfl
  | i, k + 1, h => by
    rw [feed_succ] at h ⊢
    cases hc : cont i with
    | true => simp only [hc, if_true] at h ⊢; rw [feed_true h]; omega
    | false => simp [hc] at h
theorem feed_add (cont : Nat → Bool) : ∀ (i a b : Nat), feed cont i (a + b) = if (feed cont i a).1 then feed cont (i + a) b else feed cont i a
  | i, 0, b => by simp [feed_zero]
  | i, a + 1, b => by
    rw [show a + 1 + b = (a + b) + 1 by omega, feed_succ, feed_succ]
    cases h : cont i with
    | true => simp only [if_true]; rw [feed_add cont (i + 1) a b, show i + 1 + a = i + (a + 1) by omega]
    | false => simp
theorem feed_iff {cont : Nat → Bool} : ∀ {i k : Nat}, (feed cont i k).1 = true ↔ ∀ j, j < k → cont (i + j) = true
  | i, 0 => by simp [feed_zero]
  | i, k + 1 => by
    rw [feed_succ]
    cases h : cont i with
    | true =>
      simp only [if_true]
      rw [feed_iff]
      constructor
      · intro h1 j hj
        cases j with
        | zero => exact h
        | succ j => have := h1 j (by omega); rwa [show i + 1 + j = i + (j + 1) by omega] at this
      · intro h1 j hj
        have := h1 (j + 1) (by omega); rwa [show i + (j + 1) = i + 1 + j by omega] at this
    | false => simp; exact ⟨0, by omega, by simpa using h⟩
theorem feed_le (cont : Nat → Bool) : ∀ (i k : Nat), i ≤ (feed cont i k).2 ∧ (feed cont i k).2 ≤ i + k
  | i, 0 => by simp [feed_zero]
  | i, k + 1 => by
    rw [feed_succ]
    split
    · have := feed_le cont (i + 1) k; omega
    · simp
section
variable {P : Program} {r : Option Nat} {N : Nat} {ds : List Deferred} {ops : Array Oper} {Q : Post} {t : Fm} {rest : List Oper}
variable {w0 : World} {E Z0 Z : Nat → Prop} {wz : World} {L K : List Res}
variable {ty : TypeId} {pos : String} {aft : Array Edge} {d : Nat}
theorem Mem.holds0 {w : World} (h : Mem w0 E Z0 Z wz L w) : Holds L w := ⟨h.own, h.nodup⟩
theorem Mem.ext_ZL0 {w : World} (h : Mem w0 E Z0 Z wz L w) : Ext Z wz (ZL L w) w := ⟨fun b o hf => ⟨⟨h.zlt' b hf.z, fun r hr hb => (h.sep r hr b hb).1 hf.z⟩, h.frz b o hf.z hf.at_⟩⟩
/-- a call that turns all that is held -/
theorem st_mcallF0 {fo : Operand} {f : FuncId} {ca : Array Value} {l : List Operand} {ats : Array TypeId} {vs : List Value} {R : Value → List Res → Prop}
    (hfo : ev t fo = some (.func (.func f) #[] ca)) (hl : evOps t l = some vs) (he : Enters P f) (hd : d < N)
    (hc : ∀ w, Mem w0 E Z0 Z wz L w → MCalls P f (vs.toArray ++ ca) w L R)
    (h : ∀ v L', R v L' → JL P r N ds ops Q rest ((d, v) :: t) (Mem w0 E Z0 Z wz L')) :
    JL P r N ds ops Q (⟨some d, .call { callee := .value fo, args := l.toArray, argTypes := ats }, ty, pos, aft, none⟩ :: rest) t (Mem w0 E Z0 Z wz L) :=
  st_mcallF L [] (List.append_nil _).symm hfo hl he hd (fun w hw => hc w (by simpa using hw)) (fun v L' hR => by rw [List.append_nil]; exact h v L' hR)
theorem st_mcall0 {f : FuncId} {l : List Operand} {ats : Array TypeId} {vs : List Value} {R : Value → List Res → Prop}
    (hl : evOps t l = some vs) (he : Enters P f) (hd : d < N)
    (hc : ∀ w, Mem w0 E Z0 Z wz L w → MCalls P f vs.toArray w L R)
    (h : ∀ v L', R v L' → JL P r N ds ops Q rest ((d, v) :: t) (Mem w0 E Z0 Z wz L')) :
    JL P r N ds ops Q (⟨some d, .call { callee := .value (.func f), args := l.toArray, argTypes := ats }, ty, pos, aft, none⟩ :: rest) t (Mem w0 E Z0 Z wz L) :=
  st_mcall L [] (List.append_nil _).symm hl he hd (fun w hw => hc w (by simpa using hw)) (fun v L' hR => by rw [List.append_nil]; exact h v L' hR)
end
end Go.Eng

set_option linter.unusedVariables false
set_option linter.unusedSimpArgs false
namespace Go.Eng
open Go Go.RowKit
section
variable {P : Program} {ops : Array Oper} {Q : Post} {N : Nat} {t : Fm} {M : World → Prop} {F : World → Prop} {m fuel : Nat} {listed : Array Bool}
/-- one operation of those that may come up -/
def JK (P : Program) (N : Nat) (ops : Array Oper) (Q : Post) (F : World → Prop) (m : Nat) (fuel : Nat) (listed : Array Bool) (t : Fm) (M : World → Prop) (i : Nat) : Prop :=
  ∀ a w, Fr N [] t a → M w → ClosedL ops listed → i ∈ Region.ready .any ops listed → wpOp P ops Q i (fun a' w' => Held F m (listed.setIfInBounds i true) w' ∧ wpAnyG P ops Q F m fuel (listed.setIfInBounds i true) a' w') a w
theorem JR_split (l : List Nat) (hr : Region.ready .any ops listed = l) (hne : l.isEmpty = false) (h : ∀ i ∈ l, JK P N ops Q F m fuel listed t M i) : JR P N ops Q F m (fuel + 1) listed t M := fun a w ha hM hcl =>
  ⟨fun h0 => (by rw [← hr, h0] at hne; cases hne), fun k hk => h k (hr ▸ hk) a w ha hM hcl hk⟩
theorem all1 {p : Nat → Prop} {a : Nat} (h : p a) : ∀ i ∈ [a], p i := by simpa using h
theorem all2 {p : Nat → Prop} {a b : Nat} (h : p a) (h2 : p b) : ∀ i ∈ [a, b], p i := by simp [h, h2]
theorem all3 {p : Nat → Prop} {a b c : Nat} (h : p a) (h2 : p b) (h3 : p c) : ∀ i ∈ [a, b, c], p i := by simp [h, h2, h3]
theorem wanted_none {o : Oper} (hg : o.guard = none) (y : Nat → Option Bool) : Region.wanted o y = true := by simp [Region.wanted, hg]
theorem wanted_yes {o : Oper} {j gt : Nat} {b : Bool} (hg : o.guard = some (j, b)) (hj : (ops[j]?).bind (·.dst) = some gt) (hb : look t gt = some (.bool b)) {a : Act} (ha : Fr N [] t a) : Region.wanted o (yielded ops a.tmps) = true := by
  have hy : yielded ops a.tmps j = some b := by
    unfold yielded
    rw [hj]
    simp [ha.get _ _ hb]
  simp [Region.wanted, hg, hy]
/-- a guard, or none -/
def Wants (ops : Array Oper) (t : Fm) (g : Option (Nat × Bool)) : Prop := match g with
  | none => True
  | some (j, b) => ∃ gt, (ops[j]?).bind (·.dst) = some gt ∧ look t gt = some (.bool b)
theorem Wants.wanted {o : Oper} (h : Wants ops t o.guard) {a : Act} (ha : Fr N [] t a) : Region.wanted o (yielded ops a.tmps) = true := by
  cases hg : o.guard with
  | none => exact wanted_none hg _
  | some p =>
    obtain ⟨j, b⟩ := p
    rw [hg] at h
    obtain ⟨gt, h1, h2⟩ := h
    exact wanted_yes hg h1 h2 ha
theorem JK_call {i d f : Nat} {o : Oper} {vs : Array Value} {β : Type} (val : β → Value) (M' : β → World → Prop) (hi : ops[i]? = some o) (hdst : o.dst = some d) (hd : d < N)
    (hw : Wants ops t o.guard)
    (hrun : ∀ a w, Fr N [] t a → M w → (execOp a.eval o).run P w = .ok (.enter f vs) w)
    (hc : ∀ w, M w → Calls P f vs w fun e w' => ∃ x, e = .returned (val x) ∧ M' x w') (hF : ∀ x w', M' x w' → F w')
    (h : ∀ x, JR P N ops Q F m fuel (listed.setIfInBounds i true) ((d, val x) :: t) (M' x)) : JK P N ops Q F m fuel listed t M i := fun a w ha hM hcl hk => by
  unfold wpOp
  simp only [hi, hw.wanted ha, if_true]
  refine .inl ?_
  unfold Oper.wp
  rw [hrun a w ha hM]
  refine (hc w hM).mono ?_
  rintro e w' ⟨x, rfl, hM'⟩
  exact ⟨fun _ => hF x w' hM', h x _ w' (by rw [hdst]; exact ha.put hd _) hM' (hcl.set hk)⟩
theorem JK_op {i d : Nat} {o : Oper} {β : Type} (val : β → Value) (M' : β → World → Prop) (hi : ops[i]? = some o) (hdst : o.dst = some d) (hd : d < N)
    (hw : Wants ops t o.guard)
    (hrun : ∀ a w, Fr N [] t a → M w → ∃ x w', (execOp a.eval o).run P w = .ok (.value (val x)) w' ∧ M' x w') (hF : ∀ x w', M' x w' → F w')
    (h : ∀ x, JR P N ops Q F m fuel (listed.setIfInBounds i true) ((d, val x) :: t) (M' x)) : JK P N ops Q F m fuel listed t M i := fun a w ha hM hcl hk => by
  unfold wpOp
  simp only [hi, hw.wanted ha, if_true]
  refine .inl ?_
  unfold Oper.wp
  obtain ⟨x, w', hr, hM'⟩ := hrun a w ha hM
  rw [hr]
  exact ⟨fun _ => hF x w' hM', h x _ w' (by rw [hdst]; exact ha.put hd _) hM' (hcl.set hk)⟩
theorem JK_do {i : Nat} {o : Oper} (M' : World → Prop) (hi : ops[i]? = some o) (hdst : o.dst = none)
    (hw : Wants ops t o.guard)
    (hrun : ∀ a w, Fr N [] t a → M w → ∃ w', (execOp a.eval o).run P w = .ok .skip w' ∧ M' w') (hF : ∀ w', M' w' → F w')
    (h : JR P N ops Q F m fuel (listed.setIfInBounds i true) t M') : JK P N ops Q F m fuel listed t M i := fun a w ha hM hcl hk => by
  unfold wpOp
  simp only [hi, hw.wanted ha, if_true]
  refine .inl ?_
  unfold Oper.wp
  obtain ⟨w', hr, hM'⟩ := hrun a w ha hM
  rw [hr]
  exact ⟨fun _ => hF w' hM', h _ w' (by rw [hdst]; exact ha) hM' (hcl.set hk)⟩
section
variable {w0 : World} {E Z0 Z : Nat → Prop} {wz : World} {L : List Res} {ty : TypeId} {pos : String} {aft : Array Edge} {g : Option (Nat × Bool)} {d : Nat}
theorem run_call {f : FuncId} {l : List Operand} {ats : Array TypeId} {vs : List Value} {ds : List Deferred} (hl : evOps t l = some vs) (he : Enters P f) (a : Act) (w : World) (ha : Fr N ds t a) :
    (execOp a.eval ⟨some d, .call { callee := .value (.func f), args := l.toArray, argTypes := ats }, ty, pos, aft, g⟩).run P w = .ok (.enter f vs.toArray) w := by
  obtain ⟨fn, hf, hn, hb⟩ := he
  have h2 := evOps_eval ha l vs hl
  unfold execOp
  simp [resolve, Deferred.ofValue, Act.eval, invoke, h2, run_enter hf hn hb]
theorem JK_scall {i : Nat} {f : FuncId} {l : List Operand} {ats : Array TypeId} {vs : List Value} {R : Value → Prop} (hi : ops[i]? = some ⟨some d, .call { callee := .value (.func f), args := l.toArray, argTypes := ats }, ty, pos, aft, g⟩)
    (hw : Wants ops t g) (hl : evOps t l = some vs) (he : Enters P f) (hd : d < N)
    (hc : ∀ w, Mem w0 E Z0 Z wz L w → SCalls P f vs.toArray w R) (hF : ∀ w, Mem w0 E Z0 Z wz L w → F w)
    (h : ∀ v, R v → JR P N ops Q F m fuel (listed.setIfInBounds i true) ((d, v) :: t) (Mem w0 E Z0 Z wz L)) : JK P N ops Q F m fuel listed t (Mem w0 E Z0 Z wz L) i :=
  JK_call (β := { v : Value // R v }) (fun x => x.1) (fun _ => Mem w0 E Z0 Z wz L) hi rfl hd hw (fun a w ha _ => run_call hl he a w ha)
    (fun w hw => Calls.mono (hc w hw) fun e w' ⟨v, he', hb, hR⟩ => ⟨⟨v, hR⟩, he', hw.callS hb⟩) (fun x w' h => hF w' h) (fun x => h _ x.2)
theorem JK_pcall {i : Nat} {f : FuncId} {l : List Operand} {ats : Array TypeId} {vs : List Value} {R : (Nat → Prop) → World → Value → Prop} (hi : ops[i]? = some ⟨some d, .call { callee := .value (.func f), args := l.toArray, argTypes := ats }, ty, pos, aft, g⟩)
    (hw : Wants ops t g) (hl : evOps t l = some vs) (he : Enters P f) (hd : d < N)
    (hc : ∀ w, Mem w0 E Z0 Z wz L w → PCalls P f vs.toArray w Z R) (hF : ∀ Z' wz' w, Ext Z wz Z' wz' → Mem w0 E Z0 Z' wz' L w → F w)
    (h : ∀ v Z' wz', Ext Z wz Z' wz' → R Z' wz' v → JR P N ops Q F m fuel (listed.setIfInBounds i true) ((d, v) :: t) (Mem w0 E Z0 Z' wz' L)) : JK P N ops Q F m fuel listed t (Mem w0 E Z0 Z wz L) i :=
  JK_call (β := { x : Value × (Nat → Prop) × World // Ext Z wz x.2.1 x.2.2 ∧ R x.2.1 x.2.2 x.1 }) (fun x => x.1.1) (fun x => Mem w0 E Z0 x.1.2.1 x.1.2.2 L) hi rfl hd hw (fun a w ha _ => run_call hl he a w ha)
    (fun w hw => (hc w hw).mono fun e w' ⟨v, he', hb, hR⟩ => ⟨⟨(v, _, w'), hw.ext_call hb, hR⟩, he', hw.call hb⟩) (fun x w' h => hF _ _ w' x.2.1 h) (fun x => h _ _ _ x.2.1 x.2.2)
theorem JK_alloc {i : Nat} {et : TypeId} {z : Value} (hi : ops[i]? = some ⟨some d, .alloc et, ty, pos, aft, g⟩) (hw : Wants ops t g) (hz : (P.info? et).bind (·.zero) = some z) (hd : d < N)
    (hF : ∀ b w, Mem w0 E Z0 Z wz (.blk b (.cells z.cells et (0, 0)) :: L) w → F w)
    (h : ∀ b, JR P N ops Q F m fuel (listed.setIfInBounds i true) ((d, .pointer (some ⟨b, 0, none⟩)) :: t) (Mem w0 E Z0 Z wz (.blk b (.cells z.cells et (0, 0)) :: L))) : JK P N ops Q F m fuel listed t (Mem w0 E Z0 Z wz L) i :=
  JK_op (β := Nat) (fun b => .pointer (some ⟨b, 0, none⟩)) (fun b => Mem w0 E Z0 Z wz (.blk b (.cells z.cells et (0, 0)) :: L)) hi rfl hd hw (fun a w ha hw => by
    obtain ⟨inf, hinf, hz'⟩ := Option.bind_eq_some_iff.1 hz
    refine ⟨w.heap.size, w.alloc (.cells z.cells et), ?_, hw.alloc _⟩
    unfold execOp
    simp [Instr.alloc, zeroValue, typeInfo, hinf, hz', newVar, newRow]) (fun b w' h => hF b w' h) h
end
end
section
variable {P : Program} {r : Option Nat} {N : Nat} {ds : List Deferred} {ops : Array Oper} {Q : Post} {t : Fm} {rest : List Oper}
variable {w0 : World} {E Z0 Z : Nat → Prop} {wz : World} {L K : List Res}
theorem JL_rowSlice {v : Value} {e : TypeId} {sz n : Nat} {xs : List Value} {l : List Oper} (hm : Res.row v e sz n xs ∈ L) (h : ∀ A c, v = .slice A n c → JL P r N ds ops Q l t (Mem w0 E Z0 Z wz L)) : JL P r N ds ops Q l t (Mem w0 E Z0 Z wz L) := fun a w ha hw => by
  rcases (hw.own _ hm).2 with ⟨rfl, rfl⟩ | ⟨g, cap, cur, rfl, _⟩
  · exact h _ _ rfl a w ha hw
  · exact h _ _ rfl a w ha hw
/-- some later world of the same call -/
def Later (w0 : World) (E Z0 Z : Nat → Prop) (wz : World) : World → Prop := fun w => ∃ Z' wz' L, Ext Z wz Z' wz' ∧ Mem w0 E Z0 Z' wz' L w
theorem Mem.later {w : World} (h : Mem w0 E Z0 Z wz L w) : Later w0 E Z0 Z wz w := ⟨_, _, _, .refl _ _, h⟩
theorem Mem.laterE {Z' : Nat → Prop} {wz' : World} {w : World} (h : Mem w0 E Z0 Z' wz' L w) (he : Ext Z wz Z' wz') : Later w0 E Z0 Z wz w := ⟨_, _, _, he, h⟩
theorem vo_loadF {lt : TypeId} {x : Operand} {b o d : Nat} {cs : Array Value} {te : TypeId} {fr : Nat × Nat} {v : Value} {ty : TypeId} {pos : String} {aft : Array Edge} (hx : ev t x = some (.pointer (some ⟨b, o, none⟩)))
    (hb : FB Z wz b (.cells cs te fr)) (hp : PartAt P lt cs o v) : ValOf P N ds t (Later w0 E Z0 Z wz) ⟨some d, .load lt x, ty, pos, aft, none⟩ v := fun a w ha hw => by
  obtain ⟨Z', wz', L, he, hw⟩ := hw
  exact vo_load hx (.frz (he.fb _ _ hb)) hp a w ha hw
/-- a block of the call's own is a row of it -/
theorem Mem.toRow {w : World} {b : Nat} {cs : Array Value} {e : TypeId} {n sz : Nat} (h : Mem w0 E Z0 Z wz (.blk b (.cells cs e (0, 0)) :: L) w) (hn : cs.size = n * sz) (hm : n ≤ 9223372036854775807) :
    Mem w0 E Z0 Z wz (.row (.slice (some ⟨b, 0, none⟩) n n) e sz n cs.toList :: L) w :=
  ⟨h.os, h.tape, h.output, h.size0, h.size, h.base, h.frz, h.zb, h.zlt, fun r hr => by
    rcases List.mem_cons.1 hr with rfl | hr
    · exact ⟨by simpa using hn, .inr ⟨b, n, cs, rfl, Nat.zero_le _, h.own _ (.head _), Nat.le_refl _, hm, hn, by rw [← hn]; exact List.take_of_length_le (by simp)⟩⟩
    · exact h.own r (.tail _ hr), fun r hr k hk => by
    rcases List.mem_cons.1 hr with rfl | hr
    · exact h.sep _ (.head _) k hk
    · exact h.sep r (.tail _ hr) k hk, ⟨fun k hk => h.nodup.1 k hk, h.nodup.2⟩⟩
theorem JL_toRow (n sz : Nat) {b : Nat} {cs : Array Value} {e : TypeId} {l : List Oper} (hn : cs.size = n * sz) (hm : n ≤ 9223372036854775807) (h : JL P r N ds ops Q l t (Mem w0 E Z0 Z wz (.row (.slice (some ⟨b, 0, none⟩) n n) e sz n cs.toList :: L))) :
    JL P r N ds ops Q l t (Mem w0 E Z0 Z wz (.blk b (.cells cs e (0, 0)) :: L)) := fun a w ha hw => h a w ha (hw.toRow hn hm)
end
section
variable {P : Program} {N : Nat} {ops : Array Oper} {Q : Post} {t : Fm}
variable {w0 : World} {E Z0 Z : Nat → Prop} {wz : World} {L : List Res}
variable {ty : TypeId} {pos : String} {aft : Array Edge} {d : Nat}
theorem do_store {ds : List Deferred} {g : Option (Nat × Bool)} {lt : TypeId} {x y : Operand} {b o : Nat} {cs cs' : Array Value} {te : TypeId} {v : Value} {L' : List Res} (hx : ev t x = some (.pointer (some ⟨b, o, none⟩))) (hy : ev t y = some v)
    (hi : (P.info? lt).map (·.size) = some v.cells.size) (h1 : ∀ u ∈ v.cells.toList, u.oneCell' = true)
    (ht : Turn L (.blk b (.cells cs te (0, 0))) (.blk b (.cells cs' te (0, 0))) L') (hfit : o + v.cells.size ≤ cs.size) (hcs : setSeg cs o v.cells.toList = cs') :
    ∀ a w, Fr N ds t a → Mem w0 E Z0 Z wz L w → ∃ w', (execOp a.eval ⟨none, .store lt x y, ty, pos, aft, g⟩).run P w = .ok .skip w' ∧ Mem w0 E Z0 Z wz L' w' := fun a w ha hw => by
  have hh : w.heap[b]? = some (.cells cs te (0, 0)) := hw.own _ ht.mem
  have hc := heap_setCells v.cells.toList o w cs hh
  refine ⟨w.setCells b o v.cells.toList, ?_, hw.turn ht hc.2.2.2.1 hc.2.2.2.2.1 hc.2.2.2.2.2 hc.2.2.1 hc.2.1 (by rw [hc.1, hcs])⟩
  unfold execOp
  simp [ha.eval hx, ha.eval hy, run_storeAt_part hh hi h1 hfit]
theorem JR_store {F : World → Prop} {m fuel : Nat} {listed : Array Bool} {lt : TypeId} {x y : Operand} {b o : Nat} {cs cs' : Array Value} {te : TypeId} {v : Value} {L' : List Res} (hop : ops[m]? = some ⟨none, .store lt x y, ty, pos, aft, none⟩)
    (hr : Region.ready .any ops listed = [m]) (hrd : Region.ready .any ops (listed.setIfInBounds m true) = []) (hms : Nat.blt m listed.size = true)
    (hx : ev t x = some (.pointer (some ⟨b, o, none⟩))) (hy : ev t y = some v)
    (hi : (P.info? lt).map (·.size) = some v.cells.size) (h1 : ∀ u ∈ v.cells.toList, u.oneCell' = true)
    (ht : Turn L (.blk b (.cells cs te (0, 0))) (.blk b (.cells cs' te (0, 0))) L') (hfit : o + v.cells.size ≤ cs.size) (hcs : setSeg cs o v.cells.toList = cs')
    (h : JX N [] .normal Q t (Mem w0 E Z0 Z wz L')) : JR P N ops Q F m (fuel + 1) listed t (Mem w0 E Z0 Z wz L) :=
  JR_last hop rfl (fun a ha => rfl) hr hrd _ (do_store hx hy hi h1 ht hfit hcs) (Nat.le_of_ble_eq_true hms) h
end
end Go.Eng

set_option linter.unusedVariables false
set_option linter.unusedSimpArgs false
namespace Go.Eng
open Go Go.RowKit
section
variable {P : Program} {r : Option Nat} {N : Nat} {ds : List Deferred} {ops : Array Oper} {Q : Post} {t : Fm} {rest : List Oper} {M : World → Prop}
variable {ty : TypeId} {pos : String} {aft : Array Edge} {d : Nat}
theorem vo_eqNil {op : BinOp} {xt yt e : TypeId} {x y : Operand} {p : Option Addr} {c : Bool} (hx : ev t x = some (.pointer p)) (hy : ev t y = some (.pointer none)) (hu : P.underlying xt = some (.pointer e))
    (hop : (match op with | .eql => some p.isNone | .neq => some (!p.isNone) | _ => none) = some c) :
    ValOf P N ds t M ⟨some d, .binOp op xt x y yt, ty, pos, aft, none⟩ (.bool c) := fun a w ha hw => by
  have hu' : P.underlying xt = some (.pointer (P.pointee xt)) := by rw [show P.pointee xt = e by simp [Program.pointee, hu]]; exact hu
  unfold execOp
  simp only [ha.eval hx, ha.eval hy]
  cases op <;> first | (cases hop; done) | (obtain rfl := Option.some.inj hop; simp [eqGuard, run_eql_pointer_nil, run_neq_pointer_nil, hu'])
theorem run_equalIn_func (dd : Nat) {xt : TypeId} {f : Fn} {b cs : Array Value} {ps rs : Array TypeId} {va : Bool} (hu : P.underlying xt = some (.func ps rs va)) (w : World) : (Op.equalIn (dd + 1) xt (.func f b cs) .nilFunc).run P w = .ok false w := by
  simp [Op.equalIn, run_underlying hu]
theorem run_equal_func {xt : TypeId} {f : Fn} {b cs : Array Value} {ps rs : Array TypeId} {va : Bool} (hu : P.underlying xt = some (.func ps rs va)) (w : World) : (Op.equal xt (.func f b cs) .nilFunc).run P w = .ok false w := run_equalIn_func 9999 hu w
theorem vo_eqFunc {op : BinOp} {xt yt : TypeId} {x y : Operand} {f : Fn} {b cs : Array Value} {c : Bool} {ps rs : Array TypeId} {va : Bool} (hx : ev t x = some (.func f b cs)) (hy : ev t y = some .nilFunc) (hu : P.underlying xt = some (.func ps rs va))
    (hop : (match op with | .eql => some false | .neq => some true | _ => none) = some c) :
    ValOf P N ds t M ⟨some d, .binOp op xt x y yt, ty, pos, aft, none⟩ (.bool c) := fun a w ha hw => by
  unfold execOp
  simp only [ha.eval hx, ha.eval hy]
  cases op <;> first | (cases hop; done) | (obtain rfl := Option.some.inj hop; simp only [binOp, eqGuard_at_func]; simp [run_equal_func hu w])
end
end Go.Eng

set_option linter.unusedVariables false
set_option linter.unusedSimpArgs false
namespace Go.Eng
open Go Go.RowKit
/-! ### slices of slices -/
theorem RVals.sliced {Z : Nat → Prop} {w : World} {xs : List Value} {A : Option Addr} {n c l h : Nat} (hr : RVals Z w xs (.slice A n c)) (hl : l ≤ h) (hh : h ≤ n) : RVals Z w ((xs.drop l).take (h - l)) (Go.sliced A l h c 1) := by
  obtain ⟨A', c', he, h1, h2, h3⟩ := hr
  cases he
  unfold Go.sliced
  have hlen : ((xs.drop l).take (h - l)).length = h - l := by simp; omega
  refine ⟨_, c - l, by rw [hlen], by omega, by omega, ?_⟩
  rcases h3 with rfl | ⟨b, o, cs, te, fr, rfl, hf, hc⟩
  · exact .inl (by simp)
  · by_cases hm : c = l
    · exact .inl (List.eq_nil_of_length_eq_zero (by omega))
    · refine .inr ⟨b, o + l, cs, te, fr, ?_, hf, fun i u hu => ?_⟩
      · rw [if_neg hm]; simp only [Option.map_some, Addr.add]; split <;> simp_all
      · rw [List.getElem?_take] at hu
        split at hu
        · rw [List.getElem?_drop] at hu
          rw [Nat.add_assoc]
          exact hc _ _ hu
        · cases hu
section
variable {P : Program} {r : Option Nat} {N : Nat} {ds : List Deferred} {ops : Array Oper} {Q : Post} {t : Fm} {rest : List Oper} {M : World → Prop}
variable {w0 : World} {E Z0 Z : Nat → Prop} {wz : World} {L : List Res}
variable {ty : TypeId} {pos : String} {aft : Array Edge} {d : Nat}
theorem vo_sliceLH {xt e : TypeId} {x lo hi : Operand} {A : Option Addr} {n c sz : Nat} {k k' : IntKind} {l h : Int} (hx : ev t x = some (.slice A n c)) (hlo : ev t lo = some (.int k l)) (hhi : ev t hi = some (.int k' h)) (hu : P.underlying xt = some (.slice e)) (hz : (P.info? e).map (·.size) = some sz)
    (h0 : 0 ≤ l) (h1 : l ≤ h) (h2 : h ≤ c) : ValOf P N ds t M ⟨some d, .slice xt x (some lo) (some hi) none, ty, pos, aft, none⟩ (Go.sliced A l.toNat h.toNat c sz) := fun a w ha hw => by
  have he : P.elem xt = e := by simp [Program.elem, hu]
  obtain ⟨inf, hinf, rfl⟩ := Option.map_eq_some_iff.1 hz
  unfold execOp
  simp [ha.eval hx, ha.eval hlo, ha.eval hhi, run_sliceAt_slice, run_slice_lh, he, hu, h0, h1, h2, sizeOf, typeInfo, hinf]
theorem vo_sliceL {xt e : TypeId} {x lo : Operand} {A : Option Addr} {n c sz : Nat} {k : IntKind} {l : Int} (hx : ev t x = some (.slice A n c)) (hlo : ev t lo = some (.int k l)) (hu : P.underlying xt = some (.slice e)) (hz : (P.info? e).map (·.size) = some sz)
    (h0 : 0 ≤ l) (h1 : l ≤ n) : ValOf P N ds t M ⟨some d, .slice xt x (some lo) none none, ty, pos, aft, none⟩ (Go.sliced A l.toNat n c sz) := fun a w ha hw => by
  have he : P.elem xt = e := by simp [Program.elem, hu]
  obtain ⟨inf, hinf, rfl⟩ := Option.map_eq_some_iff.1 hz
  unfold execOp
  simp [ha.eval hx, ha.eval hlo, run_sliceAt_slice, run_slice_any, Instr.sliceBounds, run_sliceBound, he, hu, h0, h1, sizeOf, typeInfo, hinf]
theorem vo_sliceH {xt e : TypeId} {x hi : Operand} {A : Option Addr} {n c sz : Nat} {k' : IntKind} {h : Int} (hx : ev t x = some (.slice A n c)) (hhi : ev t hi = some (.int k' h)) (hu : P.underlying xt = some (.slice e)) (hz : (P.info? e).map (·.size) = some sz)
    (h0 : 0 ≤ h) (h2 : h ≤ c) : ValOf P N ds t M ⟨some d, .slice xt x none (some hi) none, ty, pos, aft, none⟩ (Go.sliced A 0 h.toNat c sz) := fun a w ha hw => by
  have he : P.elem xt = e := by simp [Program.elem, hu]
  obtain ⟨inf, hinf, rfl⟩ := Option.map_eq_some_iff.1 hz
  unfold execOp
  simp [ha.eval hx, ha.eval hhi, run_sliceAt_slice, run_slice_h, he, hu, h0, h2, sizeOf, typeInfo, hinf]
/-- reading from a row of the call's own -/
theorem vo_loadRow {lt : TypeId} {x : Operand} {b o cap sz n : Nat} {e : TypeId} {xs : List Value} {v : Value} (hx : ev t x = some (.pointer (some ⟨b, o, none⟩)))
    (hm : Res.row (.slice (some ⟨b, 0, none⟩) n cap) e sz n xs ∈ L) (hp : PartAt P lt xs.toArray o v) : ValOf P N ds t (Mem w0 E Z0 Z wz L) ⟨some d, .load lt x, ty, pos, aft, none⟩ v := fun a w ha hw => by
  obtain ⟨hl, h1⟩ := hw.own _ hm
  rcases h1 with ⟨h1, _⟩ | ⟨g, cap', cur, h1, _, hg, hnc, hcm, hcs, htk⟩
  · cases h1
  · cases h1
    have key : ∀ i u, xs[i]? = some u → cur[i]? = some u := fun i u hu => by
      have hi := (List.getElem?_eq_some_iff.1 hu).1
      rw [← Array.getElem?_toList, ← hu, ← htk, List.getElem?_take, if_pos (by omega)]
    have hp' : PartAt P lt cur o v := by
      cases hp with
      | cell hu hd h => exact .cell hu hd (key _ _ (by simpa using h))
      | agg hu hd hi h => exact .agg hu hd hi (fun j u hj => key _ _ (by simpa using h j u hj))
    unfold execOp
    simp [ha.eval hx, run_loadAt_part hg hp']
/-- a list with a piece laid over -/
def laid (xs : List Value) (o : Nat) (l : List Value) : List Value := xs.take o ++ l ++ xs.drop (o + l.length)
theorem setSeg_toList : ∀ (l : List Value) (cs : Array Value) (o : Nat), o + l.length ≤ cs.size → (setSeg cs o l).toList = laid cs.toList o l := by
  intro l cs o h
  refine List.ext_getElem? fun i => ?_
  rw [Array.getElem?_toList, setSeg_get, laid]
  by_cases h1 : i < o
  · rw [if_neg (by omega), List.append_assoc, List.getElem?_append_left (by simp; omega), List.getElem?_take, if_pos h1, Array.getElem?_toList]
  · by_cases h2 : i < o + l.length
    · rw [if_pos ⟨by omega, h2, by omega⟩, List.append_assoc, List.getElem?_append_right (by simp; omega), List.getElem?_append_left (by simp; omega)]
      congr 1; simp; omega
    · rw [if_neg (by omega), List.getElem?_append_right (by simp; omega), List.getElem?_drop, Array.getElem?_toList]
      congr 1; simp; omega
theorem laid_length {xs : List Value} {o : Nat} {l : List Value} (h : o + l.length ≤ xs.length) : (laid xs o l).length = xs.length := by simp [laid]; omega
theorem laid_take {cs : List Value} {o m : Nat} {l : List Value} (h : o + l.length ≤ m) (hm : m ≤ cs.length) : (laid cs o l).take m = laid (cs.take m) o l := by
  unfold laid
  rw [List.take_take, Nat.min_eq_left (by omega), List.drop_take, List.take_append, List.take_of_length_le (by simp; omega)]
  congr 2
  simp; omega
/-- writing into a row of the call's own -/
theorem do_storeRow {g : Option (Nat × Bool)} {lt : TypeId} {x y : Operand} {b o cap sz n : Nat} {e : TypeId} {xs : List Value} {v : Value} {L' : List Res} (hx : ev t x = some (.pointer (some ⟨b, o, none⟩))) (hy : ev t y = some v)
    (hi : (P.info? lt).map (·.size) = some v.cells.size) (h1 : ∀ u ∈ v.cells.toList, u.oneCell' = true) (hfit : o + v.cells.size ≤ n * sz)
    (ht : Turn L (.row (.slice (some ⟨b, 0, none⟩) n cap) e sz n xs) (.row (.slice (some ⟨b, 0, none⟩) n cap) e sz n (laid xs o v.cells.toList)) L')
    : ∀ a w, Fr N ds t a → Mem w0 E Z0 Z wz L w → ∃ w', (execOp a.eval ⟨none, .store lt x y, ty, pos, aft, g⟩).run P w = .ok .skip w' ∧ Mem w0 E Z0 Z wz L' w' := fun a w ha hw => by
    obtain ⟨hl, hh⟩ := hw.own _ ht.mem
    rcases hh with ⟨hh, _⟩ | ⟨g', cap', cur, hh, hb0, hg, hnc, hcm, hcs, htk⟩
    · cases hh
    · cases hh
      have hle : n * sz ≤ cap * sz := Nat.mul_le_mul_right _ hnc
      have hc := heap_setCells v.cells.toList o w cur hg
      have hvl : v.cells.toList.length = v.cells.size := by simp
      refine ⟨w.setCells b o v.cells.toList, ?_, hw.turnRow ht ⟨by rw [laid_length (by rw [hl, hvl]; exact hfit)]; exact hl, .inr ⟨b, cap, _, rfl, hb0, hc.1, hnc, hcm, by rw [size_setSeg]; exact hcs, ?_⟩⟩ ⟨?_, ?_, ?_, ?_, ?_⟩ (.inl rfl)⟩
      · unfold execOp
        simp [ha.eval hx, ha.eval hy, run_storeAt_part hg hi h1 (show o + v.cells.size ≤ cur.size by rw [hcs]; omega)]
      · rw [setSeg_toList _ _ _ (by omega), ← htk]
        exact laid_take (by omega) (by rw [Array.length_toList, hcs]; exact hle)
      · exact hc.2.2.2.1
      · exact hc.2.2.2.2.1
      · exact hc.2.2.2.2.2
      · exact Nat.le_of_eq hc.2.2.1.symm
      · intro k hk hne
        exact hc.2.1 k (fun e => hne (by simp [Value.ownBlock, e]))
theorem st_storeRow {lt : TypeId} {x y : Operand} {b o cap sz n : Nat} {e : TypeId} {xs : List Value} {v : Value} {L' : List Res} (hx : ev t x = some (.pointer (some ⟨b, o, none⟩))) (hy : ev t y = some v)
    (hi : (P.info? lt).map (·.size) = some v.cells.size) (h1 : ∀ u ∈ v.cells.toList, u.oneCell' = true) (hfit : o + v.cells.size ≤ n * sz)
    (ht : Turn L (.row (.slice (some ⟨b, 0, none⟩) n cap) e sz n xs) (.row (.slice (some ⟨b, 0, none⟩) n cap) e sz n (laid xs o v.cells.toList)) L')
    (h : JL P r N ds ops Q rest t (Mem w0 E Z0 Z wz L')) : JL P r N ds ops Q (⟨none, .store lt x y, ty, pos, aft, none⟩ :: rest) t (Mem w0 E Z0 Z wz L) :=
  JL_do _ rfl nofun rfl (do_storeRow hx hy hi h1 hfit ht) h
theorem vo_ex {β : Type} {MM : β → World → Prop} {o : Oper} {v : Value} (h : ∀ x, ValOf P N ds t (MM x) o v) : ValOf P N ds t (fun w => ∃ x, MM x w) o v := fun a w ha ⟨x, hw⟩ => h x a w ha hw
/-- a row of the call's own, read as a whole -/
theorem Mem.rvals {w : World} (h : Mem w0 E Z0 Z wz L w) {v : Value} {e : TypeId} {n : Nat} {xs : List Value} (hm : Res.row v e 1 n xs ∈ L) : RVals (fun b => b < w.heap.size) w xs v := by
  obtain ⟨hl, h1⟩ := h.own _ hm
  rcases h1 with ⟨rfl, rfl⟩ | ⟨g, cap, cur, rfl, _, hg, hnc, hcm, hcs, htk⟩
  · have hx : xs = [] := List.eq_nil_of_length_eq_zero (by omega)
    subst hx
    exact RVals.nil
  · have hn : xs.length = n := by omega
    subst hn
    refine ⟨_, cap, rfl, hnc, hcm, .inr ⟨g, 0, cur, e, (0, 0), rfl, ⟨(Array.getElem?_eq_some_iff.1 hg).1, hg⟩, fun i u hu => ?_⟩⟩
    have hi := (List.getElem?_eq_some_iff.1 hu).1
    rw [Nat.zero_add, ← Array.getElem?_toList, ← hu, ← htk, List.getElem?_take, if_pos (by omega)]
theorem Mem.ritems {α : Type} {f : α → List Value} {sz : Nat} (hf : ∀ x, (f x).length = sz) {w : World} (h : Mem w0 E Z0 Z wz L w) {v : Value} {e : TypeId} {l : List α} (hm : Res.row v e sz l.length (l.flatMap f) ∈ L) : RItems (fun b => b < w.heap.size) w sz f l v := by
  obtain ⟨hl, h1⟩ := h.own _ hm
  rcases h1 with ⟨rfl, h0⟩ | ⟨g, cap, cur, rfl, _, hg, hnc, hcm, hcs, htk⟩
  · have hx : l = [] := List.eq_nil_of_length_eq_zero h0
    subst hx
    exact RItems.nil
  · refine ⟨_, cap, rfl, hnc, hcm, .inr ⟨g, 0, cur, e, (0, 0), rfl, ⟨(Array.getElem?_eq_some_iff.1 hg).1, hg⟩, fun i x hi j u hu => ?_⟩⟩
    have h1 := flat_get hf hi hu
    have h2 := (List.getElem?_eq_some_iff.1 h1).1
    rw [flat_length hf] at h2
    rw [Nat.zero_add, ← Array.getElem?_toList, ← h1, ← htk, List.getElem?_take, if_pos (by omega)]
/-- append of what stands still -/
theorem st_appendR {x y : Operand} {v vy : Value} {t0 e bytes n : Nat} {z : Value} {xs ys : List Value} {L' : Value → List Res} (hx : ev t x = some v) (hy : ev t y = some vy) (hr : RVals Z wz ys vy)
    (hu : P.underlying t0 = some (.slice e)) (hi : (P.info? e).map (fun i => (i.zero, i.size, i.bytes)) = some (some z, 1, bytes)) (hz : z.cells.size = 1)
    (ht' : TurnF (.row v e 1 n xs) (fun v' => .row v' e 1 (n + ys.length) (xs ++ ys)) L L') (h1 : ∀ u ∈ ys, u.oneCell' = true)
    (hlen : n + ys.length ≤ 1000000000) (hby : bytes ≤ 100000) (hd : d < N)
    (h : ∀ v', JL P r N ds ops Q rest ((d, v') :: t) (Mem w0 E Z0 Z wz (L' v'))) :
    JL P r N ds ops Q (⟨some d, .call { callee := .builtin .append, args := #[x, y], argTypes := #[t0, t0] }, ty, pos, aft, none⟩ :: rest) t (Mem w0 E Z0 Z wz L) := by
  obtain ⟨A, c, rfl, hc1, hc2, h3⟩ := hr
  rcases h3 with rfl | ⟨b, o, cs, te, fr, rfl, hf, hcell⟩
  · refine JL_op (β := Value) (fun v' => v') (fun v' => Mem w0 E Z0 Z wz (L' v')) rfl nofun rfl hd (fun a w ha hw => ?_) h
    have ht := ht'.turn
    obtain ⟨inf, hinf, hzz⟩ := Option.map_eq_some_iff.1 hi
    simp only [Prod.mk.injEq] at hzz
    have hown : w.ownsRow 0 e 1 v n xs := hw.own _ (ht v).mem
    refine ⟨v, w, ?_, by simpa using hw.turnRow (ht v) (by simpa using hown) ⟨rfl, rfl, rfl, Nat.le_refl _, fun _ _ _ => rfl⟩ (.inl rfl)⟩
    have hrun : (Builtin.append_ #[t0, t0] ty #[v, .slice A 0 c]).run P w = .ok v w := by
      rcases hown.2 with ⟨rfl, rfl⟩ | ⟨g, cap, cur, rfl, _, _, hnc, _⟩
      · cases A <;> simp [Builtin.append_, run_underlying hu, sizeOf, typeInfo, hinf, Builtin.lenOf, Builtin.firstCells, loadCells, loadCellsFrom]
      · cases A <;> simp [Builtin.append_, run_underlying hu, sizeOf, typeInfo, hinf, Builtin.lenOf, Builtin.firstCells, hnc, storeCells, loadCells, loadCellsFrom]
    unfold execOp
    simp [resolve, invoke, builtin, ha.eval hx, ha.eval hy, hrun]
  · exact st_append hx hy hu hi hz (by decide) ht' (.frz hf) (by simp) hcell h1 hlen hby hd h
end
end Go.Eng

set_option linter.unusedVariables false
set_option linter.unusedSimpArgs false
namespace Go.Eng
open Go Go.RowKit Go.MapKept
/-! ### maps -/
section
variable {α β : Type} [DecidableEq α]
def aget : List (α × β) → α → Option β
  | [], _ => none
  | p :: l, a => if p.1 = a then some p.2 else aget l a
def aset : List (α × β) → α → β → List (α × β)
  | [], a, v => [(a, v)]
  | p :: l, a, v => if p.1 = a then (p.1, v) :: l else p :: aset l a v
theorem aget_aset (l : List (α × β)) (a b : α) (v : β) : aget (aset l a v) b = if a = b then some v else aget l b := by
  induction l with
  | nil => simp [aset, aget]
  | cons p l ih =>
    simp only [aset]
    split
    · rename_i h
      subst h
      simp only [aget]
      split <;> rfl
    · rename_i h
      simp only [aget, ih]
      split
      · rename_i h2
        subst h2
        rw [if_neg (fun e => h e.symm)]
      · rfl
end
def entryKV (e : MapEntry) : Value × Value := (e.key, e.val)
/-- a map's block, as a list of keys with values -/
def MapO {α : Type} (d : TypeDesc) (kf : α → Value) (l : List (α × Value)) (o : Obj) : Prop :=
  ∃ es clock, o = .map es clock ∧ es.toList.map entryKV = l.map (fun p => (kf p.1, p.2)) ∧ ∀ e ∈ es.toList, IsKey d e.key
theorem amap_spec {α : Type} [DecidableEq α] {d : TypeDesc} {kf : α → Value} (inj : ∀ a b, kf a = kf b → a = b) {a : α} (hk : IsKey d (kf a)) : ∀ (es : List MapEntry) (l : List (α × Value)) (i : Nat), es.map entryKV = l.map (fun p => (kf p.1, p.2)) → (∀ e ∈ es, IsKey d e.key) →
    (Instr.findNow d (kf a) es i = some none ∧ aget l a = none ∧ ∀ v b, (es ++ [({ key := kf a, val := v, born := b } : MapEntry)]).map entryKV = (aset l a v).map (fun p => (kf p.1, p.2))) ∨
    ∃ j e, Instr.findNow d (kf a) es i = some (some (i + j, e.val)) ∧ es[j]? = some e ∧ e.key = kf a ∧ aget l a = some e.val ∧ ∀ v, (es.modify j (fun e => { e with key := kf a, val := v })).map entryKV = (aset l a v).map (fun p => (kf p.1, p.2))
  | [], [], i, _, _ => .inl ⟨rfl, rfl, fun v b => rfl⟩
  | [], _ :: _, i, h, _ => by simp at h
  | _ :: _, [], i, h, _ => by simp at h
  | e :: es, p :: l, i, h, hks => by
    obtain ⟨r, hr, hiff⟩ := sameNow_of_keys hk (hks e (.head _))
    simp only [List.map_cons, List.cons.injEq] at h
    have hek : e.key = kf p.1 := congrArg Prod.fst h.1
    have hev : e.val = p.2 := congrArg Prod.snd h.1
    cases r with
    | true =>
      have hpa : p.1 = a := inj _ _ (hek.symm.trans (hiff.1 rfl).symm)
      refine .inr ⟨0, e, by simp [Instr.findNow, hr], rfl, (hiff.1 rfl).symm, by simp [aget, hpa, hev], fun v => ?_⟩
      simp only [aset, hpa, if_true, List.modify_zero_cons, List.map_cons, h.2]
      rfl
    | false =>
      have hpa : ¬ p.1 = a := fun q => by
        have := hiff.2 (by rw [hek, q])
        cases this
      rcases amap_spec inj hk es l (i + 1) h.2 (fun x hx => hks x (.tail _ hx)) with ⟨h1, h2, h3⟩ | ⟨j, e', h1, h2, h3, h4, h5⟩
      · refine .inl ⟨by simp [Instr.findNow, hr, h1], by simp [aget, hpa, h2], fun v b => ?_⟩
        rw [List.cons_append, List.map_cons, h3 v b, aset, if_neg hpa, List.map_cons, h.1]
      · refine .inr ⟨j + 1, e', by simp [Instr.findNow, hr, h1]; omega, by simpa using h2, h3, by simp [aget, hpa, h4], fun v => ?_⟩
        rw [List.modify_succ_cons, List.map_cons, h5 v, aset, if_neg hpa, List.map_cons, h.1]
section
variable {P : Program} {r : Option Nat} {N : Nat} {ds : List Deferred} {ops : Array Oper} {Q : Post} {t : Fm} {rest : List Oper} {M : World → Prop}
variable {w0 : World} {E Z0 Z : Nat → Prop} {wz : World} {L : List Res}
variable {ty : TypeId} {pos : String} {aft : Array Edge} {dd : Nat}
variable {α : Type} [DecidableEq α] {d : TypeDesc} {kf : α → Value} {mt kt et : TypeId}
omit [DecidableEq α] in
theorem st_makeMap (hd : dd < N) (h : ∀ b o, MapO d kf [] o → JL P r N ds ops Q rest ((dd, .map (some b)) :: t) (Mem w0 E Z0 Z wz (.blk b o :: L))) :
    JL P r N ds ops Q (⟨some dd, .makeMap mt none, ty, pos, aft, none⟩ :: rest) t (Mem w0 E Z0 Z wz L) :=
  JL_op (β := Nat) (fun b => .map (some b)) (fun b => Mem w0 E Z0 Z wz (.blk b (.map #[] 0) :: L)) rfl nofun rfl hd (fun a w ha hw => by
    refine ⟨w.heap.size, w.alloc (.map #[] 0), ?_, hw.alloc _⟩
    unfold execOp
    simp [Instr.makeMap]) (fun b => h b _ ⟨#[], 0, rfl, rfl, by simp⟩)
/-- 'm[k]' -/
theorem vo_lookup {x y : Operand} {b : Nat} {o : Obj} {l : List (α × Value)} {k : α} {z : Value} (inj : ∀ a b, kf a = kf b → a = b) (hx : ev t x = some (.map (some b))) (hy : ev t y = some (kf k)) (hu : P.underlying mt = some (.map kt et)) (hkt : P.underlying kt = some d) (hk : IsKey d (kf k))
    (hz : (P.info? et).bind (·.zero) = some z) (hb : Has Z wz L b o) (hm : MapO d kf l o) : ValOf P N ds t (Mem w0 E Z0 Z wz L) ⟨some dd, .lookup mt x y false, ty, pos, aft, none⟩ ((aget l k).getD z) := fun a w ha hw => by
  obtain ⟨es, clock, rfl, h1, h2⟩ := hm
  have hbl := hw.has hb
  obtain ⟨inf, hinf, hz'⟩ := Option.bind_eq_some_iff.1 hz
  have hzero : (zeroValue et).run P w = .ok z w := by simp [zeroValue, typeInfo, hinf, hz']
  unfold execOp
  rcases amap_spec inj hk es.toList l 0 h1 h2 with ⟨hf, hg, _⟩ | ⟨j, e, hf, _, _, hg, _⟩
  · simp [ha.eval hx, ha.eval hy, Instr.lookup, run_underlying hu, MapKept.run_getObj_map hbl, MapKept.run_checkKey hkt hk, MapKept.run_findKey hkt hf, hzero, hg]
  · simp [ha.eval hx, ha.eval hy, Instr.lookup, run_underlying hu, MapKept.run_getObj_map hbl, MapKept.run_checkKey hkt hk, MapKept.run_findKey hkt hf, hg]
/-- 'm[k] = v' -/
theorem st_mapUpdate {x y z : Operand} {b : Nat} {o : Obj} {l : List (α × Value)} {k : α} {v : Value} {L' : Obj → List Res} (inj : ∀ a b, kf a = kf b → a = b) (hx : ev t x = some (.map (some b))) (hy : ev t y = some (kf k)) (hz : ev t z = some v) (hu : P.underlying mt = some (.map kt et)) (hkt : P.underlying kt = some d) (hk : IsKey d (kf k))
    (hm : MapO d kf l o) (ht' : TurnF (.blk b o) (fun o' => .blk b o') L L')
    (h : ∀ o', MapO d kf (aset l k v) o' → JL P r N ds ops Q rest t (Mem w0 E Z0 Z wz (L' o'))) :
    JL P r N ds ops Q (⟨none, .mapUpdate mt x y z, ty, pos, aft, none⟩ :: rest) t (Mem w0 E Z0 Z wz L) := by
  obtain ⟨es, clock, rfl, h1, h2⟩ := hm
  rcases amap_spec inj hk es.toList l 0 h1 h2 with ⟨hf, hg, hs⟩ | ⟨j, e, hf, hj, hkey, hg, hs⟩
  · refine JL_do (Mem w0 E Z0 Z wz (L' (.map (es.push ⟨kf k, v, clock⟩) (clock + 1)))) rfl nofun rfl (fun a w ha hw => ?_) (h _ ⟨_, _, rfl, by rw [Array.toList_push]; exact hs v clock, fun e he => by
      rw [Array.toList_push] at he
      rcases List.mem_append.1 he with he | he
      · exact h2 e he
      · simp at he; subst he; exact hk⟩)
    have ht := ht'.turn (.map (es.push ⟨kf k, v, clock⟩) (clock + 1))
    have hbl : w.heap[b]? = some (.map es clock) := hw.own _ ht.mem
    have hh := MapKept.heap_set (o' := .map (es.push ⟨kf k, v, clock⟩) (clock + 1)) hbl
    refine ⟨{ w with heap := w.heap.setIfInBounds b (.map (es.push ⟨kf k, v, clock⟩) (clock + 1)) }, ?_, hw.turn ht rfl rfl rfl (by simp) hh.2 hh.1⟩
    unfold execOp
    simp [ha.eval hx, ha.eval hy, ha.eval hz, Instr.mapUpdate, run_underlying hu, MapKept.run_getObj_map hbl, MapKept.run_checkKey hkt hk, MapKept.run_findKey hkt hf, MapKept.run_setObj_map _ hbl]
  · have hes : es[j]? = some e := by rw [← Array.getElem?_toList]; exact hj
    refine JL_do (Mem w0 E Z0 Z wz (L' (.map (es.modify j fun e => { e with key := kf k, val := v }) clock))) rfl nofun rfl (fun a w ha hw => ?_) (h _ ⟨_, _, rfl, by rw [Array.toList_modify]; exact hs v, MapKept.isKey_modify h2 j _ (fun e' he' => by rw [hes] at he'; cases he'; exact hkey.symm)⟩)
    have ht := ht'.turn (.map (es.modify j fun e => { e with key := kf k, val := v }) clock)
    have hbl : w.heap[b]? = some (.map es clock) := hw.own _ ht.mem
    have hh := MapKept.heap_set (o' := .map (es.modify j fun e => { e with key := kf k, val := v }) clock) hbl
    refine ⟨{ w with heap := w.heap.setIfInBounds b (.map (es.modify j fun e => { e with key := kf k, val := v }) clock) }, ?_, hw.turn ht rfl rfl rfl (by simp) hh.2 hh.1⟩
    have hst : (Instr.keyThatStays e.key (kf k)).run P w = .ok (kf k) w := by rw [hkey]; exact MapKept.run_keyThatStays hk
    unfold execOp
    simp [ha.eval hx, ha.eval hy, ha.eval hz, Instr.mapUpdate, run_underlying hu, MapKept.run_getObj_map hbl, MapKept.run_checkKey hkt hk, MapKept.run_findKey hkt hf, hes, hst, MapKept.run_setObj_map _ hbl]
end
end Go.Eng

set_option linter.unusedVariables false
set_option linter.unusedSimpArgs false
namespace Go.Eng
open Go Go.RowKit
/-! ### bytes, arithmetic, calls that hand over a row -/
def bytesC (l : List UInt8) : List Value := l.map fun b => .int .u8 b.toNat
theorem bytesC_length (l : List UInt8) : (bytesC l).length = l.length := by simp [bytesC]
theorem bytesC_get {l : List UInt8} {i : Nat} {b : UInt8} (h : l[i]? = some b) : (bytesC l)[i]? = some (.int .u8 b.toNat) := by simp [bytesC, h]
theorem bytesC_append (a b : List UInt8) : bytesC (a ++ b) = bytesC a ++ bytesC b := by simp [bytesC]
theorem bytesC_slice (l : List UInt8) (i n : Nat) : ((bytesC l).drop i).take n = bytesC ((l.drop i).take n) := by simp [bytesC, List.map_drop, List.map_take]
theorem bytesC_one (l : List UInt8) : ∀ u ∈ bytesC l, u.oneCell' = true := by
  intro u hu
  obtain ⟨b, _, rfl⟩ := List.mem_map.1 hu
  rfl
theorem beq_mk (a b : List UInt8) : beq ⟨a.toArray⟩ ⟨b.toArray⟩ = decide (a = b) := by
  unfold beq
  rw [ByteArray.toList_eq, ByteArray.toList_eq, Bool.eq_iff_iff]
  simp
section
variable {P : Program} {r : Option Nat} {N : Nat} {ds : List Deferred} {ops : Array Oper} {Q : Post} {t : Fm} {rest : List Oper} {M : World → Prop}
variable {w0 : World} {E Z0 Z : Nat → Prop} {wz : World} {L : List Res}
variable {ty : TypeId} {pos : String} {aft : Array Edge} {d : Nat}
theorem vo_bytesStr {st dt e : TypeId} {x : Operand} {v : Value} {l : List UInt8} (hx : ev t x = some v) (hr : RVals Z wz (bytesC l) v) (hs : P.underlying st = some (.slice e)) (he : P.underlying e = some (.int .u8)) (hd : P.underlying dt = some .string) :
    ValOf P N ds t (Mem w0 E Z0 Z wz L) ⟨some d, .convert st dt x, ty, pos, aft, none⟩ (.string ⟨l.toArray⟩) := fun a w ha hw => by
  obtain ⟨A, c, rfl, h1, h2, h3⟩ := hr
  rw [bytesC_length] at hx
  have hrun : (convert st dt (.slice A l.length c)).run P w = .ok (.string ⟨l.toArray⟩) w := by
    rcases h3 with h3 | ⟨b, o, cs, te, fr, rfl, hf, hc⟩
    · have hl : l = [] := by simpa [bytesC] using h3
      subst hl
      cases A with
      | none => rw [run_convert_bytes_string w st dt e none _ c hs he hd]; simp [Conv.bytesToString]; rfl
      | some A => exact run_convert_bytes_back w st dt e A c [] hs he hd (by simp)
    · refine run_convert_bytes_back w st dt e ⟨b, o, none⟩ c l hs he hd fun j hj => ?_
      rw [Addr.add_mid, cell_cells (hw.frz _ _ hf.z hf.at_)]
      exact hc j _ (bytesC_get (List.getElem?_eq_getElem hj))
  unfold execOp
  simp [ha.eval hx, hrun]
theorem vo_sliceNil {op : BinOp} {xt yt e : TypeId} {x y : Operand} {A : Option Addr} {n c : Nat} {q : Bool} (hx : ev t x = some (.slice A n c)) (hy : ev t y = some (.slice none 0 0)) (hu : P.underlying xt = some (.slice e))
    (hop : (match op with | .eql => some A.isNone | .neq => some (!A.isNone) | _ => none) = some q) :
    ValOf P N ds t M ⟨some d, .binOp op xt x y yt, ty, pos, aft, none⟩ (.bool q) := fun a w ha hw => by
  unfold execOp
  simp only [ha.eval hx, ha.eval hy]
  cases op <;> first | (cases hop; done) | (obtain rfl := Option.some.inj hop; simp [eqGuard, Go.Lib.run_eql_slice_nil w xt e A n c 0 0 hu, run_neq_slice_nil w xt e A n c hu])
theorem vo_convInt {st dt : TypeId} {x : Operand} {k k' : IntKind} {n : Int} {sd : TypeDesc} (hx : ev t x = some (.int k' n)) (hs : P.underlying st = some sd) (hd : P.underlying dt = some (.int k)) :
    ValOf P N ds t M ⟨some d, .convert st dt x, ty, pos, aft, none⟩ (.int k (k.wrap n)) := fun a w ha hw => by
  have hrun : (convert st dt (.int k' n)).run P w = .ok (.int k (k.wrap n)) w := by
    simp [convert, run_underlying hs, run_underlying hd, Conv.intToInt]
  unfold execOp
  simp [ha.eval hx, hrun]
theorem vo_shl {xt yt : TypeId} {x y : Operand} {k k' : IntKind} {m n : Int} (hx : ev t x = some (.int k m)) (hy : ev t y = some (.int k' n)) (hn : 0 ≤ n) :
    ValOf P N ds t M ⟨some d, .binOp .shl xt x y yt, ty, pos, aft, none⟩ (.int k (k.wrap (m * 2 ^ (min n.toNat k.bits)))) := fun a w ha hw => by
  unfold execOp
  simp only [ha.eval hx, ha.eval hy]
  simp [eqGuard, binOp, Op.shift, show ¬ n < 0 by omega]
theorem vo_bits {op : BinOp} {xt yt : TypeId} {x y : Operand} {k : IntKind} {m n c : Int} (hx : ev t x = some (.int k m)) (hy : ev t y = some (.int k n))
    (hop : (match op with | .and => some (k.wrap ((BitVec.ofInt k.bits m &&& BitVec.ofInt k.bits n).toNat)) | .or => some (k.wrap ((BitVec.ofInt k.bits m ||| BitVec.ofInt k.bits n).toNat)) | _ => none) = some c) :
    ValOf P N ds t M ⟨some d, .binOp op xt x y yt, ty, pos, aft, none⟩ (.int k c) := fun a w ha hw => by
  unfold execOp
  simp only [ha.eval hx, ha.eval hy]
  cases op <;> first | (cases hop; done) | (obtain rfl := Option.some.inj hop; simp [eqGuard, binOp, Op.intBits])
/-- int: / and % by something positive of something that is not negative -/
theorem vo_quo {xt yt : TypeId} {x y : Operand} {m n : Int} (hx : ev t x = some (.int .i64 m)) (hy : ev t y = some (.int .i64 n)) (hm : 0 ≤ m) (hm' : m ≤ 9223372036854775807) (hn : 0 < n) :
    ValOf P N ds t M ⟨some d, .binOp .quo xt x y yt, ty, pos, aft, none⟩ (.int .i64 (m / n)) := fun a w ha hw => by
  have h1 : m.tdiv n = m / n := Int.tdiv_eq_ediv_of_nonneg hm
  have h2 : 0 ≤ m / n := Int.ediv_nonneg hm (by omega)
  have h3 : m / n ≤ m := Int.ediv_le_self _ hm
  unfold execOp
  simp only [ha.eval hx, ha.eval hy]
  simp [eqGuard, binOp, Op.intDiv, show ¬ n = 0 by omega, h1, IntWalk.i64_in (m / n) ⟨by omega, by omega⟩]
theorem vo_rem {xt yt : TypeId} {x y : Operand} {m n : Int} (hx : ev t x = some (.int .i64 m)) (hy : ev t y = some (.int .i64 n)) (hm : 0 ≤ m) (hn : 0 < n) :
    ValOf P N ds t M ⟨some d, .binOp .rem xt x y yt, ty, pos, aft, none⟩ (.int .i64 (m % n)) := fun a w ha hw => by
  have h1 : m.tmod n = m % n := Int.tmod_eq_emod_of_nonneg hm
  unfold execOp
  simp only [ha.eval hx, ha.eval hy]
  simp [eqGuard, binOp, Op.intDiv, show ¬ n = 0 by omega, h1]
theorem vo_mul {xt yt : TypeId} {x y : Operand} {m n : Int} (hx : ev t x = some (.int .i64 m)) (hy : ev t y = some (.int .i64 n)) (h0 : -9223372036854775808 ≤ m * n) (h1 : m * n ≤ 9223372036854775807) :
    ValOf P N ds t M ⟨some d, .binOp .mul xt x y yt, ty, pos, aft, none⟩ (.int .i64 (m * n)) :=
  vo_arith (op := .mul) (c := m * n) hx hy (by simp only [IntWalk.i64_in (m * n) ⟨h0, h1⟩])
/-- a call that hands over a row of its own -/
def OCalls (P : Program) (f : FuncId) (args : Array Value) (w : World) (e : TypeId) (sz : Nat) (R : Nat → List Value → Prop) : Prop :=
  Calls P f args w fun en w' => ∃ v n xs, en = .returned v ∧ Below w.heap.size w w' ∧ w'.ownsRow w.heap.size e sz v n xs ∧ R n xs
theorem Mem.callO {w : World} (h : Mem w0 E Z0 Z wz L w) {v : Value} {e : TypeId} {sz n : Nat} {xs : List Value} {w' : World} (hk : Below w.heap.size w w') (ho : w'.ownsRow w.heap.size e sz v n xs) : Mem w0 E Z0 Z wz (.row v e sz n xs :: L) w' := by
  have h1 := h.callS hk
  have hs := h.size
  have hs0 := h.size0
  have hfresh : ∀ b, v.ownBlock = some b → w.heap.size ≤ b := fun b hb => by
    rcases ho.2 with ⟨rfl, _⟩ | ⟨g, cap, cur, rfl, hg, _⟩
    · simp [Value.ownBlock] at hb
    · simp [Value.ownBlock] at hb; omega
  refine ⟨h1.os, h1.tape, h1.output, h1.size0, h1.size, h1.base, h1.frz, h1.zb, h1.zlt, fun r hr => ?_, fun r hr b hb => ?_, ⟨fun b hb x hx e => ?_, h1.nodup⟩⟩
  · rcases List.mem_cons.1 hr with rfl | hr
    · refine ⟨ho.1, ?_⟩
      rcases ho.2 with ho | ⟨g, cap, cur, h2, hg, h3⟩
      · exact .inl ho
      · exact .inr ⟨g, cap, cur, h2, Nat.zero_le _, h3⟩
    · exact h1.own r hr
  · rcases List.mem_cons.1 hr with rfl | hr
    · have := hfresh b hb
      exact ⟨fun hz => by have := h.zlt' b hz; omega, .inl (by omega)⟩
    · exact h1.sep r hr b hb
  · have := hfresh b hb
    have := Res.foot_lt (h.own x hx) e
    omega
theorem st_ocall {f : FuncId} {l : List Operand} {ats : Array TypeId} {vs : List Value} {e : TypeId} {sz : Nat} {R : Nat → List Value → Prop} (hl : evOps t l = some vs) (he : Enters P f) (hd : d < N)
    (hc : ∀ w, Mem w0 E Z0 Z wz L w → OCalls P f vs.toArray w e sz R)
    (h : ∀ v n xs, R n xs → JL P r N ds ops Q rest ((d, v) :: t) (Mem w0 E Z0 Z wz (.row v e sz n xs :: L))) :
    JL P r N ds ops Q (⟨some d, .call { callee := .value (.func f), args := l.toArray, argTypes := ats }, ty, pos, aft, none⟩ :: rest) t (Mem w0 E Z0 Z wz L) :=
  st_call (β := { x : Value × Nat × List Value // R x.2.1 x.2.2 }) (fun x => x.1.1) (fun x => Mem w0 E Z0 Z wz (.row x.1.1 e sz x.1.2.1 x.1.2.2 :: L)) hl he hd
    (fun w hw => Calls.mono (hc w hw) fun en w' ⟨v, n, xs, he', hb, ho, hR⟩ => ⟨⟨(v, n, xs), hR⟩, he', hw.callO hb ho⟩)
    (fun x => h _ _ _ x.2)
theorem OC_end {e : TypeId} {sz n : Nat} {xs : List Value} {R : Nat → List Value → Prop} {v : Value} {w : World} (h : Mem w0 (fun _ => False) Z0 Z wz L w) (hm : Res.row v e sz n xs ∈ L) (hR : R n xs) :
    ∃ v' n' xs', Ending.returned v = .returned v' ∧ Below w0.heap.size w0 w ∧ w.ownsRow w0.heap.size e sz v' n' xs' ∧ R n' xs' := by
  have ho : w.ownsRow 0 e sz v n xs := h.own _ hm
  refine ⟨v, n, xs, rfl, h.below, ⟨ho.1, ?_⟩, hR⟩
  rcases ho.2 with h1 | ⟨g, cap, cur, h2, hg, h3⟩
  · exact .inl h1
  · refine .inr ⟨g, cap, cur, h2, ?_, h3⟩
    have := (h.sep _ hm g (by subst h2; rfl)).2
    exact this.elim id (fun x => x.elim)
/-- '[]T{}' of nothing: a row of the call's own -/
theorem st_bslice0 {bt e : TypeId} {z : Value} {sz : Nat} (hu : P.underlying bt = some (.slice e)) (hz : (P.info? e).bind (·.zero) = some z) (hs : (P.info? e).map (·.size) = some sz) (hle : sz ≤ 16777216) (hd : d < N)
    (h : ∀ v, JL P r N ds ops Q rest ((d, v) :: t) (Mem w0 E Z0 Z wz (.row v e sz 0 [] :: L))) :
    JL P r N ds ops Q (⟨some d, .buildSlice bt 0 #[], ty, pos, aft, none⟩ :: rest) t (Mem w0 E Z0 Z wz L) :=
  JL_op (β := Nat) (fun b => .slice (some ⟨b, 0, none⟩) 0 0) (fun b => Mem w0 E Z0 Z wz (.row (.slice (some ⟨b, 0, none⟩) 0 0) e sz 0 [] :: L)) rfl nofun rfl hd (fun a w ha hw => by
    obtain ⟨inf, hinf, hz'⟩ := Option.bind_eq_some_iff.1 hz
    have hsz : inf.size = sz := by simpa [hinf] using hs
    refine ⟨w.heap.size, w.alloc (.cells #[] e), ?_, by simpa using (hw.alloc (.cells #[] e)).toRow (n := 0) (sz := sz) (by simp) (by omega)⟩
    unfold execOp
    have hle' : ¬ sz > 2 ^ 24 := by omega
    simp [Instr.buildSlice, run_underlying hu, sizeOf, typeInfo, hinf, hsz, hle', zeroValue, hz', newRow, Instr.fill]
    rw [Array.eq_empty_of_size_eq_zero (xs := Array.map (fun _ => default) (Array.range 0)) (by simp)]) (fun b => h _)
end
end Go.Eng

set_option linter.unusedVariables false
set_option linter.unusedSimpArgs false
namespace Go.Eng
open Go Go.RowKit
section
variable {P : Program} {r : Option Nat} {N : Nat} {ds : List Deferred} {ops : Array Oper} {Q : Post} {t : Fm} {rest : List Oper} {F : World → Prop} {m fuel : Nat} {listed : Array Bool}
variable {w0 : World} {E Z0 Z : Nat → Prop} {wz : World} {L : List Res}
variable {ty : TypeId} {pos : String} {aft : Array Edge} {d : Nat} {g : Option (Nat × Bool)}
theorem run_callF {fo : Operand} {f : FuncId} {ca : Array Value} {l : List Operand} {ats : Array TypeId} {vs : List Value} (hfo : ev t fo = some (.func (.func f) #[] ca)) (hl : evOps t l = some vs) (he : Enters P f) (a : Act) (w : World) (ha : Fr N ds t a) :
    (execOp a.eval ⟨some d, .call { callee := .value fo, args := l.toArray, argTypes := ats }, ty, pos, aft, g⟩).run P w = .ok (.enter f (vs.toArray ++ ca)) w := by
  obtain ⟨fn, hf, hn, hb⟩ := he
  have h1 := ha.eval hfo
  have h2 := evOps_eval ha l vs hl
  unfold execOp
  simp [resolve, Deferred.ofValue, h1, h2, invoke, run_enter hf hn hb]
theorem st_scallF {fo : Operand} {f : FuncId} {ca : Array Value} {l : List Operand} {ats : Array TypeId} {vs : List Value} {R : Value → Prop} (hfo : ev t fo = some (.func (.func f) #[] ca)) (hl : evOps t l = some vs) (he : Enters P f) (hd : d < N)
    (hc : ∀ w, Mem w0 E Z0 Z wz L w → SCalls P f (vs.toArray ++ ca) w R)
    (h : ∀ v, R v → JL P r N ds ops Q rest ((d, v) :: t) (Mem w0 E Z0 Z wz L)) :
    JL P r N ds ops Q (⟨some d, .call { callee := .value fo, args := l.toArray, argTypes := ats }, ty, pos, aft, none⟩ :: rest) t (Mem w0 E Z0 Z wz L) :=
  st_callF (β := { v : Value // R v }) (fun x => x.1) (fun _ => Mem w0 E Z0 Z wz L) hfo hl he hd
    (fun w hw => Calls.mono (hc w hw) fun e w' ⟨v, he', hb, hR⟩ => ⟨⟨v, hR⟩, he', hw.callS hb⟩)
    (fun x => h _ x.2)
theorem JK_scallF {i : Nat} {fo : Operand} {f : FuncId} {ca : Array Value} {l : List Operand} {ats : Array TypeId} {vs : List Value} {R : Value → Prop} (hi : ops[i]? = some ⟨some d, .call { callee := .value fo, args := l.toArray, argTypes := ats }, ty, pos, aft, g⟩)
    (hw : Wants ops t g) (hfo : ev t fo = some (.func (.func f) #[] ca)) (hl : evOps t l = some vs) (he : Enters P f) (hd : d < N)
    (hc : ∀ w, Mem w0 E Z0 Z wz L w → SCalls P f (vs.toArray ++ ca) w R) (hF : ∀ w, Mem w0 E Z0 Z wz L w → F w)
    (h : ∀ v, R v → JR P N ops Q F m fuel (listed.setIfInBounds i true) ((d, v) :: t) (Mem w0 E Z0 Z wz L)) : JK P N ops Q F m fuel listed t (Mem w0 E Z0 Z wz L) i :=
  JK_call (β := { v : Value // R v }) (fun x => x.1) (fun _ => Mem w0 E Z0 Z wz L) hi rfl hd hw (fun a w ha _ => run_callF hfo hl he a w ha)
    (fun w hw => Calls.mono (hc w hw) fun e w' ⟨v, he', hb, hR⟩ => ⟨⟨v, hR⟩, he', hw.callS hb⟩) (fun x w' h => hF w' h) (fun x => h _ x.2)
end
end Go.Eng

set_option linter.unusedVariables false
set_option linter.unusedSimpArgs false
namespace Go.Eng
open Go Go.RowKit
/-! ### rows in any number -/
theorem TurnF.mid {α : Type} {r : Res} {F : α → Res} (l1 l2 : List Res) : TurnF r F (l1 ++ r :: l2) (fun v => l1 ++ F v :: l2) := by
  induction l1 with
  | nil => exact .head _
  | cons x l1 ih => exact .tail x ih
/-- a list of rows of one-cell elements: value, content -/
def rowsR (e : TypeId) (st : List (Value × List Value)) : List Res := st.map fun p => .row p.1 e 1 p.2.length p.2
section
variable {P : Program} {r : Option Nat} {N : Nat} {ds : List Deferred} {ops : Array Oper} {Q : Post} {t : Fm} {rest : List Oper}
variable {w0 : World} {Z0 Z : Nat → Prop} {wz : World} {L : List Res}
theorem Mem.freezeRows {e : TypeId} : ∀ (st : List (Value × List Value)) {Z : Nat → Prop} {wz : World} {w : World}, Mem w0 (fun _ => False) Z0 Z wz (rowsR e st ++ L) w →
    ∃ Z', Mem w0 (fun _ => False) Z0 Z' w L w ∧ Ext Z wz Z' w ∧ ∀ p ∈ st, RVals Z' w p.2 p.1
  | [], Z, wz, w, h => by
    obtain ⟨Z', h1, h2, _⟩ := (h.addNil 0 1).freezeRow (.head _ _)
    exact ⟨Z', h1, h2, by simp⟩
  | p :: st, Z, wz, w, h => by
    obtain ⟨Z', h1, h2, h3⟩ := h.freezeRow (.head _ _)
    obtain ⟨Z2, h4, h5, h6⟩ := Mem.freezeRows st h1
    refine ⟨Z2, h4, h2.trans h5, fun q hq => ?_⟩
    rcases List.mem_cons.1 hq with rfl | hq
    · exact h3.ext h5
    · exact h6 q hq
theorem JL_freezeRows {e : TypeId} (st : List (Value × List Value)) {l : List Oper}
    (h : ∀ Z' wz', Ext Z wz Z' wz' → (∀ p ∈ st, RVals Z' wz' p.2 p.1) → JL P r N ds ops Q l t (Mem w0 (fun _ => False) Z0 Z' wz' L)) : JL P r N ds ops Q l t (Mem w0 (fun _ => False) Z0 Z wz (rowsR e st ++ L)) := fun a w ha hw => by
  obtain ⟨Z', h1, h2, h3⟩ := hw.freezeRows st
  exact h Z' w h2 h3 a w ha h1
theorem JL_rowSome {E : Nat → Prop} {v : Value} {e : TypeId} {sz n : Nat} {xs : List Value} {l : List Oper} (hm : Res.row v e sz n xs ∈ L) (hn : 0 < n) (h : ∀ g c, v = .slice (some ⟨g, 0, none⟩) n c → JL P r N ds ops Q l t (Mem w0 E Z0 Z wz L)) : JL P r N ds ops Q l t (Mem w0 E Z0 Z wz L) := fun a w ha hw => by
  rcases (hw.own _ hm).2 with ⟨rfl, h0⟩ | ⟨g, cap, cur, rfl, _⟩
  · omega
  · exact h _ _ rfl a w ha hw
end
end Go.Eng

set_option linter.unusedVariables false
set_option linter.unusedSimpArgs false
namespace Go.Eng
open Go Go.RowKit
section
variable {P : Program} {r : Option Nat} {N : Nat} {ds : List Deferred} {ops : Array Oper} {Q : Post} {t : Fm} {rest : List Oper}
variable {w0 : World} {E Z0 Z : Nat → Prop} {wz : World} {L : List Res}
variable {ty : TypeId} {pos : String} {aft : Array Edge} {d : Nat} {g : Option (Nat × Bool)}
/-- append of a piece of a block, as a run -/
theorem do_append {x y : Operand} {v : Value} {t0 e b2 o2 m c2 sz bytes n : Nat} {z : Value} {xs news : List Value} {cs : Array Value} {te : TypeId} {fr : Nat × Nat} {L' : Value → List Res} (hx : ev t x = some v) (hy : ev t y = some (.slice (some ⟨b2, o2, none⟩) m c2))
    (hu : P.underlying t0 = some (.slice e)) (hi : (P.info? e).map (fun i => (i.zero, i.size, i.bytes)) = some (some z, sz, bytes)) (hz : z.cells.size = sz) (hsz : 0 < sz)
    (ht' : TurnF (.row v e sz n xs) (fun v' => .row v' e sz (n + m) (xs ++ news)) L L') (hb : Has Z wz L b2 (.cells cs te fr)) (hn : news.length = m * sz) (hnc : ∀ (j : Nat) (u : Value), news[j]? = some u → cs[o2 + j]? = some u) (h1 : ∀ u ∈ news, u.oneCell' = true)
    (hlen : n + m ≤ 1000000000) (hby : bytes ≤ 100000) :
    ∀ a w, Fr N ds t a → Mem w0 E Z0 Z wz L w → ∃ v' w', (execOp a.eval ⟨some d, .call { callee := .builtin .append, args := #[x, y], argTypes := #[t0, t0] }, ty, pos, aft, g⟩).run P w = .ok (.value v') w' ∧ Mem w0 E Z0 Z wz (L' v') w' := fun a w ha hw => by
    have ht := ht'.turn
    obtain ⟨inf, hinf, hzz⟩ := Option.map_eq_some_iff.1 hi
    simp only [Prod.mk.injEq] at hzz
    have hown : w.ownsRow 0 e sz v n xs := hw.own _ (ht v).mem
    have hbl := hw.has hb
    have hml : n + m ≤ maxLen := by simp only [maxLen]; omega
    have hmul : (n + m) * bytes ≤ 140737488355328 := Nat.le_trans (Nat.mul_le_mul hlen hby) (by decide)
    obtain ⟨v', w', hr, ho, hg, _, hat⟩ := run_append_own_at (P := P) w 0 t0 ty e inf z sz bytes hu hinf hzz.1 hzz.2.1 hzz.2.2 hz hsz v n xs hown ⟨b2, o2, none⟩ m c2 news hn
      (fun j u hu => by rw [Addr.add_mid, cell_cells hbl]; exact hnc j u hu) h1 hml hmul (by omega)
    refine ⟨v', w', ?_, hw.turnRow (ht v') ho hg hat⟩
    unfold execOp
    simp [resolve, invoke, builtin, ha.eval hx, ha.eval hy, hr]
theorem do_appendB {x y : Operand} {v : Value} {t0 e b2 m c2 sz bytes n : Nat} {z : Value} {xs : List Value} {cs : Array Value} {te : TypeId} {fr : Nat × Nat} {L' : Value → List Res} (hx : ev t x = some v) (hy : ev t y = some (.slice (some ⟨b2, 0, none⟩) m c2))
    (hu : P.underlying t0 = some (.slice e)) (hi : (P.info? e).map (fun i => (i.zero, i.size, i.bytes)) = some (some z, sz, bytes)) (hz : z.cells.size = sz) (hsz : 0 < sz)
    (hb : Has Z wz L b2 (.cells cs te fr)) (ht' : TurnF (.row v e sz n xs) (fun v' => .row v' e sz (n + m) (xs ++ cs.toList)) L L') (hn : cs.size = m * sz) (h1 : ∀ u ∈ cs.toList, u.oneCell' = true)
    (hlen : n + m ≤ 1000000000) (hby : bytes ≤ 100000) :
    ∀ a w, Fr N ds t a → Mem w0 E Z0 Z wz L w → ∃ v' w', (execOp a.eval ⟨some d, .call { callee := .builtin .append, args := #[x, y], argTypes := #[t0, t0] }, ty, pos, aft, g⟩).run P w = .ok (.value v') w' ∧ Mem w0 E Z0 Z wz (L' v') w' :=
  do_append hx hy hu hi hz hsz ht' hb (by simpa using hn) (fun j u h => by simpa using h) h1 hlen hby
theorem do_appendR {x y : Operand} {v vy : Value} {t0 e bytes n : Nat} {z : Value} {xs ys : List Value} {L' : Value → List Res} (hx : ev t x = some v) (hy : ev t y = some vy) (hr : RVals Z wz ys vy)
    (hu : P.underlying t0 = some (.slice e)) (hi : (P.info? e).map (fun i => (i.zero, i.size, i.bytes)) = some (some z, 1, bytes)) (hz : z.cells.size = 1)
    (ht' : TurnF (.row v e 1 n xs) (fun v' => .row v' e 1 (n + ys.length) (xs ++ ys)) L L') (h1 : ∀ u ∈ ys, u.oneCell' = true)
    (hlen : n + ys.length ≤ 1000000000) (hby : bytes ≤ 100000) :
    ∀ a w, Fr N ds t a → Mem w0 E Z0 Z wz L w → ∃ v' w', (execOp a.eval ⟨some d, .call { callee := .builtin .append, args := #[x, y], argTypes := #[t0, t0] }, ty, pos, aft, g⟩).run P w = .ok (.value v') w' ∧ Mem w0 E Z0 Z wz (L' v') w' := by
  obtain ⟨A, c, rfl, hc1, hc2, h3⟩ := hr
  rcases h3 with rfl | ⟨b, o, cs, te, fr, rfl, hf, hcell⟩
  · intro a w ha hw
    have ht := ht'.turn
    obtain ⟨inf, hinf, hzz⟩ := Option.map_eq_some_iff.1 hi
    simp only [Prod.mk.injEq] at hzz
    have hown : w.ownsRow 0 e 1 v n xs := hw.own _ (ht v).mem
    refine ⟨v, w, ?_, by simpa using hw.turnRow (ht v) (by simpa using hown) ⟨rfl, rfl, rfl, Nat.le_refl _, fun _ _ _ => rfl⟩ (.inl rfl)⟩
    have hrun : (Builtin.append_ #[t0, t0] ty #[v, .slice A 0 c]).run P w = .ok v w := by
      rcases hown.2 with ⟨rfl, rfl⟩ | ⟨g, cap, cur, rfl, _, _, hnc, _⟩
      · cases A <;> simp [Builtin.append_, run_underlying hu, sizeOf, typeInfo, hinf, Builtin.lenOf, Builtin.firstCells, loadCells, loadCellsFrom]
      · cases A <;> simp [Builtin.append_, run_underlying hu, sizeOf, typeInfo, hinf, Builtin.lenOf, Builtin.firstCells, hnc, storeCells, loadCells, loadCellsFrom]
    unfold execOp
    simp [resolve, invoke, builtin, ha.eval hx, ha.eval hy, hrun]
  · exact do_append hx hy hu hi hz (by decide) ht' (.frz hf) (by simp) hcell h1 hlen hby
end
end Go.Eng
