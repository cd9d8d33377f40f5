/-
  Part of the proofs over this seat: E1 E2 E3 E4 E5 E6. Own work; imports the kit.
-/
import Derived.WalkKit
import Derived.TacticsIn
import Derived.RangeFuncLeaves
import Derived.Deep.MidRow
import Derived.Maps.AppendAt
import Derived.KernelRfl
import Derived.StillTail
import Derived.OrdersIn
set_option linter.unusedVariables false
set_option linter.unusedSimpArgs false
namespace Go.Eng
open Go Go.RowKit

/-! ### 1. Frames as partial lists -/
abbrev Fm := List (Nat × Value)
def look : Fm → Nat → Option Value
  | [], _ => none
  | p :: t, i => match Nat.beq p.1 i with
    | true => some p.2
    | false => look t i
def ev (t : Fm) : Operand → Option Value
  | .tmp i => look t i
  | .const v => some v
  | .global g => some (.pointer (some ⟨g, 0, none⟩))
  | .func f => some (.func (.func f) #[] #[])
structure Fr (N : Nat) (ds : List Deferred) (t : Fm) (a : Act) : Prop where
  size : a.tmps.size = N
  defers : a.defers = ds
  get : ∀ i v, look t i = some v → a.tmps[i]? = some v

theorem Fr.eval {N : Nat} {ds : List Deferred} {t : Fm} {a : Act} (h : Fr N ds t a) {x : Operand} {v : Value} (hx : ev t x = some v) : a.eval x = v := by
  cases x with
  | tmp i =>
    have := h.get i v hx
    show a.tmps.getD i undef = v
    simp [Array.getD_eq_getD_getElem?, this]
  | const u => exact Option.some.inj hx
  | global g => exact Option.some.inj hx
  | func f => exact Option.some.inj hx

theorem look_cons_eq (d : Nat) (v : Value) (t : Fm) : look ((d, v) :: t) d = some v := by
  have : Nat.beq d d = true := Nat.beq_refl d
  simp [look, this]
theorem look_cons_ne {d i : Nat} (h : d ≠ i) (v : Value) (t : Fm) : look ((d, v) :: t) i = look t i := by
  have : Nat.beq d i = false := by
    cases hb : Nat.beq d i with
    | false => rfl
    | true => exact absurd (Nat.eq_of_beq_eq_true hb) h
  simp [look, this]

theorem Fr.put {N : Nat} {ds : List Deferred} {t : Fm} {a : Act} (h : Fr N ds t a) {d : Nat} (hd : d < N) (v : Value) : Fr N ds ((d, v) :: t) (a.put (some d) v) := by
  refine ⟨?_, h.defers, fun i u hu => ?_⟩
  · show (a.tmps.setIfInBounds d v).size = N
    rw [Array.size_setIfInBounds]; exact h.size
  · show (a.tmps.setIfInBounds d v)[i]? = some u
    by_cases hi : d = i
    · subst hi
      rw [look_cons_eq] at hu
      obtain rfl := Option.some.inj hu
      rw [Array.getElem?_setIfInBounds_self_of_lt (by rw [h.size]; exact hd)]
    · rw [look_cons_ne hi] at hu
      rw [Array.getElem?_setIfInBounds_ne hi]
      exact h.get i u hu
theorem Fr.put_none {N : Nat} {ds : List Deferred} {t : Fm} {a : Act} (h : Fr N ds t a) (v : Value) : Fr N ds t (a.put none v) := h
/-- fewer facts -/
theorem Fr.weak {N : Nat} {ds : List Deferred} {t t' : Fm} {a : Act} (h : Fr N ds t a) (hs : ∀ i v, look t' i = some v → look t i = some v) : Fr N ds t' a :=
  ⟨h.size, h.defers, fun i v hv => h.get i v (hs i v hv)⟩
def memN : List Nat → Nat → Bool
  | [], _ => false
  | k :: ks, i => match Nat.beq k i with
    | true => true
    | false => memN ks i
/-- facts that are kept: each entry of t' (but for those that stand behind a newer one of their number) is looked up in t -/
def subG (t : Fm) : List Nat → Fm → Prop
  | _, [] => True
  | ks, p :: t' => (match memN ks p.1 with | true => True | false => look t p.1 = some p.2) ∧ subG t (p.1 :: ks) t'
def subF (t t' : Fm) : Prop := subG t [] t'
theorem memN_cons {ks : List Nat} {k i : Nat} (h : memN (k :: ks) i = false) : memN ks i = false ∧ k ≠ i := by
  unfold memN at h
  cases hb : Nat.beq k i with
  | true => simp [hb] at h
  | false => exact ⟨by simpa [hb] using h, fun e => by subst e; rw [Nat.beq_refl] at hb; cases hb⟩
theorem subG.look {t : Fm} : ∀ {t' : Fm} {ks : List Nat}, subG t ks t' → ∀ i v, memN ks i = false → look t' i = some v → look t i = some v
  | [], _, _, i, v, _, hv => by simp [Eng.look] at hv
  | p :: t', ks, h, i, v, hm, hv => by
    by_cases hi : p.1 = i
    · subst hi
      rw [show p :: t' = (p.1, p.2) :: t' from rfl, look_cons_eq] at hv
      obtain rfl := Option.some.inj hv
      have := h.1
      rw [hm] at this
      exact this
    · rw [show p :: t' = (p.1, p.2) :: t' from rfl, look_cons_ne hi] at hv
      refine subG.look h.2 i v ?_ hv
      unfold memN
      have : Nat.beq p.1 i = false := by
        cases hb : Nat.beq p.1 i with
        | false => rfl
        | true => exact absurd (Nat.eq_of_beq_eq_true hb) hi
      simp [this, hm]
theorem subF.look {t t' : Fm} (h : subF t t') (i : Nat) (v : Value) (hv : look t' i = some v) : look t i = some v := subG.look h i v rfl hv

/-! ### 2. Judgements -/
def FF (r : Option Nat) : Fence := { fn := fun _ => True, depth := none, alive := false, round := r }
theorem FF_none : FF none = Fence.wide := rfl
abbrev Post := Exit → Act → World → Prop
def JL (P : Program) (r : Option Nat) (N : Nat) (ds : List Deferred) (ops : Array Oper) (Q : Post) (l : List Oper) (t : Fm) (M : World → Prop) : Prop :=
  ∀ a w, Fr N ds t a → M w → wpListIn (FF r) 0 P ops Q l a w
def JC (P : Program) (r : Option Nat) (N : Nat) (ds : List Deferred) (c : Code) (Q : Post) (t : Fm) (M : World → Prop) : Prop :=
  ∀ a w, Fr N ds t a → M w → c.wpIn (FF r) 0 P Q a w
def JX (N : Nat) (ds : List Deferred) (e : Exit) (Q : Post) (t : Fm) (M : World → Prop) : Prop :=
  ∀ a w, Fr N ds t a → M w → Q e a w
def Then (P : Program) (r : Option Nat) (y : Code) (Q : Post) : Post := Exit.then (fun a w => y.wpIn (FF r) 0 P Q a w) Q

section structural
variable {P : Program} {r : Option Nat} {N : Nat} {ds : List Deferred} {ops : Array Oper} {Q : Post} {t : Fm} {M : World → Prop}

theorem JC_seq {x y : Code} (h : JC P r N ds x (Then P r y Q) t M) : JC P r N ds (.seq x y) Q t M := fun a w ha hw => wpIn_seq (h a w ha hw)
theorem JC_skip (h : JX N ds .normal Q t M) : JC P r N ds .skip Q t M := fun a w ha hw => wpIn_skip (h a w ha hw)
theorem JC_exit {id : Nat} (h : JX N ds (.exit id) Q t M) : JC P r N ds (.exit id) Q t M := fun a w ha hw => wpIn_exit (h a w ha hw)
theorem JC_ret (h : JX N ds .ret Q t M) : JC P r N ds .ret Q t M := fun a w ha hw => wpIn_ret (h a w ha hw)
theorem JC_block {id : Nat} {c : Code} (h : JC P r N ds c (Exit.inBlock id Q) t M) : JC P r N ds (.block id c) Q t M := fun a w ha hw => wpIn_block (h a w ha hw)
theorem JC_region {id : Nat} {l : List Oper} (h : JL P r N ds l.toArray Q l t M) : JC P r N ds (.region id l.toArray false) Q t M :=
  fun a w ha hw => wpIn_region_lit (h a w ha hw)
theorem JC_cond {c : Operand} {x y : Code} (b : Bool) (hc : ev t c = some (.bool b)) (h1 : b = true → JC P r N ds x Q t M) (h2 : b = false → JC P r N ds y Q t M) :
    JC P r N ds (.cond c x y) Q t M := fun a w ha hw =>
  wpIn_cond_split (ha.eval hc) (fun h => h1 h a w ha hw) (fun h => h2 h a w ha hw)
theorem exists_least (p : Nat → Prop) (h : ∃ n, p n) : ∃ n, p n ∧ ∀ m, p m → n ≤ m := by
  obtain ⟨n, hn⟩ := h
  induction n using Nat.strongRecOn with
  | _ n ih =>
    by_cases h2 : ∃ m, m < n ∧ p m
    · obtain ⟨m, hm, hpm⟩ := h2
      exact ih m hm hpm
    · exact ⟨n, hn, fun m hm => Nat.le_of_not_lt fun hlt => h2 ⟨m, hlt, hm⟩⟩
open Classical in
noncomputable def least (p : Nat → Prop) : Nat := if h : ∃ n, p n then Classical.choose (exists_least p h) else 0
theorem least_spec {p : Nat → Prop} (h : ∃ n, p n) : p (least p) ∧ ∀ m, p m → least p ≤ m := by
  unfold least
  rw [dif_pos h]
  exact Classical.choose_spec (exists_least p h)
theorem JC_loop {c : Code} {α : Type} (T : α → Fm) (MM : α → World → Prop) (μ : α → Nat) (x0 : α) (hT : subF t (T x0)) (hM : ∀ w, M w → MM x0 w)
    (h : ∀ x, JC P r N ds c (Exit.then (fun a w => ∃ y, μ y < μ x ∧ Fr N ds (T y) a ∧ MM y w) Q) (T x) (MM x)) : JC P r N ds (.loop c) Q t M := fun a w ha hw => by
  refine wpIn_loop (fun a w => ∃ x, Fr N ds (T x) a ∧ MM x w) (fun a w => least (fun k => ∃ x, μ x = k ∧ Fr N ds (T x) a ∧ MM x w)) ⟨x0, ha.weak hT.look, hM w hw⟩ ?_
  rintro a w ⟨x, hx1, hx2⟩
  have hp : ∃ k, ∃ x, μ x = k ∧ Fr N ds (T x) a ∧ MM x w := ⟨_, x, rfl, hx1, hx2⟩
  obtain ⟨⟨z, hz1, hz2, hz3⟩, _⟩ := least_spec hp
  refine wpIn_mono (h z a w hz2 hz3) ?_
  intro e a' w' q
  cases e with
  | normal =>
    obtain ⟨y, hy1, hy2, hy3⟩ := q
    refine ⟨⟨y, hy2, hy3⟩, ?_⟩
    have hl := (least_spec (p := fun k => ∃ x, μ x = k ∧ Fr N ds (T x) a' ∧ MM x w') ⟨_, y, rfl, hy2, hy3⟩).2 _ ⟨y, rfl, hy2, hy3⟩
    show least _ < least _
    rw [← hz1]
    exact Nat.lt_of_le_of_lt hl hy1
  | _ => exact q
/-- what a statement leaves is told anew -/
theorem JC_cut {c : Code} {α : Type} (T : α → Fm) (MM : α → World → Prop) {K : Act → World → Prop}
    (h : JC P r N ds c (Exit.then (fun a w => ∃ y, Fr N ds (T y) a ∧ MM y w) Q) t M) (hK : ∀ y a w, Fr N ds (T y) a → MM y w → K a w) : JC P r N ds c (Exit.then K Q) t M := fun a w ha hw => by
  refine wpIn_mono (h a w ha hw) ?_
  intro e a' w' q
  cases e with
  | normal => obtain ⟨y, h1, h2⟩ := q; exact hK y _ _ h1 h2
  | _ => exact q
theorem JC_weak {c : Code} {t' : Fm} (h : JC P r N ds c Q t' M) (hs : subF t t') : JC P r N ds c Q t M := fun a w ha hw => h a w (ha.weak hs.look) hw
theorem JC_mem {c : Code} {M' : World → Prop} (h : JC P r N ds c Q t M') (hM : ∀ w, M w → M' w) : JC P r N ds c Q t M := fun a w ha hw => h a w ha (hM w hw)
theorem JL_weak {l : List Oper} {t' : Fm} (h : JL P r N ds ops Q l t' M) (hs : subF t t') : JL P r N ds ops Q l t M := fun a w ha hw => h a w (ha.weak hs.look) hw
theorem JL_mem {l : List Oper} {M' : World → Prop} (h : JL P r N ds ops Q l t M') (hM : ∀ w, M w → M' w) : JL P r N ds ops Q l t M := fun a w ha hw => h a w ha (hM w hw)
theorem JL_nil (h : JX N ds .normal Q t M) : JL P r N ds ops Q [] t M := fun a w ha hw => wpListIn_nil (h a w ha hw)
/-! exits -/
theorem JX_then {y : Code} (h : JC P r N ds y Q t M) : JX N ds .normal (Then P r y Q) t M := h
theorem JX_then_exit {y : Code} {id : Nat} (h : JX N ds (.exit id) Q t M) : JX N ds (.exit id) (Then P r y Q) t M := h
theorem JX_then_ret {y : Code} (h : JX N ds .ret Q t M) : JX N ds .ret (Then P r y Q) t M := h
theorem JX_thenK {K : Act → World → Prop} (h : ∀ a w, Fr N ds t a → M w → K a w) : JX N ds .normal (Exit.then K Q) t M := h
theorem JX_thenK_exit {K : Act → World → Prop} {id : Nat} (h : JX N ds (.exit id) Q t M) : JX N ds (.exit id) (Exit.then K Q) t M := h
theorem JX_thenK_ret {K : Act → World → Prop} (h : JX N ds .ret Q t M) : JX N ds .ret (Exit.then K Q) t M := h
theorem JX_block {id : Nat} (h : JX N ds .normal Q t M) : JX N ds .normal (Exit.inBlock id Q) t M := h
theorem JX_block_ret {id : Nat} (h : JX N ds .ret Q t M) : JX N ds .ret (Exit.inBlock id Q) t M := h
theorem JX_block_exit {id : Nat} (h : JX N ds .normal Q t M) : JX N ds (.exit id) (Exit.inBlock id Q) t M := fun a w ha hw => by
  show (if id = id then Q .normal a w else Q (.exit id) a w)
  rw [if_pos rfl]; exact h a w ha hw
theorem JX_block_other {id id' : Nat} (hne : Nat.beq id' id = false) (h : JX N ds (.exit id') Q t M) : JX N ds (.exit id') (Exit.inBlock id Q) t M := fun a w ha hw => by
  show (if id' = id then Q .normal a w else Q (.exit id') a w)
  rw [if_neg (fun e => by subst e; rw [Nat.beq_refl] at hne; cases hne)]; exact h a w ha hw
end structural
end Go.Eng

set_option linter.unusedVariables false
namespace Go.Eng
open Go Go.RowKit

/-! ### 3. Memory -/
inductive Res where
  | blk (b : Nat) (o : Obj)
  | row (v : Value) (e : TypeId) (sz : Nat) (n : Nat) (xs : List Value)
def Res.foot : Res → Option Nat
  | .blk b _ => some b
  | .row v _ _ _ _ => v.ownBlock
def Res.holds (w : World) : Res → Prop
  | .blk b o => w.heap[b]? = some o
  | .row v e sz n xs => w.ownsRow 0 e sz v n xs
/-- apart from a block -/
def Res.apart (r : Res) (b : Nat) : Prop := r.foot = none ∨ r.foot ≠ some b

def Apart : List Res → Prop
  | [] => True
  | r :: L => (∀ b, r.foot = some b → ∀ r' ∈ L, r'.foot ≠ some b) ∧ Apart L

/-- w0: the world of the function's begin; E: the old blocks that it may write; Z: blocks that stand still from wz on; Z0: those of the begin; L: what is the call's own -/
structure Mem (w0 : World) (E Z0 Z : Nat → Prop) (wz : World) (L : List Res) (w : World) : Prop where
  os : w.os = w0.os
  tape : w.tape = w0.tape
  output : w.output = w0.output
  size0 : w0.heap.size ≤ wz.heap.size
  size : wz.heap.size ≤ w.heap.size
  base : ∀ b, b < w0.heap.size → ¬ E b → w.heap[b]? = w0.heap[b]?
  frz : ∀ b o, Z b → wz.heap[b]? = some o → w.heap[b]? = some o
  zb : ∀ b, Z b → Z0 b ∨ (w0.heap.size ≤ b ∧ b < wz.heap.size)
  zlt : ∀ b, Z0 b → b < w0.heap.size
  own : ∀ r ∈ L, r.holds w
  sep : ∀ r ∈ L, ∀ b, r.foot = some b → ¬ Z b ∧ (w0.heap.size ≤ b ∨ E b)
  nodup : Apart L

/-- frozen block -/
structure FB (Z : Nat → Prop) (wz : World) (b : Nat) (o : Obj) : Prop where
  z : Z b
  at_ : wz.heap[b]? = some o

/-- a block that can be read: own or frozen -/
inductive Has (Z : Nat → Prop) (wz : World) (L : List Res) (b : Nat) (o : Obj) : Prop where
  | own (h : Res.blk b o ∈ L) : Has Z wz L b o
  | frz (h : FB Z wz b o) : Has Z wz L b o

section
variable {w0 : World} {E Z0 Z : Nat → Prop} {wz : World} {L : List Res} {w : World}
theorem Mem.has (h : Mem w0 E Z0 Z wz L w) {b : Nat} {o : Obj} (hb : Has Z wz L b o) : w.heap[b]? = some o := by
  cases hb with
  | own hm => exact h.own _ hm
  | frz hf => exact h.frz _ _ hf.z hf.at_

theorem Res.holds_keep {r : Res} {w w' : World} (hb : ∀ b, r.foot = some b → w'.heap[b]? = w.heap[b]?) (h : r.holds w) : r.holds w' := by
  cases r with
  | blk b o => exact (hb b rfl).trans h
  | row v e sz n xs =>
    refine ⟨h.1, ?_⟩
    rcases h.2 with h2 | ⟨g, cap, cur, rfl, hg, hh, r⟩
    · exact .inl h2
    · exact .inr ⟨g, cap, cur, rfl, hg, (hb g rfl).trans hh, r⟩

/-- a new block -/
theorem Mem.alloc (h : Mem w0 E Z0 Z wz L w) (o : Obj) : Mem w0 E Z0 Z wz (.blk w.heap.size o :: L) (w.alloc o) := by
  have hlt : ∀ k, k < w.heap.size → (w.alloc o).heap[k]? = w.heap[k]? := fun k hk => Below.heap_alloc w o k hk
  have hfoot : ∀ r ∈ L, ∀ b, r.foot = some b → b < w.heap.size := by
    intro r hr b hb
    have hh := h.own r hr
    cases r with
    | blk b' o' =>
      cases hb
      exact (Array.getElem?_eq_some_iff.1 hh).1
    | row v e sz n xs =>
      rcases hh.2 with ⟨rfl, _⟩ | ⟨g, cap, cur, rfl, _, h3, _⟩
      · simp [Res.foot, Value.ownBlock] at hb
      · have : g = b := by simpa [Res.foot, Value.ownBlock] using hb
        subst this
        exact (Array.getElem?_eq_some_iff.1 h3).1
  refine ⟨h.os, h.tape, h.output, h.size0, ?_, ?_, ?_, h.zb, h.zlt, ?_, ?_, ?_⟩
  · have := h.size; simp; omega
  · intro b hb hE
    rw [hlt b (by have := h.size0; have := h.size; omega)]
    exact h.base b hb hE
  · intro b o' hz ho
    have := h.frz b o' hz ho
    rw [hlt b (Array.getElem?_eq_some_iff.1 this).1]
    exact this
  · intro r hr
    rcases List.mem_cons.1 hr with rfl | hr
    · exact heap_alloc_new w o
    · exact Res.holds_keep (fun b hb => hlt b (hfoot r hr b hb)) (h.own r hr)
  · intro r hr b hb
    rcases List.mem_cons.1 hr with rfl | hr
    · cases hb
      refine ⟨fun hz => ?_, .inl (by have := h.size0; have := h.size; omega)⟩
      rcases h.zb _ hz with h1 | h1
      · have := h.zlt _ h1; have := h.size0; have := h.size; omega
      · have := h.size; omega
    · exact h.sep r hr b hb
  · refine ⟨?_, h.nodup⟩
    intro b hb r' hr' hb'
    cases hb
    have := hfoot r' hr' _ hb'
    omega

/-- replacing what is held in one place: an own block turned -/
inductive Turn : List Res → Res → Res → List Res → Prop where
  | head (r r' : Res) (L : List Res) : Turn (r :: L) r r' (r' :: L)
  | tail {L L' : List Res} {r r' : Res} (x : Res) (h : Turn L r r' L') : Turn (x :: L) r r' (x :: L')
theorem Turn.mem {L L' : List Res} {r r' : Res} (h : Turn L r r' L') : r ∈ L := by
  induction h with
  | head => exact .head _
  | tail x _ ih => exact .tail _ ih
theorem Turn.mem' {L L' : List Res} {r r' : Res} (h : Turn L r r' L') : ∀ x ∈ L', x = r' ∨ x ∈ L := by
  induction h with
  | head r r' L => intro x hx; rcases List.mem_cons.1 hx with rfl | hx
                   · exact .inl rfl
                   · exact .inr (.tail _ hx)
  | tail y _ ih => intro x hx; rcases List.mem_cons.1 hx with rfl | hx
                   · exact .inr (.head _)
                   · exact (ih x hx).imp id (fun h => .tail _ h)
/-- the others of the list stand apart -/
theorem Turn.others {L L' : List Res} {r r' : Res} (h : Turn L r r' L') (hn : Apart L) : ∀ x ∈ L', x = r' ∨ (x ∈ L ∧ ∀ b, r.foot = some b → x.foot ≠ some b) := by
  induction h with
  | head r r' L =>
    intro x hx
    rcases List.mem_cons.1 hx with rfl | hx
    · exact .inl rfl
    · exact .inr ⟨.tail _ hx, fun b hb => hn.1 b hb x hx⟩
  | tail y ht ih =>
    intro x hx
    rcases List.mem_cons.1 hx with rfl | hx
    · refine .inr ⟨.head _, fun b hb hb' => ?_⟩
      exact hn.1 b hb' _ ht.mem hb
    · rcases ih hn.2 x hx with h1 | ⟨h1, h2⟩
      · exact .inl h1
      · exact .inr ⟨.tail _ h1, h2⟩
theorem Turn.apart {L L' : List Res} {r r' : Res} (h : Turn L r r' L') (hn : Apart L) (hf : ∀ b, r'.foot = some b → r.foot = some b ∨ ∀ x ∈ L, x.foot ≠ some b) : Apart L' := by
  induction h with
  | head r r' L =>
    refine ⟨fun b hb x hx => ?_, hn.2⟩
    rcases hf b hb with h1 | h1
    · exact hn.1 b h1 x hx
    · exact h1 x (.tail _ hx)
  | tail y ht ih =>
    refine ⟨fun b hb x hx => ?_, ih hn.2 (fun b hb => (hf b hb).imp id (fun h x hx => h x (.tail _ hx)))⟩
    rcases ht.mem' x hx with rfl | hx
    · intro hb'
      rcases hf b hb' with h1 | h1
      · exact hn.1 b hb _ ht.mem h1
      · exact h1 y (.head _) hb
    · exact hn.1 b hb x hx

/-- an own block is written: any world that differs there alone -/
theorem Mem.turn (h : Mem w0 E Z0 Z wz L w) {b : Nat} {o o' : Obj} {L' : List Res} (ht : Turn L (.blk b o) (.blk b o') L') {w' : World}
    (h1 : w'.os = w.os) (h2 : w'.tape = w.tape) (h3 : w'.output = w.output) (h4 : w'.heap.size = w.heap.size) (h5 : ∀ k, k ≠ b → w'.heap[k]? = w.heap[k]?) (h6 : w'.heap[b]? = some o') :
    Mem w0 E Z0 Z wz L' w' := by
  have hsep := h.sep _ ht.mem b rfl
  refine ⟨h1.trans h.os, h2.trans h.tape, h3.trans h.output, h.size0, by rw [h4]; exact h.size, ?_, ?_, h.zb, h.zlt, ?_, ?_, ?_⟩
  · intro k hk hE
    have hne : k ≠ b := fun e => by
      subst e
      rcases hsep.2 with h7 | h7
      · omega
      · exact hE h7
    rw [h5 k hne]
    exact h.base k hk hE
  · intro k o2 hz ho
    have hne : k ≠ b := fun e => by subst e; exact hsep.1 hz
    rw [h5 k hne]
    exact h.frz k o2 hz ho
  · intro r hr
    rcases ht.others h.nodup r hr with rfl | ⟨hr, hne⟩
    · exact h6
    · exact Res.holds_keep (fun k hk => h5 k (fun e => by subst e; exact hne _ rfl hk)) (h.own r hr)
  · intro r hr k hk
    rcases ht.mem' r hr with rfl | hr
    · cases hk; exact hsep
    · exact h.sep r hr k hk
  · exact ht.apart h.nodup (fun k hk => .inl hk)

/-- fewer things held -/
theorem Apart.sub {L L' : List Res} (hs : List.Sublist L' L) (h : Apart L) : Apart L' := by
  induction hs with
  | slnil => trivial
  | cons a _ ih => exact ih h.2
  | cons_cons a hs ih => exact ⟨fun b hb r hr => h.1 b hb r (hs.subset hr), ih h.2⟩
theorem Mem.sub (h : Mem w0 E Z0 Z wz L w) {L' : List Res} (hs : List.Sublist L' L) : Mem w0 E Z0 Z wz L' w :=
  ⟨h.os, h.tape, h.output, h.size0, h.size, h.base, h.frz, h.zb, h.zlt, fun r hr => h.own r (hs.subset hr), fun r hr => h.sep r (hs.subset hr), h.nodup.sub hs⟩

/-- the world alone is drawn on -/
theorem Mem.drew (h : Mem w0 E Z0 Z wz L w) : Mem w0 E Z0 Z wz L w.drew :=
  ⟨h.os, h.tape, h.output, h.size0, h.size, h.base, h.frz, h.zb, h.zlt, h.own, h.sep, h.nodup⟩

/-- THE BEGIN -/
theorem Mem.start (w0 : World) (E Z0 : Nat → Prop) (hz : ∀ b, Z0 b → b < w0.heap.size) : Mem w0 E Z0 Z0 w0 [] w0 :=
  ⟨rfl, rfl, rfl, Nat.le_refl _, Nat.le_refl _, fun _ _ _ => rfl, fun _ _ _ h => h, fun _ h => .inl h, hz, fun _ h => (by cases h), fun _ h => (by cases h), trivial⟩

/-- what a call that leaves all old memory alone makes of it; its own new blocks stand still from here on -/
def Znew (Z : Nat → Prop) (w w' : World) : Nat → Prop := fun b => Z b ∨ (w.heap.size ≤ b ∧ b < w'.heap.size)
theorem Mem.call (h : Mem w0 E Z0 Z wz L w) {w' : World} (hk : Below w.heap.size w w') : Mem w0 E Z0 (Znew Z w w') w' L w' := by
  have hfoot : ∀ r ∈ L, ∀ b, r.foot = some b → b < w.heap.size := by
    intro r hr b hb
    have hh := h.own r hr
    cases r with
    | blk b' o' =>
      cases hb
      exact (Array.getElem?_eq_some_iff.1 hh).1
    | row v e sz n xs =>
      rcases hh.2 with ⟨rfl, _⟩ | ⟨g, cap, cur, rfl, _, h3, _⟩
      · simp [Res.foot, Value.ownBlock] at hb
      · have : g = b := by simpa [Res.foot, Value.ownBlock] using hb
        subst this
        exact (Array.getElem?_eq_some_iff.1 h3).1
  have hs := h.size
  have hs0 := h.size0
  have hsz := hk.size
  refine ⟨hk.os.trans h.os, hk.tape.trans h.tape, hk.output.trans h.output, by omega, Nat.le_refl _, ?_, fun _ _ _ h => h, ?_, h.zlt, ?_, ?_, h.nodup⟩
  · intro b hb hE
    rw [hk.block b (by omega)]
    exact h.base b hb hE
  · intro b hb
    rcases hb with hb | hb
    · rcases h.zb b hb with h1 | h1
      · exact .inl h1
      · exact .inr ⟨h1.1, by omega⟩
    · exact .inr ⟨by omega, hb.2⟩
  · intro r hr
    exact Res.holds_keep (fun b hb => hk.block b (hfoot r hr b hb)) (h.own r hr)
  · intro r hr b hb
    have hlt := hfoot r hr b hb
    refine ⟨?_, (h.sep r hr b hb).2⟩
    rintro (hz | hz)
    · exact (h.sep r hr b hb).1 hz
    · omega

/-- from one place of standing still to a later one -/
structure Ext (Z : Nat → Prop) (wz : World) (Z' : Nat → Prop) (wz' : World) : Prop where
  fb : ∀ b o, FB Z wz b o → FB Z' wz' b o
theorem Mem.ext_call (h : Mem w0 E Z0 Z wz L w) {w' : World} (hk : Below w.heap.size w w') : Ext Z wz (Znew Z w w') w' := ⟨fun b o hf => by
  have := h.frz b o hf.z hf.at_
  exact ⟨.inl hf.z, (hk.block b (Array.getElem?_eq_some_iff.1 this).1).trans this⟩⟩
theorem Ext.trans {Z Z1 Z2 : Nat → Prop} {w w1 w2 : World} (h : Ext Z w Z1 w1) (k : Ext Z1 w1 Z2 w2) : Ext Z w Z2 w2 := ⟨fun b o hf => k.fb b o (h.fb b o hf)⟩
theorem Ext.refl (Z : Nat → Prop) (w : World) : Ext Z w Z w := ⟨fun _ _ h => h⟩

/-- one thing struck from the list -/
inductive Del : List Res → Res → List Res → Prop where
  | head (r : Res) (L : List Res) : Del (r :: L) r L
  | tail {L L' : List Res} {r : Res} (x : Res) (h : Del L r L') : Del (x :: L) r (x :: L')
theorem Del.mem {L L' : List Res} {r : Res} (h : Del L r L') : r ∈ L := by
  induction h with
  | head => exact .head _
  | tail x _ ih => exact .tail _ ih
theorem Del.sub {L L' : List Res} {r : Res} (h : Del L r L') : List.Sublist L' L := by
  induction h with
  | head => exact List.sublist_cons_self _ _
  | tail x _ ih => exact ih.cons_cons x
theorem Del.others {L L' : List Res} {r : Res} (h : Del L r L') (hn : Apart L) : ∀ x ∈ L', ∀ b, r.foot = some b → x.foot ≠ some b := by
  induction h with
  | head r L => exact fun x hx b hb => hn.1 b hb x hx
  | tail y ht ih =>
    intro x hx b hb
    rcases List.mem_cons.1 hx with rfl | hx
    · exact fun hb' => hn.1 b hb' _ ht.mem hb
    · exact ih hn.2 x hx b hb

/-- an own block is left to stand still -/
theorem Mem.freeze (h : Mem w0 E Z0 Z wz L w) {r : Res} {b : Nat} {L' : List Res} (hr : r.foot = some b) (hd : Del L r L') (hb : w0.heap.size ≤ b) :
    Mem w0 E Z0 (fun k => Z k ∨ k = b) w L' w := by
  have hlt : b < w.heap.size := by
    have hh := h.own r hd.mem
    cases r with
    | blk b' o' => cases hr; exact (Array.getElem?_eq_some_iff.1 hh).1
    | row v e sz n xs =>
      rcases hh.2 with ⟨rfl, _⟩ | ⟨g, cap, cur, rfl, _, h3, _⟩
      · simp [Res.foot, Value.ownBlock] at hr
      · have : g = b := by simpa [Res.foot, Value.ownBlock] using hr
        subst this
        exact (Array.getElem?_eq_some_iff.1 h3).1
  have hs := h.size
  have hs0 := h.size0
  have hm := h.sub hd.sub
  refine ⟨h.os, h.tape, h.output, by omega, Nat.le_refl _, h.base, fun _ _ _ h => h, ?_, h.zlt, hm.own, ?_, hm.nodup⟩
  · rintro k (hk | rfl)
    · rcases h.zb k hk with h1 | h1
      · exact .inl h1
      · exact .inr ⟨h1.1, by omega⟩
    · exact .inr ⟨hb, hlt⟩
  · intro r' hr' k hk
    have := hm.sep r' hr' k hk
    refine ⟨?_, this.2⟩
    rintro (hz | rfl)
    · exact this.1 hz
    · exact hd.others h.nodup r' hr' k hr hk
theorem Mem.ext_freeze (h : Mem w0 E Z0 Z wz L w) (b : Nat) : Ext Z wz (fun k => Z k ∨ k = b) w := ⟨fun k o hf => ⟨.inl hf.z, h.frz k o hf.z hf.at_⟩⟩

/-- THE END of a call that writes no old block -/
theorem Mem.below (h : Mem w0 (fun _ => False) Z0 Z wz L w) : Below w0.heap.size w0 w :=
  ⟨h.os, h.tape, h.output, by have := h.size0; have := h.size; omega, fun k hk => h.base k hk (fun h => h)⟩
theorem Mem.znew (h : Mem w0 E Z0 Z wz L w) {b : Nat} (hz : Z b) : Znew Z0 w0 w b := by
  have := h.size
  rcases h.zb b hz with h1 | h1
  · exact .inl h1
  · exact .inr ⟨h1.1, by omega⟩
theorem Mem.ext_end (h : Mem w0 E Z0 Z wz L w) : Ext Z wz (Znew Z0 w0 w) w := ⟨fun b o hf => ⟨h.znew hf.z, h.frz b o hf.z hf.at_⟩⟩
end
end Go.Eng

set_option linter.unusedVariables false
set_option linter.unusedSimpArgs false
namespace Go.Eng
open Go Go.RowKit

section
variable {P : Program} {r : Option Nat} {N : Nat} {ds : List Deferred} {ops : Array Oper} {Q : Post} {t : Fm} {M : World → Prop} {rest : List Oper}

/-! ### 4. One operation -/
/-- what an operation yields in every world of a kind -/
def ValOf (P : Program) (N : Nat) (ds : List Deferred) (t : Fm) (M : World → Prop) (o : Oper) (v : Value) : Prop := ∀ a w, Fr N ds t a → M w → (execOp a.eval o).run P w = .ok (.value v) w
theorem JL_op {β : Type} {o : Oper} {d : Nat} (v : β → Value) (M' : β → World → Prop) (hg : o.guard = none) (hnd : ∀ c, o.op ≠ .defer c) (ho : o.dst = some d) (hd : d < N)
    (hrun : ∀ a w, Fr N ds t a → M w → ∃ x w', (execOp a.eval o).run P w = .ok (.value (v x)) w' ∧ M' x w')
    (h : ∀ x, JL P r N ds ops Q rest ((d, v x) :: t) (M' x)) : JL P r N ds ops Q (o :: rest) t M := fun a w ha hw => by
  refine wpListIn_plain hg fun K hK => ⟨fun _ _ => trivial, ?_⟩
  obtain ⟨x, w', hr, hM⟩ := hrun a w ha hw
  rw [Oper.semAt_eq _ _ _ hnd, hr]
  refine hK _ _ (h x _ w' ?_ hM)
  rw [ho]
  exact ha.put hd _
theorem JL_val {o : Oper} {d : Nat} (v : Value) (hg : o.guard = none) (hnd : ∀ c, o.op ≠ .defer c) (ho : o.dst = some d) (hd : d < N)
    (hrun : ∀ a w, Fr N ds t a → M w → (execOp a.eval o).run P w = .ok (.value v) w)
    (h : JL P r N ds ops Q rest ((d, v) :: t) M) : JL P r N ds ops Q (o :: rest) t M :=
  JL_op (β := Unit) (fun _ => v) (fun _ => M) hg hnd ho hd (fun a w ha hw => ⟨(), w, hrun a w ha hw, hw⟩) (fun _ => h)
theorem JL_v {d : Nat} {op : Op} {ty : TypeId} {pos : String} {aft : Array Edge} {v : Value} (hv : ValOf P N ds t M ⟨some d, op, ty, pos, aft, none⟩ v) (hnd : ∀ c, op ≠ .defer c) (hd : d < N)
    (h : JL P r N ds ops Q rest ((d, v) :: t) M) : JL P r N ds ops Q (⟨some d, op, ty, pos, aft, none⟩ :: rest) t M := JL_val v rfl hnd rfl hd hv h
/-- an operation that yields nothing -/
theorem JL_do {o : Oper} (M' : World → Prop) (hg : o.guard = none) (hnd : ∀ c, o.op ≠ .defer c) (ho : o.dst = none)
    (hrun : ∀ a w, Fr N ds t a → M w → ∃ w', (execOp a.eval o).run P w = .ok .skip w' ∧ M' w')
    (h : JL P r N ds ops Q rest t M') : JL P r N ds ops Q (o :: rest) t M := fun a w ha hw => by
  refine wpListIn_plain hg fun K hK => ⟨fun _ _ => trivial, ?_⟩
  obtain ⟨w', hr, hM⟩ := hrun a w ha hw
  rw [Oper.semAt_eq _ _ _ hnd, hr]
  refine hK _ _ (h _ w' ?_ hM)
  rw [ho]
  exact ha
/-- a guarded operation whose guard says yes -/
theorem JL_yes {d : Option Nat} {op : Op} {ty : TypeId} {pos : String} {aft : Array Edge} {j : Nat} {b : Bool} {gt : Nat}
    (hj : (ops[j]?).bind (·.dst) = some gt) (hb : look t gt = some (.bool b))
    (h : JL P r N ds ops Q (⟨d, op, ty, pos, aft, none⟩ :: rest) t M) : JL P r N ds ops Q (⟨d, op, ty, pos, aft, some (j, b)⟩ :: rest) t M := fun a w ha hw => by
  have hy : yielded ops a.tmps j = some b := by
    unfold yielded
    rw [hj]
    simp [ha.get _ _ hb]
  have h1 := h a w ha hw
  unfold wpListIn at h1 ⊢
  rw [if_pos (by simp [Region.wanted, hy])]
  rw [if_pos (by simp [Region.wanted])] at h1
  exact h1
/-- a guarded operation whose guard says no -/
theorem JL_no {d : Nat} {op : Op} {ty : TypeId} {pos : String} {aft : Array Edge} {j : Nat} {b : Bool} {gt : Nat}
    (hj : (ops[j]?).bind (·.dst) = some gt) (hb : look t gt = some (.bool (!b))) (hd : d < N)
    (h : JL P r N ds ops Q rest ((d, undef) :: t) M) : JL P r N ds ops Q (⟨some d, op, ty, pos, aft, some (j, b)⟩ :: rest) t M := fun a w ha hw => by
  have hy : yielded ops a.tmps j = some (!b) := by
    unfold yielded
    rw [hj]
    simp [ha.get _ _ hb]
  unfold wpListIn
  rw [if_neg (by simp [Region.wanted, hy])]
  exact ⟨fun _ _ => trivial, h _ w (ha.put hd _) hw⟩

variable {ty : TypeId} {pos : String} {aft : Array Edge} {d : Nat}

theorem vo_move {x : Operand} {v : Value} (hx : ev t x = some v) : ValOf P N ds t M ⟨some d, .move x, ty, pos, aft, none⟩ (v) := fun a w ha hw => by unfold execOp; simp only [ha.eval hx]; rfl
theorem vo_assign {x : Operand} {v : Value} (hx : ev t x = some v) : ValOf P N ds t M ⟨some d, .assign x, ty, pos, aft, none⟩ (v) := fun a w ha hw => by unfold execOp; simp only [ha.eval hx]; rfl
theorem vo_pick {c x y : Operand} {b : Bool} {v : Value} (hc : ev t c = some (.bool b)) (hv : (match b with | true => ev t x | false => ev t y) = some v) : ValOf P N ds t M ⟨some d, .pick c x y, ty, pos, aft, none⟩ (v) := fun a w ha hw => by
    unfold execOp
    simp only [ha.eval hc]
    cases b with
    | true => simp [asBool, ha.eval (show ev t x = some v from hv)]
    | false => simp [asBool, ha.eval (show ev t y = some v from hv)]
theorem vo_extract {x : Operand} {vs : Array Value} {i : Nat} {v : Value} (hx : ev t x = some (.tuple vs)) (hv : vs[i]? = some v) : ValOf P N ds t M ⟨some d, .extract x i, ty, pos, aft, none⟩ (v) := fun a w ha hw => by
    unfold execOp
    simp [ha.eval hx, Instr.extract, hv]
theorem vo_not {x : Operand} {b : Bool} {xt : TypeId} (hx : ev t x = some (.bool b)) : ValOf P N ds t M ⟨some d, .unOp .not xt x, ty, pos, aft, none⟩ (.bool (!b)) := fun a w ha hw => by
    unfold execOp
    simp [ha.eval hx, Op.unary]
theorem vo_nilCheck {x : Operand} {ad : Addr} (hx : ev t x = some (.pointer (some ad))) : ValOf P N ds t M ⟨some d, .nilCheck x, ty, pos, aft, none⟩ (.pointer (some ad)) := fun a w ha hw => by
    unfold execOp
    simp [ha.eval hx]
theorem vo_nilCheckF {x : Operand} {f : Nat} {fi ca : Array Value} (hx : ev t x = some (.func (.func f) fi ca)) : ValOf P N ds t M ⟨some d, .nilCheck x, ty, pos, aft, none⟩ (.func (.func f) fi ca) := fun a w ha hw => by
    unfold execOp
    simp [ha.eval hx]

/-! integers -/
theorem vo_cmp {op : BinOp} {xt yt : TypeId} {x y : Operand} {k : IntKind} {m n : Int} {c : Bool} (hx : ev t x = some (.int k m)) (hy : ev t y = some (.int k n))
    (hop : (match op with | .eql => some (m == n) | .neq => some (m != n) | .lss => some (decide (m < n)) | .leq => some (decide (m ≤ n)) | .gtr => some (decide (m > n)) | .geq => some (decide (m ≥ n)) | _ => none) = some c) :
    ValOf P N ds t M ⟨some d, .binOp op xt x y yt, ty, pos, aft, none⟩ (.bool c) := fun a w ha hw => by
    unfold execOp
    simp only [ha.eval hx, ha.eval hy]
    cases op <;> first | (cases hop; done) | (obtain rfl := Option.some.inj hop; simp [eqGuard, binOp, Op.intCmp])
theorem vo_arith {op : BinOp} {xt yt : TypeId} {x y : Operand} {k : IntKind} {m n c : Int} (hx : ev t x = some (.int k m)) (hy : ev t y = some (.int k n))
    (hop : (match op with | .add => some (k.wrap (m + n)) | .sub => some (k.wrap (m - n)) | .mul => some (k.wrap (m * n)) | _ => none) = some c) : ValOf P N ds t M ⟨some d, .binOp op xt x y yt, ty, pos, aft, none⟩ (.int k c) := fun a w ha hw => by
    unfold execOp
    simp only [ha.eval hx, ha.eval hy]
    cases op <;> first | (cases hop; done) | (obtain rfl := Option.some.inj hop; simp [eqGuard, binOp, Op.intArith])
/-- int, within bounds -/
theorem vo_add {xt yt : TypeId} {x y : Operand} {m n : Int} (hx : ev t x = some (.int .i64 m)) (hy : ev t y = some (.int .i64 n)) (h0 : -9223372036854775808 ≤ m + n) (h1 : m + n ≤ 9223372036854775807) :
    ValOf P N ds t M ⟨some d, .binOp .add xt x y yt, ty, pos, aft, none⟩ (.int .i64 (m + n)) :=
  vo_arith (op := .add) (c := m + n) hx hy (by simp only [IntWalk.i64_in (m + n) ⟨h0, h1⟩])
theorem vo_sub {xt yt : TypeId} {x y : Operand} {m n : Int} (hx : ev t x = some (.int .i64 m)) (hy : ev t y = some (.int .i64 n)) (h0 : -9223372036854775808 ≤ m - n) (h1 : m - n ≤ 9223372036854775807) :
    ValOf P N ds t M ⟨some d, .binOp .sub xt x y yt, ty, pos, aft, none⟩ (.int .i64 (m - n)) :=
  vo_arith (op := .sub) (c := m - n) hx hy (by simp only [IntWalk.i64_in (m - n) ⟨h0, h1⟩])
/-! strings -/
def blt (x y : ByteArray) : Bool := Op.bytesLess x.toList y.toList
def beq (x y : ByteArray) : Bool := x.toList == y.toList
theorem vo_scmp {op : BinOp} {xt yt : TypeId} {x y : Operand} {m n : ByteArray} {c : Bool} (hx : ev t x = some (.string m)) (hy : ev t y = some (.string n))
    (hop : (match op with | .eql => some (beq m n) | .neq => some (!beq m n) | .lss => some (blt m n) | .leq => some (blt m n || beq m n) | .gtr => some (!(blt m n || beq m n)) | .geq => some (!blt m n) | _ => none) = some c) :
    ValOf P N ds t M ⟨some d, .binOp op xt x y yt, ty, pos, aft, none⟩ (.bool c) := fun a w ha hw => by
    unfold execOp
    simp only [ha.eval hx, ha.eval hy]
    cases op <;> first | (cases hop; done) | (obtain rfl := Option.some.inj hop; simp [eqGuard, binOp, Op.stringOp, blt, beq])
theorem vo_concat {xt yt : TypeId} {x y : Operand} {m n : ByteArray} (hx : ev t x = some (.string m)) (hy : ev t y = some (.string n)) (hsz : m.size + n.size ≤ 9223372036854775807) : ValOf P N ds t M ⟨some d, .binOp .add xt x y yt, ty, pos, aft, none⟩ (.string (m ++ n)) := fun a w ha hw => by
    unfold execOp
    simp only [ha.eval hx, ha.eval hy]
    simp [eqGuard, binOp, run_string_add_sum w m n hsz]
theorem vo_lenS {x : Operand} {at0 : TypeId} {s : ByteArray} (hx : ev t x = some (.string s)) (hu : P.underlying at0 = some .string) : ValOf P N ds t M ⟨some d, .call { callee := .builtin .len, args := #[x], argTypes := #[at0] }, ty, pos, aft, none⟩ (.int .i64 s.size) := fun a w ha hw => by
    unfold execOp
    simp [resolve, invoke, builtin, Builtin.len_, ha.eval hx, run_underlying hu, goInt]
theorem vo_len {x : Operand} {at0 e : TypeId} {ao : Option Addr} {n c : Nat} (hx : ev t x = some (.slice ao n c)) (hu : P.underlying at0 = some (.slice e)) : ValOf P N ds t M ⟨some d, .call { callee := .builtin .len, args := #[x], argTypes := #[at0] }, ty, pos, aft, none⟩ (.int .i64 n) := fun a w ha hw => by
    unfold execOp
    simp [resolve, invoke, builtin, Builtin.len_, ha.eval hx, run_underlying hu, goInt]
theorem vo_min {x y : Operand} {ats : Array TypeId} {m n : Int} (hx : ev t x = some (.int .i64 m)) (hy : ev t y = some (.int .i64 n)) : ValOf P N ds t M ⟨some d, .call { callee := .builtin .min, args := #[x, y], argTypes := ats }, ty, pos, aft, none⟩ (.int .i64 (if n < m then n else m)) := fun a w ha hw => by
    unfold execOp
    simp [resolve, invoke, builtin, ha.eval hx, ha.eval hy, Builtin.min_, Builtin.min2]
theorem vo_max {x y : Operand} {ats : Array TypeId} {m n : Int} (hx : ev t x = some (.int .i64 m)) (hy : ev t y = some (.int .i64 n)) : ValOf P N ds t M ⟨some d, .call { callee := .builtin .max, args := #[x, y], argTypes := ats }, ty, pos, aft, none⟩ (.int .i64 (if n > m then n else m)) := fun a w ha hw => by
    unfold execOp
    simp [resolve, invoke, builtin, ha.eval hx, ha.eval hy, Builtin.max_, Builtin.max2]
/-! addresses -/
def fieldOff (P : Program) (s : TypeId) (i : Nat) : Option Nat :=
  match P.underlying s with
  | some (.struct fs) => (fs[i]?).bind fun f => if P.cellsOf f.type = 0 then none else if (P.info? f.type).isSome then some f.offset else none
  | _ => none
theorem run_fieldAt {w : World} {s i k b o : Nat} (hf : fieldOff P s i = some k) : (Instr.fieldAt s (.pointer (some ⟨b, o, none⟩)) i).run P w = .ok (.pointer (some ⟨b, o + k, none⟩)) w := by
  unfold fieldOff at hf
  cases hu : P.underlying s with
  | none => simp [hu] at hf
  | some dd =>
    cases dd with
    | struct fs =>
      simp only [hu] at hf
      cases hfi : fs[i]? with
      | none => simp [hfi] at hf
      | some f =>
        simp only [hfi, Option.bind_some] at hf
        split at hf
        · cases hf
        · rename_i hne
          split at hf
          · rename_i hs
            obtain ⟨inf, hinf⟩ := Option.isSome_iff_exists.1 hs
            obtain rfl := Option.some.inj hf
            have h0 : inf.size ≠ 0 := by simpa [Program.cellsOf, hinf] using hne
            have hadd : (⟨b, o, none⟩ : Addr).add f.offset = ⟨b, o + f.offset, none⟩ := Addr.add_mid b o f.offset
            simp [Instr.fieldAt, Sem.run_bind, run_underlying hu, hfi, Instr.sureAddr, fieldPlace, sizeOf, typeInfo, hinf, h0, hadd]
          · cases hf
    | _ => simp [hu] at hf
theorem vo_fieldAddr {s i k b o : Nat} {x : Operand} (hx : ev t x = some (.pointer (some ⟨b, o, none⟩))) (hf : fieldOff P s i = some k) : ValOf P N ds t M ⟨some d, .fieldAddr s x i, ty, pos, aft, none⟩ (.pointer (some ⟨b, o + k, none⟩)) := fun a w ha hw => by
    unfold execOp
    simp [ha.eval hx, run_fieldAt hf]
/-- an element of a slice -/
theorem vo_indexAddr {s e z b o n c : Nat} {k : IntKind} {i : Int} {x y : Operand} (hx : ev t x = some (.slice (some ⟨b, o, none⟩) n c)) (hy : ev t y = some (.int k i))
    (hu : P.underlying s = some (.slice e)) (hz : (P.info? e).map (·.size) = some z) (h0 : 0 ≤ i) (h1 : i < n) : ValOf P N ds t M ⟨some d, .indexAddr s x y, ty, pos, aft, none⟩ (.pointer (some ⟨b, o + i.toNat * z, none⟩)) := fun a w ha hw => by
    obtain ⟨inf, hinf, rfl⟩ := Option.map_eq_some_iff.1 hz
    unfold execOp
    simp [ha.eval hx, ha.eval hy, Instr.indexAt, asIntOf, run_underlying hu, h0, h1, sizeOf, typeInfo, hinf, Addr.add_mid]
/-- an element of an array that is pointed to -/
theorem vo_indexAddrA {s e z b o n : Nat} {k : IntKind} {i : Int} {x y : Operand} (hx : ev t x = some (.pointer (some ⟨b, o, none⟩))) (hy : ev t y = some (.int k i))
    (hu : P.underlying s = some (.array n e)) (hz : (P.info? e).map (·.size) = some z) (h0 : 0 ≤ i) (h1 : i < n) : ValOf P N ds t M ⟨some d, .indexAddr s x y, ty, pos, aft, none⟩ (.pointer (some ⟨b, o + i.toNat * z, none⟩)) := fun a w ha hw => by
    obtain ⟨inf, hinf, rfl⟩ := Option.map_eq_some_iff.1 hz
    unfold execOp
    simp [ha.eval hx, ha.eval hy, Instr.indexAt, asIntOf, run_underlying hu, Instr.sureAddr, h0, h1, sizeOf, typeInfo, hinf, Addr.add_mid]
theorem vo_makeFunc {fn : Fn} {fi ca : Array Operand} {vf vc : List Value} (h1 : fi.toList.mapM (ev t) = some vf) (h2 : ca.toList.mapM (ev t) = some vc) :
    ValOf P N ds t M ⟨some d, .makeFunc fn fi ca, ty, pos, aft, none⟩ (.func fn vf.toArray vc.toArray) := by
  have key : ∀ a, Fr N ds t a → ∀ (l : List Operand) (vs : List Value), l.mapM (ev t) = some vs → l.map a.eval = vs := by
    intro a ha l
    induction l with
    | nil => intro vs hv; simpa using hv
    | cons x l ih =>
      intro vs hv
      rw [List.mapM_cons] at hv
      cases hx : ev t x with
      | none => simp [hx] at hv
      | some u =>
        cases hl : l.mapM (ev t) with
        | none => simp [hx, hl] at hv
        | some us =>
          simp [hx, hl] at hv
          subst hv
          simp [ha.eval hx, ih us hl]
  intro a w ha hw
  unfold execOp
  have e1 : fi.map a.eval = vf.toArray := by rw [← key a ha _ _ h1]; exact (List.map_toArray (l := fi.toList) (f := a.eval)).symm ▸ by simp
  have e2 : ca.map a.eval = vc.toArray := by rw [← key a ha _ _ h2]; exact (List.map_toArray (l := ca.toList) (f := a.eval)).symm ▸ by simp
  simp [Instr.makeFunc, e1, e2]
end
end Go.Eng

set_option linter.unusedVariables false
set_option linter.unusedSimpArgs false
namespace Go.Eng
open Go Go.RowKit

/-- what a variable of a type reads as, in a block's cells -/
inductive PartAt (P : Program) (ty : TypeId) (cs : Array Value) (o : Nat) : Value → Prop
  | cell {d : TypeDesc} {v : Value} (hu : P.underlying ty = some d) (hd : d.isRow = false) (h : cs[o]? = some v) : PartAt P ty cs o v
  | agg {d : TypeDesc} {seg : List Value} (hu : P.underlying ty = some d) (hd : d.isRow = true) (hi : (P.info? ty).map (·.size) = some seg.length) (h : ∀ j u, seg[j]? = some u → cs[o + j]? = some u) : PartAt P ty cs o (.agg seg.toArray)

def setSeg : Array Value → Nat → List Value → Array Value
  | cs, _, [] => cs
  | cs, o, v :: l => setSeg (cs.setIfInBounds o v) (o + 1) l
theorem size_setSeg : ∀ (l : List Value) (cs : Array Value) (o : Nat), (setSeg cs o l).size = cs.size
  | [], _, _ => rfl
  | v :: l, cs, o => by rw [setSeg, size_setSeg l]; simp

section
variable {P : Program} {w : World}
theorem cell_cells {b o : Nat} {cs : Array Value} {te : TypeId} {fr : Nat × Nat} (h : w.heap[b]? = some (.cells cs te fr)) : w.cell? ⟨b, o, none⟩ = cs[o]? := cell_of_row w b o cs te fr h
theorem run_loadAt_part {b o : Nat} {ty : TypeId} {cs : Array Value} {te : TypeId} {fr : Nat × Nat} {v : Value} (h : w.heap[b]? = some (.cells cs te fr)) (hp : PartAt P ty cs o v) :
    (Instr.loadAt ty (.pointer (some ⟨b, o, none⟩))).run P w = .ok v w := by
  cases hp with
  | cell hu hd hc =>
    rename_i d
    have hagg : (isAgg ty).run P w = .ok false w := by
      unfold isAgg
      rw [Sem.run_bind, run_underlying hu w]
      cases d <;> simp_all
    have hcell : w.cell? ⟨b, o, none⟩ = some v := by rw [cell_cells h]; exact hc
    simp [Instr.loadAt, Instr.sureAddr, loadVar, Sem.run_bind, hagg, load, Sem.run, hcell]
  | agg hu hd hi hs =>
    exact run_loadAt_mid w b o ty _ _ (fun j u hu => by rw [cell_cells h]; exact hs j u hu) hu hd hi

theorem heap_setCells {b : Nat} {te : TypeId} : ∀ (l : List Value) (o : Nat) (w : World) (cs : Array Value), w.heap[b]? = some (.cells cs te (0, 0)) →
    (w.setCells b o l).heap[b]? = some (.cells (setSeg cs o l) te (0, 0)) ∧ (∀ k, k ≠ b → (w.setCells b o l).heap[k]? = w.heap[k]?) ∧ (w.setCells b o l).heap.size = w.heap.size ∧ (w.setCells b o l).os = w.os ∧ (w.setCells b o l).tape = w.tape ∧ (w.setCells b o l).output = w.output
  | [], o, w, cs, h => ⟨h, fun _ _ => rfl, rfl, rfl, rfl, rfl⟩
  | v :: l, o, w, cs, h => by
    have h1 : (w.setCell ⟨b, o, none⟩ v).heap[b]? = some (.cells (cs.setIfInBounds o v) te (0, 0)) := heap_setCell_same w b o cs te v h
    have h2 := heap_setCells l (o + 1) (w.setCell ⟨b, o, none⟩ v) _ h1
    refine ⟨h2.1, fun k hk => ?_, ?_, h2.2.2.2.1, h2.2.2.2.2.1, h2.2.2.2.2.2⟩
    · show ((w.setCell ⟨b, o, none⟩ v).setCells b (o + 1) l).heap[k]? = _
      rw [h2.2.1 k hk, heap_setCell_other w _ _ _ hk]
    · show ((w.setCell ⟨b, o, none⟩ v).setCells b (o + 1) l).heap.size = _
      rw [h2.2.2.1]
      simp [World.setCell]
theorem run_storeAt_part {b o : Nat} {ty : TypeId} {cs : Array Value} {te : TypeId} {v : Value} (h : w.heap[b]? = some (.cells cs te (0, 0))) (hi : (P.info? ty).map (·.size) = some v.cells.size)
    (h1 : ∀ u ∈ v.cells.toList, u.oneCell' = true) (hfit : o + v.cells.size ≤ cs.size) :
    (Instr.storeAt ty (.pointer (some ⟨b, o, none⟩)) v).run P w = .ok () (w.setCells b o v.cells.toList) := by
  have hlen : v.cells.toList.length = v.cells.size := Array.length_toList
  have := run_storeCells_cells (P := P) b o v.cells.toList 0 w (fun j hj => by
      rw [cell_cells h, Array.getElem?_eq_getElem (by omega)]; rfl) (fun j hj => frozen_of_row w b _ cs te h) h1
  cases hq : P.info? ty with
  | none => simp [hq] at hi
  | some i =>
    have hs : v.cells.size = i.size := by simp [hq] at hi; omega
    simp only [Nat.add_zero] at this
    simp only [Instr.storeAt, Instr.sureAddr, Sem.run_bind, Sem.run_pure, Result.andThen_ok, storeVar, sizeOf, typeInfo, run_program, hq]
    simp [hs, this]
end

section
variable {P : Program} {r : Option Nat} {N : Nat} {ds : List Deferred} {ops : Array Oper} {Q : Post} {t : Fm} {rest : List Oper}
variable {w0 : World} {E Z0 Z : Nat → Prop} {wz : World} {L : List Res}
variable {ty : TypeId} {pos : String} {aft : Array Edge} {d : Nat}

theorem vo_load {lt : TypeId} {x : Operand} {b o : Nat} {cs : Array Value} {te : TypeId} {fr : Nat × Nat} {v : Value} (hx : ev t x = some (.pointer (some ⟨b, o, none⟩)))
    (hb : Has Z wz L b (.cells cs te fr)) (hp : PartAt P lt cs o v) : ValOf P N ds t (Mem w0 E Z0 Z wz L) ⟨some d, .load lt x, ty, pos, aft, none⟩ (v) := fun a w ha hw => by
    unfold execOp
    simp [ha.eval hx, run_loadAt_part (hw.has hb) hp]
theorem st_store {lt : TypeId} {x y : Operand} {b o : Nat} {cs cs' : Array Value} {te : TypeId} {v : Value} {L' : List Res} (hx : ev t x = some (.pointer (some ⟨b, o, none⟩))) (hy : ev t y = some v)
    (hi : (P.info? lt).map (·.size) = some v.cells.size) (h1 : ∀ u ∈ v.cells.toList, u.oneCell' = true)
    (ht : Turn L (.blk b (.cells cs te (0, 0))) (.blk b (.cells cs' te (0, 0))) L') (hfit : o + v.cells.size ≤ cs.size) (hcs : setSeg cs o v.cells.toList = cs')
    (h : JL P r N ds ops Q rest t (Mem w0 E Z0 Z wz L')) : JL P r N ds ops Q (⟨none, .store lt x y, ty, pos, aft, none⟩ :: rest) t (Mem w0 E Z0 Z wz L) :=
  JL_do _ rfl nofun rfl (fun a w ha hw => by
    have hh : w.heap[b]? = some (.cells cs te (0, 0)) := hw.own _ ht.mem
    have hc := heap_setCells v.cells.toList o w cs hh
    refine ⟨w.setCells b o v.cells.toList, ?_, hw.turn ht hc.2.2.2.1 hc.2.2.2.2.1 hc.2.2.2.2.2 hc.2.2.1 hc.2.1 (by rw [hc.1, hcs])⟩
    unfold execOp
    simp [ha.eval hx, ha.eval hy, run_storeAt_part hh hi h1 hfit]) h
theorem st_box {et : TypeId} {x : Operand} {v : Value} (hx : ev t x = some v) (hd : d < N)
    (h : ∀ b, JL P r N ds ops Q rest ((d, .pointer (some ⟨b, 0, none⟩)) :: t) (Mem w0 E Z0 Z wz (.blk b (.cells v.cells et (0, 0)) :: L))) :
    JL P r N ds ops Q (⟨some d, .box et x, ty, pos, aft, none⟩ :: rest) t (Mem w0 E Z0 Z wz L) :=
  JL_op (β := Nat) (fun b => .pointer (some ⟨b, 0, none⟩)) (fun b => Mem w0 E Z0 Z wz (.blk b (.cells v.cells et (0, 0)) :: L)) rfl nofun rfl hd (fun a w ha hw => by
    refine ⟨w.heap.size, w.alloc (.cells v.cells et), ?_, hw.alloc _⟩
    unfold execOp
    simp [ha.eval hx, Instr.box, newVar, newRow]) h
theorem st_alloc {et : TypeId} {z : Value} (hz : (P.info? et).bind (·.zero) = some z) (hd : d < N)
    (h : ∀ b, JL P r N ds ops Q rest ((d, .pointer (some ⟨b, 0, none⟩)) :: t) (Mem w0 E Z0 Z wz (.blk b (.cells z.cells et (0, 0)) :: L))) :
    JL P r N ds ops Q (⟨some d, .alloc et, ty, pos, aft, none⟩ :: rest) t (Mem w0 E Z0 Z wz L) :=
  JL_op (β := Nat) (fun b => .pointer (some ⟨b, 0, none⟩)) (fun b => Mem w0 E Z0 Z wz (.blk b (.cells z.cells et (0, 0)) :: L)) rfl nofun rfl hd (fun a w ha hw => by
    obtain ⟨inf, hinf, hz'⟩ := Option.bind_eq_some_iff.1 hz
    refine ⟨w.heap.size, w.alloc (.cells z.cells et), ?_, hw.alloc _⟩
    unfold execOp
    simp [Instr.alloc, zeroValue, typeInfo, hinf, hz', newVar, newRow]) h
def evParts (t : Fm) : List (Nat × Operand) → Option (List (Nat × Value))
  | [] => some []
  | p :: l => match ev t p.2, evParts t l with
    | some v, some vs => some ((p.1, v) :: vs)
    | _, _ => none
theorem evParts_eval {a : Act} (ha : Fr N ds t a) : ∀ (l : List (Nat × Operand)) (vs : List (Nat × Value)), evParts t l = some vs → l.map (fun p => (p.1, a.eval p.2)) = vs
  | [], vs, h => by simpa [evParts] using h
  | p :: l, vs, h => by
    unfold evParts at h
    cases h1 : ev t p.2 with
    | none => simp [h1] at h
    | some v =>
      cases h2 : evParts t l with
      | none => simp [h1, h2] at h
      | some us =>
        simp [h1, h2] at h
        subst h
        simp [ha.eval h1, evParts_eval ha l us h2]
theorem vo_build {bt : TypeId} {l : List (Nat × Operand)} {vs : List (Nat × Value)} {cells : Array Value} {M : World → Prop} (hl : evParts t l = some vs) (hb : P.built bt vs = some cells) :
    ValOf P N ds t M ⟨some d, .build bt l.toArray, ty, pos, aft, none⟩ (.agg cells) := fun a w ha hw => by
    unfold execOp
    have he := evParts_eval ha l vs hl
    have := run_build (P := P) w bt vs.toArray cells (by simpa using hb)
    simp [he, this]

/-! a block of new elements -/
def evOps (t : Fm) : List Operand → Option (List Value)
  | [] => some []
  | p :: l => match ev t p, evOps t l with
    | some v, some vs => some (v :: vs)
    | _, _ => none
theorem evOps_eval {a : Act} (ha : Fr N ds t a) : ∀ (l : List Operand) (vs : List Value), evOps t l = some vs → l.map a.eval = vs
  | [], vs, h => by simpa [evOps] using h
  | p :: l, vs, h => by
    unfold evOps at h
    cases h1 : ev t p with
    | none => simp [h1] at h
    | some v =>
      cases h2 : evOps t l with
      | none => simp [h1, h2] at h
      | some us =>
        simp [h1, h2] at h
        subst h
        simp [ha.eval h1, evOps_eval ha l us h2]

/-! ### calls -/
/-- a call that leaves old memory alone -/
def PCalls (P : Program) (f : FuncId) (args : Array Value) (w : World) (Z : Nat → Prop) (R : (Nat → Prop) → World → Value → Prop) : Prop :=
  Calls P f args w fun e w' => ∃ v, e = .returned v ∧ Below w.heap.size w w' ∧ R (Znew Z w w') w' v
theorem JL_calls {o : Oper} {d f : Nat} {vs : Array Value} {R : Ending → World → Prop} {M : World → Prop} {β : Type} (val : β → Value) (M' : β → World → Prop) (hg : o.guard = none) (hnd : ∀ c, o.op ≠ .defer c) (ho : o.dst = some d) (hd : d < N)
    (hrun : ∀ a w, Fr N ds t a → M w → (execOp a.eval o).run P w = .ok (.enter f vs) w)
    (hc : ∀ w, M w → Calls P f vs w fun e w' => ∃ x, e = .returned (val x) ∧ M' x w')
    (h : ∀ x, JL P r N ds ops Q rest ((d, val x) :: t) (M' x)) : JL P r N ds ops Q (o :: rest) t M := fun a w ha hw => by
  refine wpListIn_plain hg fun K hK => ⟨fun _ _ => trivial, ?_⟩
  rw [Oper.semAt_eq _ _ _ hnd, hrun a w ha hw]
  show (_ → _) ∧ _
  refine ⟨fun hh => (by cases hh), ?_⟩
  have h1 := (callsIn_wide (n := 0 - 1)).2 (hc w hw)
  have h2 : CallsIn (FF r) (0 - 1) P f vs w fun e w' => ∃ x, e = .returned (val x) ∧ M' x w' := h1
  refine h2.mono ?_
  rintro e w' ⟨x, rfl, hM⟩
  refine hK _ _ (h x _ w' ?_ hM)
  rw [ho]
  exact ha.put hd _
theorem run_enter {f : FuncId} {fn : Func} {w : World} (hf : P.funcs[f]? = some fn) (hn : (fn.name == "runtime.NumGoroutine") = false) (hb : fn.body.isSome = true) (vs : Array Value) :
    (callFunc f vs).run P w = .ok (.enter f vs) w := by
  have h1 : fn.name ≠ "runtime.NumGoroutine" := by simpa using hn
  have h2 : fn.body ≠ none := by intro h; simp [h] at hb
  simp [callFunc, hf, h1, h2]
/-- a function that can be entered -/
def Enters (P : Program) (f : FuncId) : Prop := ∃ fn, P.funcs[f]? = some fn ∧ (fn.name == "runtime.NumGoroutine") = false ∧ fn.body.isSome = true
theorem st_call {f : FuncId} {l : List Operand} {ats : Array TypeId} {vs : List Value} {M : World → Prop} {β : Type} (val : β → Value) (M' : β → World → Prop) (hl : evOps t l = some vs) (he : Enters P f) (hd : d < N)
    (hc : ∀ w, M w → Calls P f vs.toArray w fun e w' => ∃ x, e = .returned (val x) ∧ M' x w')
    (h : ∀ x, JL P r N ds ops Q rest ((d, val x) :: t) (M' x)) :
    JL P r N ds ops Q (⟨some d, .call { callee := .value (.func f), args := l.toArray, argTypes := ats }, ty, pos, aft, none⟩ :: rest) t M :=
  JL_calls (f := f) (vs := vs.toArray) (R := fun _ _ => True) val M' rfl nofun rfl hd (fun a w ha hw => by
    obtain ⟨fn, hf, hn, hb⟩ := he
    have h2 := evOps_eval ha l vs hl
    unfold execOp
    simp [resolve, Deferred.ofValue, Act.eval, invoke, h2, run_enter hf hn hb]) hc h
/-- a call of a function that leaves old memory alone: what is known goes on in the new standing world -/
theorem st_pcall {f : FuncId} {l : List Operand} {ats : Array TypeId} {vs : List Value} {R : (Nat → Prop) → World → Value → Prop} (hl : evOps t l = some vs) (he : Enters P f) (hd : d < N)
    (hc : ∀ w, Mem w0 E Z0 Z wz L w → PCalls P f vs.toArray w Z R)
    (h : ∀ v Z' wz', Ext Z wz Z' wz' → R Z' wz' v → JL P r N ds ops Q rest ((d, v) :: t) (Mem w0 E Z0 Z' wz' L)) :
    JL P r N ds ops Q (⟨some d, .call { callee := .value (.func f), args := l.toArray, argTypes := ats }, ty, pos, aft, none⟩ :: rest) t (Mem w0 E Z0 Z wz L) :=
  st_call (β := { x : Value × (Nat → Prop) × World // Ext Z wz x.2.1 x.2.2 ∧ R x.2.1 x.2.2 x.1 }) (fun x => x.1.1) (fun x => Mem w0 E Z0 x.1.2.1 x.1.2.2 L) hl he hd
    (fun w hw => (hc w hw).mono fun e w' ⟨v, he', hb, hR⟩ => ⟨⟨(v, _, w'), hw.ext_call hb, hR⟩, he', hw.call hb⟩)
    (fun x => h _ _ _ x.2.1 x.2.2)
/-- a call of a function value that is a closure -/
theorem st_callF {fo : Operand} {f : FuncId} {ca : Array Value} {l : List Operand} {ats : Array TypeId} {vs : List Value} {M : World → Prop} {β : Type} (val : β → Value) (M' : β → World → Prop)
    (hfo : ev t fo = some (.func (.func f) #[] ca)) (hl : evOps t l = some vs) (he : Enters P f) (hd : d < N)
    (hc : ∀ w, M w → Calls P f (vs.toArray ++ ca) w fun e w' => ∃ x, e = .returned (val x) ∧ M' x w')
    (h : ∀ x, JL P r N ds ops Q rest ((d, val x) :: t) (M' x)) :
    JL P r N ds ops Q (⟨some d, .call { callee := .value fo, args := l.toArray, argTypes := ats }, ty, pos, aft, none⟩ :: rest) t M :=
  JL_calls (f := f) (vs := vs.toArray ++ ca) (R := fun _ _ => True) val M' rfl nofun rfl hd (fun a w ha hw => by
    obtain ⟨fn, hf, hn, hb⟩ := he
    have h2 := evOps_eval ha l vs hl
    unfold execOp
    simp [resolve, Deferred.ofValue, ha.eval hfo, invoke, h2, run_enter hf hn hb]) hc h

/-! ### entering and leaving a function -/
def startF (args : Array Value) : Fm → Prop
  | [] => True
  | p :: l => args[p.1]? = some p.2 ∧ startF args l
theorem startF.look {args : Array Value} : ∀ {t : Fm}, startF args t → ∀ i v, look t i = some v → args[i]? = some v
  | [], _, i, v, h => by simp [Eng.look] at h
  | p :: l, hs, i, v, h => by
    by_cases hi : p.1 = i
    · subst hi
      rw [show p :: l = (p.1, p.2) :: l from rfl, look_cons_eq] at h
      obtain rfl := Option.some.inj h
      exact hs.1
    · rw [show p :: l = (p.1, p.2) :: l from rfl, look_cons_ne hi] at h
      exact startF.look hs.2 i v h
theorem enter {f : FuncId} {fn : Func} {c : Code} {args : Array Value} {R : Ending → World → Prop} {M : World → Prop} (hf : P.funcs[f]? = some fn) (hb : fn.body = some c) (hN : fn.ntmps = N) (ha : args.size ≤ N) (t : Fm) (ht : startF args t) (hM : M w0)
    (h : JC P none N [] c (bodyPost P fn R) t M) : Calls P f args w0 R := by
  refine callsIn_wide.1 (callsIn_of_wp (n := 0) (F := Fence.wide) hf hb trivial (h _ _ ⟨?_, rfl, ?_⟩ hM) rfl)
  · simp [hN]; omega
  · intro i v hv
    have := ht.look i v hv
    have hlt := (Array.getElem?_eq_some_iff.1 this).1
    show (args ++ Array.replicate _ undef)[i]? = some v
    rw [Array.getElem?_append_left hlt]
    exact this
theorem ret0 {fn : Func} {R : Ending → World → Prop} {M : World → Prop} (hres : fn.results = #[]) (h : ∀ w, M w → R (.returned (.tuple #[])) w) : JX N [] .ret (bodyPost P fn R) t M :=
  fun a w ha hw => ⟨ha.defers, _, results_none hres a.tmps P w, h w hw⟩
theorem end0 {fn : Func} {R : Ending → World → Prop} {M : World → Prop} (hres : fn.results = #[]) (h : ∀ w, M w → R (.returned (.tuple #[])) w) : JX N [] .normal (bodyPost P fn R) t M :=
  fun a w ha hw => ⟨ha.defers, _, results_none hres a.tmps P w, h w hw⟩
theorem ret1 {fn : Func} {R : Ending → World → Prop} {M : World → Prop} {i : Nat} {v : Value} (hres : fn.results = #[.tmp i]) (hv : look t i = some v) (h : ∀ w, M w → R (.returned v) w) : JX N [] .ret (bodyPost P fn R) t M :=
  fun a w ha hw => ⟨ha.defers, v, by rw [results_tmp hres a.tmps P w, Array.getD_eq_getD_getElem?, ha.get i v hv]; rfl, h w hw⟩
theorem ret2 {fn : Func} {R : Ending → World → Prop} {M : World → Prop} {i j : Nat} {v u : Value} (hres : fn.results = #[.tmp i, .tmp j]) (hv : look t i = some v) (hu : look t j = some u) (h : ∀ w, M w → R (.returned (.tuple #[v, u])) w) : JX N [] .ret (bodyPost P fn R) t M :=
  fun a w ha hw => ⟨ha.defers, .tuple #[v, u], by rw [results_tmp2 hres a.tmps P w, Array.getD_eq_getD_getElem?, ha.get i v hv, Array.getD_eq_getD_getElem?, ha.get j u hu]; rfl, h w hw⟩
/-- the end of a call that leaves old memory alone -/
theorem PC_end {f : FuncId} {args : Array Value} {R : (Nat → Prop) → World → Value → Prop} {v : Value} {w : World} (h : Mem w0 (fun _ => False) Z0 Z wz L w) (hR : Ext Z wz (Znew Z0 w0 w) w → R (Znew Z0 w0 w) w v) :
    ∃ v', Ending.returned v = .returned v' ∧ Below w0.heap.size w0 w ∧ R (Znew Z0 w0 w) w v' := ⟨v, rfl, h.below, hR h.ext_end⟩
end
end Go.Eng

set_option linter.unusedVariables false
set_option linter.unusedSimpArgs false
namespace Go.Eng
open Go Go.RowKit
section
variable {P : Program} {r : Option Nat} {N : Nat} {ds : List Deferred} {ops : Array Oper} {Q : Post} {t : Fm} {rest : List Oper}
variable {w0 : World} {E Z0 Z : Nat → Prop} {wz : World} {L : List Res}
variable {ty : TypeId} {pos : String} {aft : Array Edge} {d : Nat}

theorem look_hit {j : Nat} {b : Value} (hb : look t j = some b) {i : Nat} {v : Value} (h : look ((j, b) :: t) i = some v) : look t i = some v := by
  by_cases hi : j = i
  · subst hi
    rw [look_cons_eq] at h
    rw [hb]; exact h
  · rwa [look_cons_ne hi] at h
/-- a Bool is looked at -/
theorem JL_case {M : World → Prop} {l : List Oper} (j : Nat) {b : Bool} (hb : look t j = some (.bool b)) (h1 : b = true → JL P r N ds ops Q l ((j, .bool true) :: t) M) (h2 : b = false → JL P r N ds ops Q l ((j, .bool false) :: t) M) :
    JL P r N ds ops Q l t M := fun a w ha hw => by
  cases b with
  | true => exact h1 rfl a w (ha.weak fun i v hv => look_hit hb hv) hw
  | false => exact h2 rfl a w (ha.weak fun i v hv => look_hit hb hv) hw
/-- the ways through a statement meet again -/
theorem JC_join {c : Code} {M : World → Prop} {α : Type} (T : α → Fm) (MM : α → World → Prop) {K : Act → World → Prop}
    (h : JC P r N ds c (Exit.then (fun a w => ∃ y, Fr N ds (T y ++ t) a ∧ MM y w) Q) t M) (hK : ∀ y, JX N ds .normal (Exit.then K Q) (T y ++ t) (MM y)) : JC P r N ds c (Exit.then K Q) t M :=
  JC_cut (fun y => T y ++ t) MM h (fun y a w ha hw => hK y a w ha hw)
theorem JX_join {M : World → Prop} {α : Type} {T : α → Fm} {t0 : Fm} {MM : α → World → Prop} (y : α) (hs : subF t (T y ++ t0)) (hM : ∀ w, M w → MM y w) :
    JX N ds .normal (Exit.then (fun a w => ∃ y, Fr N ds (T y ++ t0) a ∧ MM y w) Q) t M := fun a w ha hw => ⟨y, ha.weak hs.look, hM w hw⟩
theorem JX_loop {M : World → Prop} {α : Type} {T : α → Fm} {MM : α → World → Prop} {n : Nat} {μ : α → Nat} (y : α) (hlt : μ y < n) (hs : subF t (T y)) (hM : ∀ w, M w → MM y w) :
    JX N ds .normal (Exit.then (fun a w => ∃ y, μ y < n ∧ Fr N ds (T y) a ∧ MM y w) Q) t M := fun a w ha hw => ⟨y, hlt, ha.weak hs.look, hM w hw⟩

/-- a call of which nothing but a plain value is kept -/
def SCalls (P : Program) (f : FuncId) (args : Array Value) (w : World) (R : Value → Prop) : Prop :=
  Calls P f args w fun e w' => ∃ v, e = .returned v ∧ Below w.heap.size w w' ∧ R v
theorem Mem.callS {w : World} (h : Mem w0 E Z0 Z wz L w) {w' : World} (hk : Below w.heap.size w w') : Mem w0 E Z0 Z wz L w' := by
  have h1 := h.call hk
  have h2 := h.ext_call hk
  have := h.size
  have := hk.size
  exact ⟨h1.os, h1.tape, h1.output, h.size0, by omega, h1.base, fun b o hz ho => (h2.fb b o ⟨hz, ho⟩).at_, h.zb, h.zlt, h1.own, h.sep, h1.nodup⟩
theorem st_scall {f : FuncId} {l : List Operand} {ats : Array TypeId} {vs : List Value} {R : Value → Prop} (hl : evOps t l = some vs) (he : Enters P f) (hd : d < N)
    (hc : ∀ w, Mem w0 E Z0 Z wz L w → SCalls P f vs.toArray w R)
    (h : ∀ v, R v → JL P r N ds ops Q rest ((d, v) :: t) (Mem w0 E Z0 Z wz L)) :
    JL P r N ds ops Q (⟨some d, .call { callee := .value (.func f), args := l.toArray, argTypes := ats }, ty, pos, aft, none⟩ :: rest) t (Mem w0 E Z0 Z wz L) :=
  st_call (β := { v : Value // R v }) (fun x => x.1) (fun _ => Mem w0 E Z0 Z wz L) hl he hd
    (fun w hw => (hc w hw).mono fun e w' ⟨v, he', hb, hR⟩ => ⟨⟨v, hR⟩, he', hw.callS hb⟩)
    (fun x => h _ x.2)
theorem SC_end {R : Value → Prop} {v : Value} {w : World} (h : Mem w0 (fun _ => False) Z0 Z wz L w) (hR : R v) :
    ∃ v', Ending.returned v = .returned v' ∧ Below w0.heap.size w0 w ∧ R v' := ⟨v, rfl, h.below, hR⟩
/-- a scalar contract is a contract -/
theorem SCalls.mono {f : FuncId} {args : Array Value} {w : World} {R R' : Value → Prop} (h : SCalls P f args w R) (hr : ∀ v, R v → R' v) : SCalls P f args w R' :=
  Calls.mono h fun e w' ⟨v, he, hb, hR⟩ => ⟨v, he, hb, hr v hR⟩

/-! comparison of structs by value -/
theorem vo_eqS {op : BinOp} {xt yt : TypeId} {x y : Operand} {xs ys : Array Value} {c e : Bool} {M : World → Prop} (hx : ev t x = some (.agg xs)) (hy : ev t y = some (.agg ys))
    (hop : (match op with | .eql => some c | .neq => some (!c) | _ => none) = some e) (hm : P.eqGuardType P.depth xt = false) (he : ∀ w : World, (Op.equalIn 10000 xt (.agg xs) (.agg ys)).run P w = .ok c w) : ValOf P N ds t M ⟨some d, .binOp op xt x y yt, ty, pos, aft, none⟩ (.bool e) := fun a w ha hw => by
    unfold execOp
    simp only [ha.eval hx, ha.eval hy]
    cases op with
    | eql =>
      obtain rfl := Option.some.inj hop
      simp only [Sem.run_bind, run_eqGuard_agg w .eql xt x y xs ys hm, Result.andThen_ok]
      simp [run_eql_struct, he w]
    | neq =>
      obtain rfl := Option.some.inj hop
      simp only [Sem.run_bind, run_eqGuard_agg w .neq xt x y xs ys hm, Result.andThen_ok]
      simp [run_neq_struct, he w]
    | _ => cases hop
end
end Go.Eng

set_option linter.unusedVariables false
set_option linter.unusedSimpArgs false
namespace Go.Eng
open Go Go.RowKit

/-! ### 5. Regions that draw their order -/
section
variable {P : Program} {ops : Array Oper} {Q : Post}
def ClosedL (ops : Array Oper) (listed : Array Bool) : Prop :=
  listed.size = ops.size ∧ ∀ (j : Nat) (oj : Oper), ops[j]? = some oj → listed.getD j false = true → ∀ e ∈ oj.after, Region.binds .any e = true → listed.getD e.on false = true
theorem ClosedL.start (ops : Array Oper) : ClosedL ops (Array.replicate ops.size false) :=
  ⟨by simp, fun j oj _ h => by rw [getD_replicate_false] at h; cases h⟩
theorem ClosedL.set {listed : Array Bool} {i : Nat} (h : ClosedL ops listed) (hi : i ∈ Region.ready .any ops listed) : ClosedL ops (listed.setIfInBounds i true) := by
  obtain ⟨_, oi, hoi, hall⟩ := mem_ready.1 hi
  refine ⟨by simp [h.1], fun j oj hj hl e he hb => ?_⟩
  have hkeep : ∀ k, listed.getD k false = true → (listed.setIfInBounds i true).getD k false = true := fun k hk => by
    by_cases hik : i = k
    · subst hik
      rcases Nat.lt_or_ge i listed.size with h' | h'
      · simp [h']
      · simp [Array.getElem?_eq_none h'] at hk
    · rw [getD_set_ne false hik]; exact hk
  by_cases hij : i = j
  · subst hij
    rw [hoi] at hj
    obtain rfl := Option.some.inj hj
    exact hkeep _ (hall e he hb)
  · rw [getD_set_ne false hij] at hl
    exact hkeep _ (h.2 j oj hj hl e he hb)
/-- all stand ahead of number m -/
def sinkOK (ops : Array Oper) (m : Nat) : Bool := decide (m + 1 = ops.size) && Region.sinkB .any ops m
theorem ClosedL.sink {listed : Array Bool} {m : Nat} (h : ClosedL ops listed) (hs : sinkOK ops m = true) (hm : listed.getD m false = true) : ∀ i, i < ops.size → listed.getD i false = true := by
  simp only [sinkOK, Bool.and_eq_true, decide_eq_true_eq] at hs
  obtain ⟨hsz, hs⟩ := hs
  have key : ∀ n i, m - i = n → i ≤ m → listed.getD i false = true := by
    intro n
    induction n using Nat.strongRecOn with
    | _ n ih =>
      intro i hn hi
      by_cases him : i = m
      · subst him; exact hm
      · simp only [Region.sinkB, List.all_eq_true, List.any_eq_true, Bool.and_eq_true, decide_eq_true_eq, List.mem_range] at hs
        obtain ⟨j, hj, hij, hw⟩ := hs i (by omega)
        obtain ⟨oj, hoj, e, he, hb, rfl⟩ := Region.waitsFor_spec hw
        exact h.2 j oj hoj (ih (m - j) (by omega) j rfl (by omega)) e he hb
  intro i hi
  exact key _ i rfl (by omega)

def tailOK (ops : Array Oper) (m : Nat) : Bool := decide (m = ops.size) || sinkOK ops m
/-- what is asked of a world: F, till number m has come -/
def Held (F : World → Prop) (m : Nat) (listed : Array Bool) (w : World) : Prop := listed.getD m false = false → F w
/-- one operation that yields a value, is passed over or calls -/
def uponP (P : Program) (o : Oper) (a : Act) (next : Act → World → Prop) : Result Next → Prop
  | .ok (.value v) w' => next (a.put o.dst v) w'
  | .ok .skip w' => next (a.put o.dst undef) w'
  | .ok (.enter f args) w' => Calls P f args w' fun e w'' => ∃ v, e = .returned v ∧ next (a.put o.dst v) w''
  | _ => False
def wpOpP (P : Program) (ops : Array Oper) (i : Nat) (K : Act → World → Prop) (a : Act) (w : World) : Prop :=
  match ops[i]? with
  | none => K a w
  | some o => if Region.wanted o (yielded ops a.tmps) then uponP P o a K ((execOp a.eval o).run P w) else K (a.put o.dst undef) w
theorem uponP_mono {o : Oper} {a : Act} {K K' : Act → World → Prop} (h : ∀ a w, K a w → K' a w) : ∀ {x : Result Next}, uponP P o a K x → uponP P o a K' x
  | .ok (.value v) w', hh => h _ _ hh
  | .ok .skip w', hh => h _ _ hh
  | .ok (.enter f args) w', hh => Calls.mono hh fun e w'' ⟨v, he, hk⟩ => ⟨v, he, h _ _ hk⟩
theorem wpOpP_mono {i : Nat} {a : Act} {w : World} {K K' : Act → World → Prop} (h : ∀ a w, K a w → K' a w) (hh : wpOpP P ops i K a w) : wpOpP P ops i K' a w := by
  unfold wpOpP at *
  split
  · exact h _ _ (by simpa [*] using hh)
  · rename_i o ho
    simp only [ho] at hh
    split
    · rename_i hw; simp only [hw, if_true] at hh; exact uponP_mono h hh
    · rename_i hw; simp only [hw] at hh; exact h _ _ hh
theorem uponP_defer {o : Oper} {a : Act} {K : Act → World → Prop} {w : World} (h : uponP P o a K ((execOp a.eval o).run P w)) : ∀ c, o.op ≠ .defer c := by
  intro c hc
  have he : (execOp a.eval o) = (do pure (.defer (← resolve a.eval c o.type))) := by
    unfold execOp
    rw [hc]
  rw [he, Sem.run_bind] at h
  cases hr : (resolve a.eval c o.type).run P w with
  | ok d w' => rw [hr] at h; exact h
  | halt x w' => rw [hr] at h; exact h
theorem uponP_in {r : Option Nat} {o : Oper} {a : Act} {K : Act → World → Prop} {w : World} (h : uponP P o a K ((execOp a.eval o).run P w)) : o.wpIn (FF r) 0 P a w K Q := by
  refine ⟨fun _ _ => trivial, ?_⟩
  rw [Oper.semAt_eq _ _ _ (uponP_defer h)]
  generalize (execOp a.eval o).run P w = x at h ⊢
  match x, h with
  | .ok (.value v) w', h => exact h
  | .ok .skip w', h => exact h
  | .ok (.enter f args) w', h =>
    refine ⟨fun hh => (by cases hh), ?_⟩
    have h1 := (callsIn_wide (n := 0 - 1)).2 h
    have h2 : CallsIn (FF r) (0 - 1) P f args w' fun e w'' => ∃ v, e = .returned v ∧ K (a.put o.dst v) w'' := h1
    refine h2.mono ?_
    rintro e w'' ⟨v, rfl, hk⟩
    exact hk
def wpAnyG (P : Program) (ops : Array Oper) (Q : Post) (F : World → Prop) (m : Nat) : Nat → Array Bool → Act → World → Prop
  | 0, listed, a, w => Region.ready .any ops listed = [] ∧ Q .normal a w
  | fuel + 1, listed, a, w =>
    (Region.ready .any ops listed = [] → Q .normal a w) ∧
    ∀ i ∈ Region.ready .any ops listed, wpOpP P ops i (fun a' w' => Held F m (listed.setIfInBounds i true) w' ∧ wpAnyG P ops Q F m fuel (listed.setIfInBounds i true) a' w') a w
theorem wpAny_of_G {r : Option Nat} {F : World → Prop} {m : Nat} : ∀ (fuel : Nat) (listed : Array Bool) (a : Act) (w : World), wpAnyG P ops Q F m fuel listed a w → wpAnyIn (FF r) 0 P .any ops Q fuel listed a w
  | 0, _, _, _, h => h
  | fuel + 1, _, _, _, h => ⟨h.1, fun i hi => by
    have h2 := wpOpP_mono (fun a' w' h' => wpAny_of_G (r := r) fuel _ a' w' h'.2) (h.2 i hi)
    unfold wpOpP at h2
    unfold wpOpIn
    split
    · rename_i ho; simp only [ho] at h2; exact h2
    · rename_i o ho
      simp only [ho] at h2
      split
      · rename_i hw; simp only [hw, if_true] at h2; exact uponP_in h2
      · rename_i hw; simp only [hw] at h2; exact ⟨fun _ _ => trivial, h2⟩⟩
theorem yieldsIf_wpOpP {S : World → Prop} {i : Nat} {o : Oper} {v : Value} {a : Act} (hi : ops[i]? = some o) (hy : YieldsIf P ops S o v a)
    {K : Act → World → Prop} {w : World} (hS : S w) (h : K (a.put o.dst v) w) : wpOpP P ops i K a w := by
  unfold Eng.wpOpP
  simp only [hi]
  rcases hy with ⟨hw, hv⟩ | ⟨hw, rfl⟩
  · simp only [hw, if_true, hv w hS]; exact h
  · simp only [hw, Bool.false_eq_true, if_false]; exact h
theorem wpOpP_putIf {S : World → Prop} {j : Nat} {oi oj : Oper} {v : Value} (hj : ops[j]? = some oj) (hap : oi.apart ops oj = true)
    (hsi : ∀ cs b, oi.op ≠ .select cs b) (hsj : ∀ cs b, oj.op ≠ .select cs b) {K : Act → World → Prop} {a : Act} {w : World}
    (hy : YieldsIf P ops S oi v a) (h : wpOpP P ops j K (a.put oi.dst v) w) :
    wpOpP P ops j (fun a' w' => YieldsIf P ops S oi v a' ∧ K (a'.put oi.dst v) w') a w := by
  obtain ⟨h1, h2, h3⟩ := Oper.apart_spec hap
  have keep : ∀ (a : Act), YieldsIf P ops S oi v a → ∀ u, YieldsIf P ops S oi v (a.put oj.dst u) := fun a hy u =>
    hy.of_same (execOp_put oi hsi a oj.dst u h3) (wanted_put oi a oj.dst u h3)
  unfold wpOpP at *
  simp only [hj] at *
  rw [wanted_put oj a oi.dst v h1] at h
  split
  · rename_i hw
    simp only [hw, if_true] at h
    rw [execOp_put oj hsj a oi.dst v h1] at h
    generalize (execOp a.eval oj).run P w = r at *
    match r, h with
    | .ok (.value u) w', h => exact ⟨keep a hy u, by rw [← Act.put_comm a v u h2]; exact h⟩
    | .ok .skip w', h => exact ⟨keep a hy _, by rw [← Act.put_comm a v undef h2]; exact h⟩
    | .ok (.enter f args) w', h =>
      refine Calls.mono h fun e w'' he => ?_
      obtain ⟨u, he, hk⟩ := he
      exact ⟨u, he, keep a hy u, by rw [← Act.put_comm a v u h2]; exact hk⟩
  · rename_i hw
    simp only [hw] at h
    exact ⟨keep a hy _, by rw [← Act.put_comm a v undef h2]; exact h⟩
theorem getD_false_of_true {listed : Array Bool} {i : Nat} (hi : i < listed.size) (h : listed.getD i false = false) : listed.getD i true = false := by
  simp [hi] at h ⊢; exact h
theorem held_now {F : World → Prop} {m i : Nat} {listed : Array Bool} {w : World} (ht : tailOK ops m = true) (hcl : ClosedL ops listed) (hi : i < ops.size) (hun : listed.getD i true = false) (h : Held F m listed w) : F w := by
  refine h ?_
  simp only [tailOK, Bool.or_eq_true, decide_eq_true_eq] at ht
  rcases ht with rfl | ht
  · have : listed[ops.size]? = none := Array.getElem?_eq_none (by rw [hcl.1]; exact Nat.le_refl _)
    simp [Array.getD_eq_getD_getElem?, this]
  · cases hm : listed.getD m false with
    | false => rfl
    | true =>
      have := hcl.sink ht hm i hi
      have h' : i < listed.size := by rw [hcl.1]; exact hi
      simp [h'] at hun this
      rw [hun] at this; cases this
theorem wpAnyG_first {F : World → Prop} {m : Nat} {i : Nat} {oi : Oper} {v : Value} (hi : ops[i]? = some oi) (hsel : ∀ (j : Nat) (o : Oper) cs b, ops[j]? = some o → o.op ≠ .select cs b)
    (ht : tailOK ops m = true) (him : i ≠ m) :
    ∀ (fuel : Nat) (listed : Array Bool) (a : Act) (w : World), ClosedL ops listed →
      (∀ j oj, ops[j]? = some oj → j ≠ i → listed.getD j true = false → (∀ e ∈ oj.after, Region.binds .any e = true → e.on ≠ i) → oi.apart ops oj = true) →
      i ∈ Region.ready .any ops listed → YieldsIf P ops F oi v a → Held F m listed w →
      wpAnyG P ops Q F m fuel (listed.setIfInBounds i true) (a.put oi.dst v) w → wpAnyG P ops Q F m (fuel + 1) listed a w := by
  have hlt : i < ops.size := (Array.getElem?_eq_some_iff.1 hi).1
  have hset : ∀ (l : Array Bool) (w : World), Held F m l w → Held F m (l.setIfInBounds i true) w := fun l w h hm => h (by rw [getD_set_ne false him] at hm; exact hm)
  have hback : ∀ (l : Array Bool) (w : World), Held F m (l.setIfInBounds i true) w → Held F m l w := fun l w h hm => h (by rw [getD_set_ne false him]; exact hm)
  intro fuel
  induction fuel with
  | zero =>
    intro listed a w hcl _ hr hy hS H
    have hun := (mem_ready.1 hr).1
    refine ⟨fun h => (by rw [h] at hr; cases hr), fun j hj => ?_⟩
    by_cases hji : j = i
    · subst hji; exact yieldsIf_wpOpP hi hy (held_now ht hcl hlt hun hS) ⟨hset _ _ hS, H⟩
    · have := ready_mono hj hji
      rw [H.1] at this
      cases this
  | succ fuel ih =>
    intro listed a w hcl hfree hr hy hS H
    have hun := (mem_ready.1 hr).1
    refine ⟨fun h => (by rw [h] at hr; cases hr), fun j hj => ?_⟩
    by_cases hji : j = i
    · subst hji; exact yieldsIf_wpOpP hi hy (held_now ht hcl hlt hun hS) ⟨hset _ _ hS, H⟩
    · have h1 := H.2 j (ready_mono hj hji)
      obtain ⟨hjun, oj, hoj, hall⟩ := mem_ready.1 hj
      have hnot : ∀ e ∈ oj.after, Region.binds .any e = true → e.on ≠ i := fun e he hb heq => by
        have h2 := hall e he hb
        rw [heq] at h2
        rcases Nat.lt_or_ge i listed.size with h' | h'
        · simp [h'] at hun h2; rw [hun] at h2; cases h2
        · simp [Array.getElem?_eq_none h'] at h2
      have h2 := wpOpP_putIf hoj (hfree j oj hoj hji hjun hnot) (fun cs b => hsel i oi cs b hi) (fun cs b => hsel j oj cs b hoj) hy h1
      have hfree' : ∀ k ok, ops[k]? = some ok → k ≠ i → (listed.setIfInBounds j true).getD k true = false →
          (∀ e ∈ ok.after, Region.binds .any e = true → e.on ≠ i) → oi.apart ops ok = true := fun k ok hk hki hunk hno => by
        refine hfree k ok hk hki ?_ hno
        by_cases hjk : j = k
        · subst hjk; exact hjun
        · rw [getD_set_ne true hjk] at hunk; exact hunk
      have hcomm : (listed.setIfInBounds j true).setIfInBounds i true = (listed.setIfInBounds i true).setIfInBounds j true := Array.setIfInBounds_comm _ _ hji
      refine wpOpP_mono (fun a' w' h3 => ?_) h2
      have h4 : Held F m (listed.setIfInBounds j true) w' := hback _ _ (by rw [hcomm]; exact h3.2.1)
      refine ⟨h4, ih (listed.setIfInBounds j true) a' w' (hcl.set hj) hfree' (ready_mono hr (Ne.symm hji)) h3.1 h4 ?_⟩
      rw [hcomm]
      exact h3.2.2

/-! (kept for the texts' sake) -/
def PanicOK (Q : Post) : Prop := True
theorem panic_body {fn : Func} {R : Ending → World → Prop} : PanicOK (bodyPost P fn R) := trivial
theorem panic_then {K : Act → World → Prop} (h : PanicOK Q) : PanicOK (Exit.then K Q) := trivial
theorem panic_Then {r : Option Nat} {y : Code} (h : PanicOK Q) : PanicOK (Then P r y Q) := trivial
theorem panic_block {id : Nat} (h : PanicOK Q) : PanicOK (Exit.inBlock id Q) := trivial
theorem panic_any : PanicOK Q := trivial

variable {N : Nat} {ds : List Deferred} {t : Fm} {M : World → Prop}
def JR (P : Program) (N : Nat) (ds : List Deferred) (ops : Array Oper) (Q : Post) (F : World → Prop) (m : Nat) (fuel : Nat) (listed : Array Bool) (t : Fm) (M : World → Prop) : Prop :=
  ∀ a w, Fr N ds t a → M w → ClosedL ops listed → wpAnyG P ops Q F m fuel listed a w
/-- THE BEGIN of a region that draws -/
theorem JC_draw {r : Option Nat} {id : Nat} {l : List Oper} {F : World → Prop} (m : Nat) (hm : P.follows .mixedOrders = true) (hM : ∀ w, M w → M { w with drawn := w.drawn + 1 })
    (h : JR P N ds l.toArray Q F m l.length (Array.replicate l.toArray.size false) t M) : JC P r N ds (.region id l.toArray true) Q t M := fun a w ha hw => by
  refine wpIn_region_any hm (wpAny_of_G (F := F) (m := m) _ _ _ _ ?_)
  have := h a _ ha (hM w hw) (ClosedL.start _)
  simpa using this
theorem JR_done {F : World → Prop} {m fuel : Nat} {listed : Array Bool} (hr : Region.ready .any ops listed = []) (h : JX N ds .normal Q t M) : JR P N ds ops Q F m fuel listed t M := fun a w ha hw _ => by
  cases fuel with
  | zero => exact ⟨hr, h a w ha hw⟩
  | succ n => exact ⟨fun _ => h a w ha hw, fun i hi => by rw [hr] at hi; cases hi⟩
theorem JR_v {F : World → Prop} {m fuel : Nat} {listed : Array Bool} {i d : Nat} {op : Op} {ty : TypeId} {pos : String} {aft : Array Edge} {v : Value} (hi : ops[i]? = some ⟨some d, op, ty, pos, aft, none⟩)
    (hsel : Region.noSelect ops = true) (ht : tailOK ops m = true) (him : Nat.beq i m = false) (hfree : Region.free .any ops listed i = true) (hr : (Region.ready .any ops listed).contains i = true) (hQ : PanicOK Q) (hd : d < N)
    (hv : ValOf P N ds t F ⟨some d, op, ty, pos, aft, none⟩ v) (hMF : ∀ w, M w → F w)
    (h : JR P N ds ops Q F m fuel (listed.setIfInBounds i true) ((d, v) :: t) M) : JR P N ds ops Q F m (fuel + 1) listed t M := fun a w ha hw hcl => by
  have hr' : i ∈ Region.ready .any ops listed := by simpa using hr
  refine wpAnyG_first hi (Region.noSelect_spec hsel) ht (fun e => by subst e; rw [Nat.beq_refl] at him; cases him) fuel listed a w hcl (Region.free_spec hi hfree) hr'
    (.inl ⟨by simp [Region.wanted], fun w' hw' => hv a w' ha hw'⟩) (fun _ => hMF w hw) (h _ w (ha.put hd v) hw (hcl.set hr'))
/-- the same, guarded: the guard says yes -/
theorem JR_vy {F : World → Prop} {m fuel : Nat} {listed : Array Bool} {i d j gt : Nat} {b : Bool} {op : Op} {ty : TypeId} {pos : String} {aft : Array Edge} {v : Value} (hi : ops[i]? = some ⟨some d, op, ty, pos, aft, some (j, b)⟩)
    (hj : (ops[j]?).bind (·.dst) = some gt) (hb : look t gt = some (.bool b))
    (hsel : Region.noSelect ops = true) (ht : tailOK ops m = true) (him : Nat.beq i m = false) (hfree : Region.free .any ops listed i = true) (hr : (Region.ready .any ops listed).contains i = true) (hQ : PanicOK Q) (hd : d < N)
    (hv : ValOf P N ds t F ⟨some d, op, ty, pos, aft, none⟩ v) (hMF : ∀ w, M w → F w)
    (h : JR P N ds ops Q F m fuel (listed.setIfInBounds i true) ((d, v) :: t) M) : JR P N ds ops Q F m (fuel + 1) listed t M := fun a w ha hw hcl => by
  have hr' : i ∈ Region.ready .any ops listed := by simpa using hr
  have hy : yielded ops a.tmps j = some b := by
    unfold yielded
    rw [hj]
    simp [ha.get _ _ hb]
  refine wpAnyG_first hi (Region.noSelect_spec hsel) ht (fun e => by subst e; rw [Nat.beq_refl] at him; cases him) fuel listed a w hcl (Region.free_spec hi hfree) hr'
    (.inl ⟨by simp [Region.wanted, hy], fun w' hw' => hv a w' ha hw'⟩) (fun _ => hMF w hw) (h _ w (ha.put hd v) hw (hcl.set hr'))
theorem JR_vn {F : World → Prop} {m fuel : Nat} {listed : Array Bool} {i d j gt : Nat} {b : Bool} {op : Op} {ty : TypeId} {pos : String} {aft : Array Edge} (hi : ops[i]? = some ⟨some d, op, ty, pos, aft, some (j, b)⟩)
    (hj : (ops[j]?).bind (·.dst) = some gt) (hb : look t gt = some (.bool (!b)))
    (hsel : Region.noSelect ops = true) (ht : tailOK ops m = true) (him : Nat.beq i m = false) (hfree : Region.free .any ops listed i = true) (hr : (Region.ready .any ops listed).contains i = true) (hQ : PanicOK Q) (hd : d < N) (hMF : ∀ w, M w → F w)
    (h : JR P N ds ops Q F m fuel (listed.setIfInBounds i true) ((d, undef) :: t) M) : JR P N ds ops Q F m (fuel + 1) listed t M := fun a w ha hw hcl => by
  have hr' : i ∈ Region.ready .any ops listed := by simpa using hr
  have hy : yielded ops a.tmps j = some (!b) := by
    unfold yielded
    rw [hj]
    simp [ha.get _ _ hb]
  refine wpAnyG_first hi (Region.noSelect_spec hsel) ht (fun e => by subst e; rw [Nat.beq_refl] at him; cases him) fuel listed a w hcl (Region.free_spec hi hfree) hr'
    (.inr ⟨by simp [Region.wanted, hy], rfl⟩) (fun _ => hMF w hw) (h _ w (ha.put hd _) hw (hcl.set hr'))
theorem JR_case {F : World → Prop} {m fuel : Nat} {listed : Array Bool} (j : Nat) {b : Bool} (hb : look t j = some (.bool b)) (h1 : b = true → JR P N ds ops Q F m fuel listed ((j, .bool true) :: t) M) (h2 : b = false → JR P N ds ops Q F m fuel listed ((j, .bool false) :: t) M) :
    JR P N ds ops Q F m fuel listed t M := fun a w ha hw => by
  cases b with
  | true => exact h1 rfl a w (ha.weak fun i v hv => look_hit hb hv) hw
  | false => exact h2 rfl a w (ha.weak fun i v hv => look_hit hb hv) hw
/-- an operation that alone may come up: a call -/
theorem JR_call {F : World → Prop} {m fuel : Nat} {listed : Array Bool} {i d f : Nat} {o : Oper} {vs : Array Value} {β : Type} (val : β → Value) (M' : β → World → Prop) (hi : ops[i]? = some o) (hdst : o.dst = some d) (hd : d < N)
    (hw : ∀ a, Fr N ds t a → Region.wanted o (yielded ops a.tmps) = true) (hr : Region.ready .any ops listed = [i])
    (hrun : ∀ a w, Fr N ds t a → M w → (execOp a.eval o).run P w = .ok (.enter f vs) w)
    (hc : ∀ w, M w → Calls P f vs w fun e w' => ∃ x, e = .returned (val x) ∧ M' x w') (hF : ∀ x w', M' x w' → F w')
    (h : ∀ x, JR P N ds ops Q F m fuel (listed.setIfInBounds i true) ((d, val x) :: t) (M' x)) : JR P N ds ops Q F m (fuel + 1) listed t M := fun a w ha hM hcl => by
  refine ⟨fun h0 => (by rw [h0] at hr; cases hr), fun k hk => ?_⟩
  have hk' := hk
  rw [hr] at hk'
  obtain rfl : k = i := by simpa using hk'
  unfold wpOpP
  simp only [hi, hw a ha, if_true]
  rw [hrun a w ha hM]
  refine (hc w hM).mono ?_
  rintro e w' ⟨x, rfl, hM'⟩
  exact ⟨_, rfl, fun _ => hF x w' hM', h x _ w' (by rw [hdst]; exact ha.put hd _) hM' (hcl.set hk)⟩
/-- the last operation, whatever it does to memory -/
theorem JR_last {F : World → Prop} {m fuel : Nat} {listed : Array Bool} {o : Oper} (hi : ops[m]? = some o) (hdst : o.dst = none)
    (hw : ∀ a, Fr N ds t a → Region.wanted o (yielded ops a.tmps) = true) (hr : Region.ready .any ops listed = [m]) (hrd : Region.ready .any ops (listed.setIfInBounds m true) = [])
    (M' : World → Prop) (hrun : ∀ a w, Fr N ds t a → M w → ∃ w', (execOp a.eval o).run P w = .ok .skip w' ∧ M' w') (hms : m < listed.size)
    (h : JX N ds .normal Q t M') : JR P N ds ops Q F m (fuel + 1) listed t M := fun a w ha hM hcl => by
  refine ⟨fun h0 => (by rw [h0] at hr; cases hr), fun k hk => ?_⟩
  have hk' := hk
  rw [hr] at hk'
  obtain rfl : k = m := by simpa using hk'
  unfold wpOpP
  simp only [hi, hw a ha, if_true]
  obtain ⟨w', hr', hM'⟩ := hrun a w ha hM
  rw [hr']
  refine ⟨fun h0 => ?_, ?_⟩
  · simp [hms] at h0
  · have : Fr N ds t (a.put o.dst undef) := by rw [hdst]; exact ha
    exact JR_done (F := F) (m := k) (P := P) hrd h _ w' this hM' (hcl.set hk)
end
end Go.Eng
