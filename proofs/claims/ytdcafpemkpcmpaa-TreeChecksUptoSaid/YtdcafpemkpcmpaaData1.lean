/-
  Part of the proofs over this seat: D1 D2 E12 E13 E14 E15. Own work; imports the kit.
-/
import Derived.Test.YtdcafpemkpcmpaaProg
import Derived.ChangeKeysEq
import Derived.Test.YtdcafpemkpcmpaaEng2
set_option linter.unusedVariables false
set_option linter.unusedSimpArgs false
namespace Go.Eng
open Go Go.RowKit Go.Proofs

/-! ### the data -/
structure Val where
  kind : Int
  mode : Int
  size : Int
  sum : Fin 32 → Int
structure Mrk where
  number : Int
  stamp : Int
structure Mk2 where
  a : Mrk
  b : Mrk
def sumC (s : Fin 32 → Int) : List Value := [.int .u8 (s 0), .int .u8 (s 1), .int .u8 (s 2), .int .u8 (s 3), .int .u8 (s 4), .int .u8 (s 5), .int .u8 (s 6), .int .u8 (s 7), .int .u8 (s 8), .int .u8 (s 9), .int .u8 (s 10), .int .u8 (s 11), .int .u8 (s 12), .int .u8 (s 13), .int .u8 (s 14), .int .u8 (s 15), .int .u8 (s 16), .int .u8 (s 17), .int .u8 (s 18), .int .u8 (s 19), .int .u8 (s 20), .int .u8 (s 21), .int .u8 (s 22), .int .u8 (s 23), .int .u8 (s 24), .int .u8 (s 25), .int .u8 (s 26), .int .u8 (s 27), .int .u8 (s 28), .int .u8 (s 29), .int .u8 (s 30), .int .u8 (s 31)]
def valC (v : Val) : List Value := .int .i64 v.kind :: .int .i64 v.mode :: .int .i64 v.size :: sumC v.sum
def mrkC (m : Mrk) : List Value := [.int .i64 m.number, .int .i64 m.stamp]
def mk2C (m : Mk2) : List Value := mrkC m.a ++ mrkC m.b
def sumEq (s u : Fin 32 → Int) : Bool := (List.finRange 32).all fun i => s i == u i
def mrkEq (m n : Mrk) : Bool := m.number == n.number && m.stamp == n.stamp
def mk2Eq (m n : Mk2) : Bool := mrkEq m.a n.a && mrkEq m.b n.b
def valEq (v u : Val) : Bool := v.kind == u.kind && (v.mode == u.mode && (v.size == u.size && sumEq v.sum u.sum))
theorem eg26 : Try.prog.eqGuardType Try.prog.depth 26 = false := by kernel_rfl
theorem eg27 : Try.prog.eqGuardType Try.prog.depth 27 = false := by kernel_rfl
theorem eg22 : Try.prog.eqGuardType Try.prog.depth 22 = false := by kernel_rfl
theorem eg24 : Try.prog.eqGuardType Try.prog.depth 24 = false := by kernel_rfl
theorem sh26 : Try.prog.stoodInHeld 26 = false := by kernel_rfl
theorem sh24 : Try.prog.stoodInHeld 24 = false := by kernel_rfl
theorem sz26 : (Try.prog.info? 26).map (·.size) = some 2 := by kernel_rfl
theorem sz5 : (Try.prog.info? 5).map (·.size) = some 1 := by kernel_rfl
theorem sz22 : (Try.prog.info? 22).map (·.size) = some 32 := by kernel_rfl

section
variable {P : Program} {w : World}
theorem run_part_cell {t : TypeId} {d : TypeDesc} {cs : Array Value} {o : Nat} {v : Value} (hu : P.underlying t = some d) (hd : d.isRow = false) (h : cs[o]? = some v) : (part t cs o).run P w = .ok v w := by
  have hagg : (isAgg t).run P w = .ok false w := by
    unfold isAgg
    rw [Sem.run_bind, run_underlying hu w]
    cases d <;> simp_all
  simp [part, Sem.run_bind, hagg, h]
theorem run_part_agg {t : TypeId} {d : TypeDesc} {cs : Array Value} {o n : Nat} (hu : P.underlying t = some d) (hd : d.isRow = true) (hz : (P.info? t).map (·.size) = some n) : (part t cs o).run P w = .ok (.agg (cs.extract o (o + n))) w := by
  have hagg : (isAgg t).run P w = .ok true w := by
    unfold isAgg
    rw [Sem.run_bind, run_underlying hu w]
    cases d <;> simp_all
  obtain ⟨i, hi, rfl⟩ := Option.map_eq_some_iff.1 hz
  simp [part, Sem.run_bind, hagg, sizeOf, typeInfo, hi]
theorem run_eqItems_all {d : Nat} {e : TypeId} {z : Nat} {xs ys : Array Value} (f : Nat → Bool) : ∀ (is : List Nat),
    (∀ i ∈ is, ∃ x y, (part e xs (i * z)).run P w = .ok x w ∧ (part e ys (i * z)).run P w = .ok y w ∧ (Op.equalIn d e x y).run P w = .ok (f i) w) → (Op.eqItems d e z xs ys is).run P w = .ok (is.all f) w
  | [], _ => by simp [Op.eqItems]
  | i :: is, h => by
    obtain ⟨x, y, h1, h2, h3⟩ := h i (by simp)
    have ih := run_eqItems_all f is (fun j hj => h j (by simp [hj]))
    simp only [Op.eqItems, Sem.run_bind, h1, h2, h3, Result.andThen_ok]
    cases hf : f i with
    | true => simp [ih, hf]
    | false => simp [hf]
theorem run_eq_array {d : Nat} {t e : TypeId} {len z : Nat} {xs ys : Array Value} (hu : P.underlying t = some (.array len e)) (hz : (P.info? e).map (·.size) = some z) (f : Nat → Bool)
    (hf : ∀ i, i < len → ∃ x y, (part e xs (i * z)).run P w = .ok x w ∧ (part e ys (i * z)).run P w = .ok y w ∧ (Op.equalIn d e x y).run P w = .ok (f i) w) :
    (Op.equalIn (d + 1) t (.agg xs) (.agg ys)).run P w = .ok ((List.range len).all f) w := by
  obtain ⟨i, hi, rfl⟩ := Option.map_eq_some_iff.1 hz
  rw [run_equalIn_array w d xs ys hu hi]
  have hc : P.cellsOf e = i.size := by simp [Program.cellsOf, hi]
  rw [hc]
  exact run_eqItems_all f _ (fun j hj => hf j (by simpa using hj))
theorem run_eq_int {d : Nat} {t : TypeId} {k k' : IntKind} {a b : Int} (h : P.underlying t = some (.int k')) : (Op.equalIn (d + 1) t (.int k a) (.int k b)).run P w = .ok (a == b) w := by
  simp [Op.equalIn, run_underlying h]
/-- field by field -/
theorem run_eqFields_cons {d : Nat} {xs ys : Array Value} {f : Field} {fs : List Field} {x y : Value} {b c : Bool} (hn : f.name ≠ "_") (h1 : (part f.type xs f.offset).run P w = .ok x w) (h2 : (part f.type ys f.offset).run P w = .ok y w)
    (h3 : (Op.equalIn d f.type x y).run P w = .ok b w) (h4 : (Op.eqFields d xs ys fs).run P w = .ok c w) : (Op.eqFields d xs ys (f :: fs)).run P w = .ok (b && c) w := by
  simp only [Op.eqFields, hn, ne_eq, not_false_eq_true, if_true, Sem.run_bind, h1, h2, h3, Result.andThen_ok]
  cases b with
  | true => simp [h4]
  | false => simp
theorem run_eqFields_nil {d : Nat} {xs ys : Array Value} : (Op.eqFields d xs ys []).run P w = .ok true w := by simp [Op.eqFields]
end

theorem eq22 (s u : Fin 32 → Int) (d : Nat) (w : World) : (Op.equalIn (d + 2) 22 (.agg (sumC s).toArray) (.agg (sumC u).toArray)).run Try.prog w = .ok (sumEq s u) w := by
  have hg : ∀ (s : Fin 32 → Int) (i : Nat) (h : i < 32), (sumC s).toArray[i * 1]? = some (.int .u8 (s ⟨i, h⟩)) := by
    intro s i h
    simp only [Nat.mul_one]
    rcases i with _|_|_|_|_|_|_|_|_|_|_|_|_|_|_|_|_|_|_|_|_|_|_|_|_|_|_|_|_|_|_|_|i <;> first | rfl | omega
  rw [run_eq_array (f := fun i => if h : i < 32 then s ⟨i, h⟩ == u ⟨i, h⟩ else true) Try.underlying22 sz5 ?_]
  · congr 1
  · intro i hi
    refine ⟨_, _, run_part_cell Try.underlying5 rfl (hg s i hi), run_part_cell Try.underlying5 rfl (hg u i hi), ?_⟩
    rw [dif_pos hi]
    exact run_eq_int (k' := .u8) Try.underlying5
theorem run_eq_struct {P : Program} {w : World} {d : Nat} {t : TypeId} {fs : Array Field} {xs ys : Array Value} {b : Bool} (hu : P.underlying t = some (.struct fs)) (hp : P.stoodInHeld t = false) (h : (Op.eqFields d xs ys fs.toList).run P w = .ok b w) :
    (Op.equalIn (d + 1) t (.agg xs) (.agg ys)).run P w = .ok b w := by
  have hf : P.fieldsOf t = fs := by simp [Program.fieldsOf, hu]
  rw [run_equalIn_struct w d t xs ys (by rw [hf]; exact hu) hp, hf]
  exact h
theorem eq26 (m n : Mrk) (d : Nat) (w : World) : (Op.equalIn (d + 2) 26 (.agg (mrkC m).toArray) (.agg (mrkC n).toArray)).run Try.prog w = .ok (mrkEq m n) w := by
  refine run_eq_struct Try.underlying26 sh26 ?_
  have := run_eqFields_cons (P := Try.prog) (w := w) (d := d + 1) (xs := (mrkC m).toArray) (ys := (mrkC n).toArray) (f := ⟨ "Number", 3, 0, false, "", "", 0⟩) (by decide) (run_part_cell Try.underlying3 rfl rfl) (run_part_cell Try.underlying3 rfl rfl) (run_eq_int Try.underlying3)
    (run_eqFields_cons (f := ⟨ "Stamp", 3, 1, false, "", "", 8⟩) (by decide) (run_part_cell Try.underlying3 rfl rfl) (run_part_cell Try.underlying3 rfl rfl) (run_eq_int Try.underlying3) run_eqFields_nil)
  simpa [mrkEq] using this
theorem eq27 (m n : Mk2) (d : Nat) (w : World) : (Op.equalIn (d + 3) 27 (.agg (mk2C m).toArray) (.agg (mk2C n).toArray)).run Try.prog w = .ok (mk2Eq m n) w := by
  rw [run_eq_array (f := fun i => if i = 0 then mrkEq m.a n.a else mrkEq m.b n.b) Try.underlying27 sz26 ?_]
  · simp [mk2Eq, List.range_succ]
  · intro i hi
    rcases i with _|_|i
    · exact ⟨_, _, run_part_agg Try.underlying26 rfl sz26, run_part_agg Try.underlying26 rfl sz26, eq26 m.a n.a d w⟩
    · exact ⟨_, _, run_part_agg Try.underlying26 rfl sz26, run_part_agg Try.underlying26 rfl sz26, eq26 m.b n.b d w⟩
    · omega
theorem run_part_list {P : Program} {w : World} {t : TypeId} {d : TypeDesc} {l seg : List Value} {o n : Nat} (hu : P.underlying t = some d) (hd : d.isRow = true) (hz : (P.info? t).map (·.size) = some n) (hs : (l.drop o).take n = seg) :
    (part t l.toArray o).run P w = .ok (.agg seg.toArray) w := by
  rw [run_part_agg hu hd hz, List.extract_toArray, ← hs]
  simp [List.extract_eq_take_drop]
theorem eq24 (v u : Val) (d : Nat) (w : World) : (Op.equalIn (d + 3) 24 (.agg (valC v).toArray) (.agg (valC u).toArray)).run Try.prog w = .ok (valEq v u) w := by
  refine run_eq_struct Try.underlying24 sh24 ?_
  have h22 : (part 22 (valC v).toArray 3).run Try.prog w = .ok (.agg (sumC v.sum).toArray) w := run_part_list Try.underlying22 rfl sz22 rfl
  have h22' : (part 22 (valC u).toArray 3).run Try.prog w = .ok (.agg (sumC u.sum).toArray) w := run_part_list Try.underlying22 rfl sz22 rfl
  have := run_eqFields_cons (P := Try.prog) (w := w) (d := d + 2) (xs := (valC v).toArray) (ys := (valC u).toArray) (f := ⟨ "Kind", 3, 0, false, "", "", 0⟩) (by decide) (run_part_cell Try.underlying3 rfl rfl) (run_part_cell Try.underlying3 rfl rfl) (run_eq_int Try.underlying3)
    (run_eqFields_cons (f := ⟨ "Mode", 3, 1, false, "", "", 8⟩) (by decide) (run_part_cell Try.underlying3 rfl rfl) (run_part_cell Try.underlying3 rfl rfl) (run_eq_int Try.underlying3)
    (run_eqFields_cons (f := ⟨ "Size", 3, 2, false, "", "", 16⟩) (by decide) (run_part_cell Try.underlying3 rfl rfl) (run_part_cell Try.underlying3 rfl rfl) (run_eq_int Try.underlying3)
    (run_eqFields_cons (f := ⟨ "Sum", 22, 3, false, "", "", 24⟩) (by decide) h22 h22' (eq22 v.sum u.sum d w) run_eqFields_nil)))
  simpa [valEq] using this
theorem eqv22 (s u : Fin 32 → Int) (w : World) : (Op.equalIn 10000 22 (.agg (sumC s).toArray) (.agg (sumC u).toArray)).run Try.prog w = .ok (sumEq s u) w := eq22 s u 9998 w
theorem eqv26 (m n : Mrk) (w : World) : (Op.equalIn 10000 26 (.agg (mrkC m).toArray) (.agg (mrkC n).toArray)).run Try.prog w = .ok (mrkEq m n) w := eq26 m n 9998 w
theorem eqv27 (m n : Mk2) (w : World) : (Op.equalIn 10000 27 (.agg (mk2C m).toArray) (.agg (mk2C n).toArray)).run Try.prog w = .ok (mk2Eq m n) w := eq27 m n 9997 w
theorem eqv24 (v u : Val) (w : World) : (Op.equalIn 10000 24 (.agg (valC v).toArray) (.agg (valC u).toArray)).run Try.prog w = .ok (valEq v u) w := eq24 v u 9997 w
theorem sumEq_iff {s u : Fin 32 → Int} : sumEq s u = true ↔ s = u := by
  unfold sumEq
  simp only [List.all_eq_true, List.mem_finRange, true_imp_iff, beq_iff_eq]
  exact ⟨fun h => funext h, fun h i => by rw [h]⟩
theorem valEq_iff {v u : Val} : valEq v u = true ↔ v = u := by
  cases v; cases u
  simp [valEq, sumEq_iff]
theorem mrkEq_iff {m n : Mrk} : mrkEq m n = true ↔ m = n := by
  cases m; cases n
  simp [mrkEq]
theorem mk2Eq_iff {m n : Mk2} : mk2Eq m n = true ↔ m = n := by
  cases m; cases n
  simp [mk2Eq, mrkEq_iff]
end Go.Eng

set_option linter.unusedVariables false
set_option linter.unusedSimpArgs false
namespace Go.Eng
open Go Go.RowKit Go.Proofs

/-! ### nodes -/
inductive Nd where
  | mk (name : ByteArray) (val : Val) (marks : Mk2) (kids : List Nd)
def Nd.name : Nd → ByteArray | .mk n _ _ _ => n
def Nd.val : Nd → Val | .mk _ v _ _ => v
def Nd.marks : Nd → Mk2 | .mk _ _ m _ => m
def Nd.kids : Nd → List Nd | .mk _ _ _ k => k
def nodeC (n : ByteArray) (v : Val) (m : Mk2) (k : Value) : List Value := .string n :: (valC v ++ (mk2C m ++ [k]))
def ndC (n : Nd) (k : Value) : List Value := nodeC n.name n.val n.marks k
/-- a list of nodes, read out of memory that stands still -/
inductive RNds (Z : Nat → Prop) (w : World) : List Nd → Value → Prop
  | nil (A : Option Addr) (c : Nat) : RNds Z w [] (.slice A 0 c)
  | mk {l : List Nd} {b o c : Nat} {cs : Array Value} {te : TypeId} {fr : Nat × Nat} (kv : Nat → Value) (hl : l.length ≤ c) (hc : c ≤ 9223372036854775807) (hb : FB Z w b (.cells cs te fr))
    (hs : ∀ i nd, l[i]? = some nd → SegAt cs (o + i * 41) (ndC nd (kv i))) (hk : ∀ i nd, l[i]? = some nd → RNds Z w nd.kids (kv i)) : RNds Z w l (.slice (some ⟨b, o, none⟩) l.length c)
theorem RNds.ext {Z Z' : Nat → Prop} {w w' : World} (h : Ext Z w Z' w') : ∀ {l : List Nd} {v : Value}, RNds Z w l v → RNds Z' w' l v := by
  intro l v hr
  induction hr with
  | nil A c => exact .nil A c
  | mk kv hl hc hb hs hk ih => exact .mk kv hl hc (h.fb _ _ hb) hs ih
theorem RNds.slice {Z : Nat → Prop} {w : World} {l : List Nd} {v : Value} (h : RNds Z w l v) : ∃ A c, v = .slice A l.length c ∧ l.length ≤ 9223372036854775807 := by
  cases h with
  | nil A c => exact ⟨A, c, rfl, by simp⟩
  | mk kv hl hc hb hs hk => exact ⟨_, _, rfl, by omega⟩
/-- one element -/
theorem RNds.at_ {Z : Nat → Prop} {w : World} {l : List Nd} {v : Value} (h : RNds Z w l v) {i : Nat} {nd : Nd} (hi : l[i]? = some nd) :
    ∃ b o c cs te fr k, v = .slice (some ⟨b, o, none⟩) l.length c ∧ FB Z w b (.cells cs te fr) ∧ SegAt cs (o + i * 41) (ndC nd k) ∧ RNds Z w nd.kids k := by
  cases h with
  | nil A c => simp at hi
  | mk kv hl hc hb hs hk => exact ⟨_, _, _, _, _, _, kv i, rfl, hb, hs i nd hi, hk i nd hi⟩

/-! parts of a node at a place -/
theorem nodeC_val (n : ByteArray) (v : Val) (m : Mk2) (k : Value) : ∀ j u, (valC v)[j]? = some u → (nodeC n v m k)[1 + j]? = some u := fun j u h => by
  rw [nodeC, Nat.add_comm, List.getElem?_cons_succ, List.getElem?_append_left (List.getElem?_eq_some_iff.1 h).1]; exact h
theorem valC_length (v : Val) : (valC v).length = 35 := rfl
theorem mk2C_length (m : Mk2) : (mk2C m).length = 4 := rfl
theorem nodeC_marks (n : ByteArray) (v : Val) (m : Mk2) (k : Value) : ∀ j u, (mk2C m)[j]? = some u → (nodeC n v m k)[36 + j]? = some u := fun j u h => by
  rw [nodeC, show 36 + j = 35 + j + 1 by omega, List.getElem?_cons_succ, List.getElem?_append_right (by rw [valC_length]; omega), valC_length, show 35 + j - 35 = j by omega, List.getElem?_append_left (List.getElem?_eq_some_iff.1 h).1]; exact h
theorem sz24 : (Try.prog.info? 24).map (·.size) = some 35 := by kernel_rfl
theorem sz27 : (Try.prog.info? 27).map (·.size) = some 4 := by kernel_rfl
theorem sz30 : (Try.prog.info? 30).map (·.size) = some 41 := by kernel_rfl
section
variable {cs : Array Value} {o : Nat} {n : ByteArray} {v : Val} {m : Mk2} {k : Value}
theorem pn_val (h : SegAt cs o (nodeC n v m k)) : PartAt Try.prog 24 cs (o + 1) (.agg (valC v).toArray) := .seg (h.sub 1 (nodeC_val n v m k)) Try.underlying24 rfl sz24
theorem pn_marks (h : SegAt cs o (nodeC n v m k)) : PartAt Try.prog 27 cs (o + 36) (.agg (mk2C m).toArray) := .seg (h.sub 36 (nodeC_marks n v m k)) Try.underlying27 rfl sz27
theorem pn_all (h : SegAt cs o (nodeC n v m k)) : PartAt Try.prog 30 cs o (.agg (nodeC n v m k).toArray) := .seg h Try.underlying30 rfl sz30
theorem pn_name (h : SegAt cs o (nodeC n v m k)) : PartAt Try.prog 9 cs (o + 0) (.string n) := .cell Try.underlying9 rfl (h 0 _ rfl)
theorem pn_kind (h : SegAt cs o (nodeC n v m k)) : PartAt Try.prog 3 cs (o + 1 + 0) (.int .i64 v.kind) := .cell Try.underlying3 rfl (h 1 _ rfl)
theorem pn_mode (h : SegAt cs o (nodeC n v m k)) : PartAt Try.prog 3 cs (o + 1 + 1) (.int .i64 v.mode) := .cell Try.underlying3 rfl (h 2 _ rfl)
theorem pn_kids (h : SegAt cs o (nodeC n v m k)) : PartAt Try.prog 28 cs (o + 40) k := .cell Try.underlying28 rfl (h 40 _ rfl)
end
theorem node_self (n : ByteArray) (v : Val) (m : Mk2) (k : Value) : SegAt (Value.cells (.agg (nodeC n v m k).toArray)) 0 (nodeC n v m k) := SegAt.self _
end Go.Eng

set_option linter.unusedVariables false
set_option linter.unusedSimpArgs false
namespace Go.Eng
open Go Go.RowKit
/-! ### results of any shape -/
section
variable {P : Program} {r : Option Nat} {N : Nat} {ds : List Deferred} {ops : Array Oper} {Q : Post} {t : Fm} {rest : List Oper}
variable {w0 : World} {E Z0 Z : Nat → Prop} {wz : World} {L K : List Res}
inductive RVok (P : Program) (t : Fm) (Z : Nat → Prop) (wz : World) (L : List Res) : List ResultVar → List Value → Prop where
  | nil : RVok P t Z wz L [] []
  | tmp {i : Nat} {v : Value} {rs : List ResultVar} {vs : List Value} (hv : look t i = some v) (h : RVok P t Z wz L rs vs) : RVok P t Z wz L (.tmp i :: rs) (v :: vs)
  | cell {i : Nat} {ty : TypeId} {b o : Nat} {cs : Array Value} {te : TypeId} {fr : Nat × Nat} {v : Value} {rs : List ResultVar} {vs : List Value} (hv : look t i = some (.pointer (some ⟨b, o, none⟩)))
      (hb : Has Z wz L b (.cells cs te fr)) (hp : PartAt P ty cs o v) (h : RVok P t Z wz L rs vs) : RVok P t Z wz L (.cell i ty :: rs) (v :: vs)
theorem RVok.run {a : Act} {w : World} (ha : Fr N ds t a) (hw : Mem w0 E Z0 Z wz L w) {rs : List ResultVar} {vs : List Value} (hv : RVok P t Z wz L rs vs) (f : ResultVar → Sem Value) (hf : ∀ u, f (.tmp u) = pure (a.tmps.getD u undef)) (hc : ∀ p t, f (.cell p t) = (do loadVar t (← asAddr (a.tmps.getD p undef)))) :
    (rs.mapM f).run P w = .ok vs w := by
  induction hv with
  | nil => simp
  | tmp hv h ih =>
    have := ha.get _ _ hv
    simp [List.mapM_cons, hf, ih, this]
  | cell hv hb hp h ih =>
    have h1 := ha.get _ _ hv
    have h2 := run_loadAt_part (hw.has hb) hp
    simp only [Instr.loadAt, Instr.sureAddr, Sem.run_bind, Sem.run_pure, Result.andThen_ok] at h2
    rw [List.mapM_cons, hc]
    simp [h1, asAddr, h2, ih]
theorem retL1 {fn : Func} {R : Ending → World → Prop} {rv : ResultVar} {v : Value} (hres : fn.results = #[rv]) (hv : RVok P t Z wz L [rv] [v]) (h : ∀ w, Mem w0 E Z0 Z wz L w → R (.returned v) w) : JX N [] .ret (bodyPost P fn R) t (Mem w0 E Z0 Z wz L) :=
  fun a w ha hw => ⟨ha.defers, v, by
    unfold results
    rw [show fn.results = [rv].toArray from hres, List.mapM_toArray]
    simp only [Sem.run_bind, Sem.run_map]
    rw [hv.run ha hw _ (fun _ => rfl) (fun _ _ => rfl)]
    simp, h w hw⟩
theorem retL {fn : Func} {R : Ending → World → Prop} {rs : List ResultVar} {vs : List Value} (hres : fn.results = rs.toArray) (hl : Nat.beq vs.length 1 = false) (hv : RVok P t Z wz L rs vs) (h : ∀ w, Mem w0 E Z0 Z wz L w → R (.returned (.tuple vs.toArray)) w) : JX N [] .ret (bodyPost P fn R) t (Mem w0 E Z0 Z wz L) :=
  fun a w ha hw => ⟨ha.defers, _, by
    unfold results
    rw [hres, List.mapM_toArray]
    simp only [Sem.run_bind, Sem.run_map]
    rw [hv.run ha hw _ (fun _ => rfl) (fun _ _ => rfl)]
    have : vs.length ≠ 1 := Nat.ne_of_beq_eq_false hl
    simp [this], h w hw⟩
end
/-! ### rows of items that stand still -/
def RItems (Z : Nat → Prop) (w : World) (sz : Nat) {α : Type} (f : α → List Value) (l : List α) (v : Value) : Prop :=
  ∃ A c, v = .slice A l.length c ∧ l.length ≤ c ∧ c ≤ 9223372036854775807 ∧ (l = [] ∨ ∃ b o cs te fr, A = some ⟨b, o, none⟩ ∧ FB Z w b (.cells cs te fr) ∧ ∀ i x, l[i]? = some x → SegAt cs (o + i * sz) (f x))
section
variable {α : Type} {f : α → List Value} {sz : Nat} {Z : Nat → Prop} {w : World} {l : List α} {v : Value}
theorem RItems.ext {Z' : Nat → Prop} {w' : World} (h : Ext Z w Z' w') (hr : RItems Z w sz f l v) : RItems Z' w' sz f l v := by
  obtain ⟨A, c, rfl, h1, h2, h3⟩ := hr
  refine ⟨A, c, rfl, h1, h2, ?_⟩
  rcases h3 with h3 | ⟨b, o, cs, te, fr, rfl, hf, hc⟩
  · exact .inl h3
  · exact .inr ⟨b, o, cs, te, fr, rfl, h.fb _ _ hf, hc⟩
theorem RItems.at_ (hr : RItems Z w sz f l v) {i : Nat} {x : α} (hi : l[i]? = some x) : ∃ b o c cs te fr, v = .slice (some ⟨b, o, none⟩) l.length c ∧ FB Z w b (.cells cs te fr) ∧ SegAt cs (o + i * sz) (f x) := by
  obtain ⟨A, c, rfl, h1, h2, h3⟩ := hr
  rcases h3 with rfl | ⟨b, o, cs, te, fr, rfl, hf, hc⟩
  · simp at hi
  · exact ⟨b, o, c, cs, te, fr, rfl, hf, hc i x hi⟩
theorem RItems.slice (hr : RItems Z w sz f l v) : ∃ A c, v = .slice A l.length c ∧ l.length ≤ 9223372036854775807 := by
  obtain ⟨A, c, rfl, h1, h2, h3⟩ := hr
  exact ⟨A, c, rfl, by omega⟩
theorem RItems.nil : RItems Z w sz f [] (.slice none 0 0) := ⟨none, 0, rfl, Nat.le_refl _, by omega, .inl rfl⟩
theorem flat_length (hf : ∀ x, (f x).length = sz) (l : List α) : (l.flatMap f).length = l.length * sz := by
  induction l with
  | nil => simp
  | cons x l ih => simp [ih, hf, Nat.succ_mul, Nat.add_comm]
theorem flat_get (hf : ∀ x, (f x).length = sz) {l : List α} {i j : Nat} {x : α} {u : Value} (hi : l[i]? = some x) (hj : (f x)[j]? = some u) : (l.flatMap f)[i * sz + j]? = some u := by
  induction l generalizing i with
  | nil => simp at hi
  | cons y l ih =>
    rw [List.flatMap_cons]
    cases i with
    | zero =>
      simp at hi; subst hi
      rw [Nat.zero_mul, Nat.zero_add, List.getElem?_append_left (List.getElem?_eq_some_iff.1 hj).1]; exact hj
    | succ i =>
      rw [List.getElem?_append_right (by rw [hf, Nat.succ_mul]; omega), hf, show (i + 1) * sz + j - sz = i * sz + j by rw [Nat.succ_mul]; omega]
      exact ih (by simpa using hi)
/-- all the cells of it -/
theorem RItems.flat (hf : ∀ x, (f x).length = sz) (hsz : 0 < sz) {b o : Nat} {cs : Array Value} (h : ∀ i x, l[i]? = some x → SegAt cs (o + i * sz) (f x)) : SegAt cs o (l.flatMap f) := fun j u hu => by
  have hj := (List.getElem?_eq_some_iff.1 hu).1
  rw [flat_length hf] at hj
  have hi : j / sz < l.length := Nat.div_lt_of_lt_mul (by rw [Nat.mul_comm]; exact hj)
  have h1 : l[j / sz]? = some l[j / sz] := List.getElem?_eq_getElem hi
  have hm : j % sz < (f l[j / sz]).length := by rw [hf]; exact Nat.mod_lt _ hsz
  have h2 := flat_get hf h1 (List.getElem?_eq_getElem hm)
  rw [Nat.mul_comm, Nat.div_add_mod] at h2
  rw [h2] at hu
  have h3 := h _ _ h1 (j % sz) _ (List.getElem?_eq_getElem hm)
  rw [← hu, ← h3, Nat.add_assoc, Nat.mul_comm, Nat.div_add_mod]
end
section
variable {P : Program} {r : Option Nat} {N : Nat} {ds : List Deferred} {ops : Array Oper} {Q : Post} {t : Fm} {rest : List Oper}
variable {w0 : World} {E Z0 Z : Nat → Prop} {wz : World} {L K : List Res}
/-- a row of items is left to stand still -/
theorem Mem.freezeItems {α : Type} {f : α → List Value} {sz : Nat} {w : World} (h : Mem w0 E Z0 Z wz L w) (hf : ∀ x, (f x).length = sz) {v : Value} {e : TypeId} {l : List α} {L' : List Res} (hd : Del L (.row v e sz l.length (l.flatMap f)) L')
    (hE : ∀ b, v.ownBlock = some b → w0.heap.size ≤ b) :
    ∃ Z', Mem w0 E Z0 Z' w L' w ∧ Ext Z wz Z' w ∧ RItems Z' w sz f l v := by
  have hown : w.ownsRow 0 e sz v l.length (l.flatMap f) := h.own _ hd.mem
  have hs := h.size
  rcases hown.2 with ⟨rfl, hn⟩ | ⟨g, cap, cur, rfl, _, hg, hnc, hcm, hcs, htk⟩
  · have hx : l = [] := List.eq_nil_of_length_eq_zero hn
    subst hx
    refine ⟨Z, ?_, ⟨fun b o hf => ⟨hf.z, h.frz b o hf.z hf.at_⟩⟩, RItems.nil⟩
    have hm := h.sub hd.sub
    have := h.size0
    exact ⟨hm.os, hm.tape, hm.output, by omega, Nat.le_refl _, hm.base, fun _ _ _ h => h, fun b hb => (h.zb b hb).imp id (fun h => ⟨h.1, by omega⟩), hm.zlt, hm.own, hm.sep, hm.nodup⟩
  · have hb : w0.heap.size ≤ g := hE g rfl
    refine ⟨_, h.freeze rfl hd hb, h.ext_freeze g, ?_⟩
    refine ⟨_, cap, rfl, hnc, hcm, .inr ⟨g, 0, cur, e, (0, 0), rfl, ⟨.inr rfl, hg⟩, fun i x hi j u hu => ?_⟩⟩
    have h1 := flat_get hf hi hu
    have h2 := (List.getElem?_eq_some_iff.1 h1).1
    rw [flat_length hf] at h2
    rw [Nat.zero_add, ← Array.getElem?_toList, ← h1, ← htk, List.getElem?_take, if_pos (by omega)]
theorem JL_freezeItems {α : Type} {f : α → List Value} {sz : Nat} (hf : ∀ x, (f x).length = sz) {v : Value} {e : TypeId} {x : List α} {L' : List Res} {l : List Oper} (hd : Del L (.row v e sz x.length (x.flatMap f)) L')
    (h : ∀ Z' wz', Ext Z wz Z' wz' → RItems Z' wz' sz f x v → JL P r N ds ops Q l t (Mem w0 (fun _ => False) Z0 Z' wz' L')) : JL P r N ds ops Q l t (Mem w0 (fun _ => False) Z0 Z wz L) := fun a w ha hw => by
  obtain ⟨Z', h1, h2, h3⟩ := hw.freezeItems hf hd (fun b hb => ((hw.sep _ hd.mem b hb).2).elim id (fun h => h.elim))
  exact h Z' w h2 h3 a w ha h1
end
end Go.Eng

set_option linter.unusedVariables false
set_option linter.unusedSimpArgs false
namespace Go.Eng
open Go Go.RowKit
/-! ### iterators: what is fed, till the taker stops -/
def feed (cont : Nat → Bool) : Nat → Nat → Bool × Nat
  | i, 0 => (true, i)
  | i, k + 1 => if cont i then feed cont (i + 1) k else (false, i + 1)
theorem feed_zero (cont : Nat → Bool) (i : Nat) : feed cont i 0 = (true, i) := rfl
theorem feed_succ (cont : Nat → Bool) (i k : Nat) : feed cont i (k + 1) = if cont i then feed cont (i + 1) k else (false, i + 1) := rfl
theorem feed_true {cont : Nat → Bool} : ∀ {i k : Nat}, (feed cont i k).1 = true → (feed cont i k).2 = i + k
  | i, 0, _ => rfl
  | i, k + 1, h => by
    rw [feed_succ] at h ⊢
    cases hc : cont i with
    | true => simp only [hc, if_true] at h ⊢; rw [feed_true h]; omega
    | false => simp [hc] at h
theorem feed_add (cont : Nat → Bool) : ∀ (i a b : Nat), feed cont i (a + b) = if (feed cont i a).1 then feed cont (i + a) b else feed cont i a
  | i, 0, b => by simp [feed_zero]
  | i, a + 1, b => by
    rw [show a + 1 + b = (a + b) + 1 by omega, feed_succ, feed_succ]
    cases h : cont i with
    | true => simp only [if_true]; rw [feed_add cont (i + 1) a b, show i + 1 + a = i + (a + 1) by omega]
    | false => simp
theorem feed_iff {cont : Nat → Bool} : ∀ {i k : Nat}, (feed cont i k).1 = true ↔ ∀ j, j < k → cont (i + j) = true
  | i, 0 => by simp [feed_zero]
  | i, k + 1 => by
    rw [feed_succ]
    cases h : cont i with
    | true =>
      simp only [if_true]
      rw [feed_iff]
      constructor
      · intro h1 j hj
        cases j with
        | zero => exact h
        | succ j => have := h1 j (by omega); rwa [show i + 1 + j = i + (j + 1) by omega] at this
      · intro h1 j hj
        have := h1 (j + 1) (by omega); rwa [show i + (j + 1) = i + 1 + j by omega] at this
    | false => simp; exact ⟨0, by omega, by simpa using h⟩
theorem feed_le (cont : Nat → Bool) : ∀ (i k : Nat), i ≤ (feed cont i k).2 ∧ (feed cont i k).2 ≤ i + k
  | i, 0 => by simp [feed_zero]
  | i, k + 1 => by
    rw [feed_succ]
    split
    · have := feed_le cont (i + 1) k; omega
    · simp
section
variable {P : Program} {r : Option Nat} {N : Nat} {ds : List Deferred} {ops : Array Oper} {Q : Post} {t : Fm} {rest : List Oper}
variable {w0 : World} {E Z0 Z : Nat → Prop} {wz : World} {L K : List Res}
variable {ty : TypeId} {pos : String} {aft : Array Edge} {d : Nat}
theorem Mem.holds0 {w : World} (h : Mem w0 E Z0 Z wz L w) : Holds L w := ⟨h.own, h.nodup⟩
theorem Mem.ext_ZL0 {w : World} (h : Mem w0 E Z0 Z wz L w) : Ext Z wz (ZL L w) w := ⟨fun b o hf => ⟨⟨h.zlt' b hf.z, fun r hr hb => (h.sep r hr b hb).1 hf.z⟩, h.frz b o hf.z hf.at_⟩⟩
/-- a call that turns all that is held -/
theorem st_mcallF0 {fo : Operand} {f : FuncId} {ca : Array Value} {l : List Operand} {ats : Array TypeId} {vs : List Value} {R : Value → List Res → Prop}
    (hfo : ev t fo = some (.func (.func f) #[] ca)) (hl : evOps t l = some vs) (he : Enters P f) (hd : d < N)
    (hc : ∀ w, Mem w0 E Z0 Z wz L w → MCalls P f (vs.toArray ++ ca) w L R)
    (h : ∀ v L', R v L' → JL P r N ds ops Q rest ((d, v) :: t) (Mem w0 E Z0 Z wz L')) :
    JL P r N ds ops Q (⟨some d, .call { callee := .value fo, args := l.toArray, argTypes := ats }, ty, pos, aft, none⟩ :: rest) t (Mem w0 E Z0 Z wz L) :=
  st_mcallF L [] (List.append_nil _).symm hfo hl he hd (fun w hw => hc w (by simpa using hw)) (fun v L' hR => by rw [List.append_nil]; exact h v L' hR)
theorem st_mcall0 {f : FuncId} {l : List Operand} {ats : Array TypeId} {vs : List Value} {R : Value → List Res → Prop}
    (hl : evOps t l = some vs) (he : Enters P f) (hd : d < N)
    (hc : ∀ w, Mem w0 E Z0 Z wz L w → MCalls P f vs.toArray w L R)
    (h : ∀ v L', R v L' → JL P r N ds ops Q rest ((d, v) :: t) (Mem w0 E Z0 Z wz L')) :
    JL P r N ds ops Q (⟨some d, .call { callee := .value (.func f), args := l.toArray, argTypes := ats }, ty, pos, aft, none⟩ :: rest) t (Mem w0 E Z0 Z wz L) :=
  st_mcall L [] (List.append_nil _).symm hl he hd (fun w hw => hc w (by simpa using hw)) (fun v L' hR => by rw [List.append_nil]; exact h v L' hR)
end
end Go.Eng

set_option linter.unusedVariables false
set_option linter.unusedSimpArgs false
namespace Go.Eng
open Go Go.RowKit
section
variable {P : Program} {ops : Array Oper} {Q : Post} {N : Nat} {ds : List Deferred} {t : Fm} {M : World → Prop} {F : World → Prop} {m fuel : Nat} {listed : Array Bool}
/-- one operation of those that may come up -/
def JK (P : Program) (N : Nat) (ds : List Deferred) (ops : Array Oper) (Q : Post) (F : World → Prop) (m : Nat) (fuel : Nat) (listed : Array Bool) (t : Fm) (M : World → Prop) (i : Nat) : Prop :=
  ∀ a w, Fr N ds t a → M w → ClosedL ops listed → i ∈ Region.ready .any ops listed → wpOpP P ops i (fun a' w' => Held F m (listed.setIfInBounds i true) w' ∧ wpAnyG P ops Q F m fuel (listed.setIfInBounds i true) a' w') a w
theorem JR_split (l : List Nat) (hr : Region.ready .any ops listed = l) (hne : l.isEmpty = false) (h : ∀ i ∈ l, JK P N ds ops Q F m fuel listed t M i) : JR P N ds ops Q F m (fuel + 1) listed t M := fun a w ha hM hcl =>
  ⟨fun h0 => (by rw [← hr, h0] at hne; cases hne), fun k hk => h k (hr ▸ hk) a w ha hM hcl hk⟩
theorem all1 {p : Nat → Prop} {a : Nat} (h : p a) : ∀ i ∈ [a], p i := by simpa using h
theorem all2 {p : Nat → Prop} {a b : Nat} (h : p a) (h2 : p b) : ∀ i ∈ [a, b], p i := by simp [h, h2]
theorem all3 {p : Nat → Prop} {a b c : Nat} (h : p a) (h2 : p b) (h3 : p c) : ∀ i ∈ [a, b, c], p i := by simp [h, h2, h3]
theorem wanted_none {o : Oper} (hg : o.guard = none) (y : Nat → Option Bool) : Region.wanted o y = true := by simp [Region.wanted, hg]
theorem wanted_yes {o : Oper} {j gt : Nat} {b : Bool} (hg : o.guard = some (j, b)) (hj : (ops[j]?).bind (·.dst) = some gt) (hb : look t gt = some (.bool b)) {a : Act} (ha : Fr N ds t a) : Region.wanted o (yielded ops a.tmps) = true := by
  have hy : yielded ops a.tmps j = some b := by
    unfold yielded
    rw [hj]
    simp [ha.get _ _ hb]
  simp [Region.wanted, hg, hy]
/-- a guard, or none -/
def Wants (ops : Array Oper) (t : Fm) (g : Option (Nat × Bool)) : Prop := match g with
  | none => True
  | some (j, b) => ∃ gt, (ops[j]?).bind (·.dst) = some gt ∧ look t gt = some (.bool b)
theorem Wants.wanted {o : Oper} (h : Wants ops t o.guard) {a : Act} (ha : Fr N ds t a) : Region.wanted o (yielded ops a.tmps) = true := by
  cases hg : o.guard with
  | none => exact wanted_none hg _
  | some p =>
    obtain ⟨j, b⟩ := p
    rw [hg] at h
    obtain ⟨gt, h1, h2⟩ := h
    exact wanted_yes hg h1 h2 ha
theorem JK_call {i d f : Nat} {o : Oper} {vs : Array Value} {β : Type} (val : β → Value) (M' : β → World → Prop) (hi : ops[i]? = some o) (hdst : o.dst = some d) (hd : d < N)
    (hw : Wants ops t o.guard)
    (hrun : ∀ a w, Fr N ds t a → M w → (execOp a.eval o).run P w = .ok (.enter f vs) w)
    (hc : ∀ w, M w → Calls P f vs w fun e w' => ∃ x, e = .returned (val x) ∧ M' x w') (hF : ∀ x w', M' x w' → F w')
    (h : ∀ x, JR P N ds ops Q F m fuel (listed.setIfInBounds i true) ((d, val x) :: t) (M' x)) : JK P N ds ops Q F m fuel listed t M i := fun a w ha hM hcl hk => by
  unfold wpOpP
  simp only [hi, hw.wanted ha, if_true]
  rw [hrun a w ha hM]
  refine (hc w hM).mono ?_
  rintro e w' ⟨x, rfl, hM'⟩
  exact ⟨_, rfl, fun _ => hF x w' hM', h x _ w' (by rw [hdst]; exact ha.put hd _) hM' (hcl.set hk)⟩
theorem JK_op {i d : Nat} {o : Oper} {β : Type} (val : β → Value) (M' : β → World → Prop) (hi : ops[i]? = some o) (hdst : o.dst = some d) (hd : d < N)
    (hw : Wants ops t o.guard)
    (hrun : ∀ a w, Fr N ds t a → M w → ∃ x w', (execOp a.eval o).run P w = .ok (.value (val x)) w' ∧ M' x w') (hF : ∀ x w', M' x w' → F w')
    (h : ∀ x, JR P N ds ops Q F m fuel (listed.setIfInBounds i true) ((d, val x) :: t) (M' x)) : JK P N ds ops Q F m fuel listed t M i := fun a w ha hM hcl hk => by
  unfold wpOpP
  simp only [hi, hw.wanted ha, if_true]
  obtain ⟨x, w', hr, hM'⟩ := hrun a w ha hM
  rw [hr]
  exact ⟨fun _ => hF x w' hM', h x _ w' (by rw [hdst]; exact ha.put hd _) hM' (hcl.set hk)⟩
theorem JK_do {i : Nat} {o : Oper} (M' : World → Prop) (hi : ops[i]? = some o) (hdst : o.dst = none)
    (hw : Wants ops t o.guard)
    (hrun : ∀ a w, Fr N ds t a → M w → ∃ w', (execOp a.eval o).run P w = .ok .skip w' ∧ M' w') (hF : ∀ w', M' w' → F w')
    (h : JR P N ds ops Q F m fuel (listed.setIfInBounds i true) t M') : JK P N ds ops Q F m fuel listed t M i := fun a w ha hM hcl hk => by
  unfold wpOpP
  simp only [hi, hw.wanted ha, if_true]
  obtain ⟨w', hr, hM'⟩ := hrun a w ha hM
  rw [hr]
  exact ⟨fun _ => hF w' hM', h _ w' (by rw [hdst]; exact ha) hM' (hcl.set hk)⟩
section
variable {w0 : World} {E Z0 Z : Nat → Prop} {wz : World} {L : List Res} {ty : TypeId} {pos : String} {aft : Array Edge} {g : Option (Nat × Bool)} {d : Nat}
theorem run_call {f : FuncId} {l : List Operand} {ats : Array TypeId} {vs : List Value} (hl : evOps t l = some vs) (he : Enters P f) (a : Act) (w : World) (ha : Fr N ds t a) :
    (execOp a.eval ⟨some d, .call { callee := .value (.func f), args := l.toArray, argTypes := ats }, ty, pos, aft, g⟩).run P w = .ok (.enter f vs.toArray) w := by
  obtain ⟨fn, hf, hn, hb⟩ := he
  have h2 := evOps_eval ha l vs hl
  unfold execOp
  simp [resolve, Deferred.ofValue, Act.eval, invoke, h2, run_enter hf hn hb]
theorem JK_scall {i : Nat} {f : FuncId} {l : List Operand} {ats : Array TypeId} {vs : List Value} {R : Value → Prop} (hi : ops[i]? = some ⟨some d, .call { callee := .value (.func f), args := l.toArray, argTypes := ats }, ty, pos, aft, g⟩)
    (hw : Wants ops t g) (hl : evOps t l = some vs) (he : Enters P f) (hd : d < N)
    (hc : ∀ w, Mem w0 E Z0 Z wz L w → SCalls P f vs.toArray w R) (hF : ∀ w, Mem w0 E Z0 Z wz L w → F w)
    (h : ∀ v, R v → JR P N ds ops Q F m fuel (listed.setIfInBounds i true) ((d, v) :: t) (Mem w0 E Z0 Z wz L)) : JK P N ds ops Q F m fuel listed t (Mem w0 E Z0 Z wz L) i :=
  JK_call (β := { v : Value // R v }) (fun x => x.1) (fun _ => Mem w0 E Z0 Z wz L) hi rfl hd hw (fun a w ha _ => run_call hl he a w ha)
    (fun w hw => Calls.mono (hc w hw) fun e w' ⟨v, he', hb, hR⟩ => ⟨⟨v, hR⟩, he', hw.callS hb⟩) (fun x w' h => hF w' h) (fun x => h _ x.2)
theorem JK_pcall {i : Nat} {f : FuncId} {l : List Operand} {ats : Array TypeId} {vs : List Value} {R : (Nat → Prop) → World → Value → Prop} (hi : ops[i]? = some ⟨some d, .call { callee := .value (.func f), args := l.toArray, argTypes := ats }, ty, pos, aft, g⟩)
    (hw : Wants ops t g) (hl : evOps t l = some vs) (he : Enters P f) (hd : d < N)
    (hc : ∀ w, Mem w0 E Z0 Z wz L w → PCalls P f vs.toArray w Z R) (hF : ∀ Z' wz' w, Ext Z wz Z' wz' → Mem w0 E Z0 Z' wz' L w → F w)
    (h : ∀ v Z' wz', Ext Z wz Z' wz' → R Z' wz' v → JR P N ds ops Q F m fuel (listed.setIfInBounds i true) ((d, v) :: t) (Mem w0 E Z0 Z' wz' L)) : JK P N ds ops Q F m fuel listed t (Mem w0 E Z0 Z wz L) i :=
  JK_call (β := { x : Value × (Nat → Prop) × World // Ext Z wz x.2.1 x.2.2 ∧ R x.2.1 x.2.2 x.1 }) (fun x => x.1.1) (fun x => Mem w0 E Z0 x.1.2.1 x.1.2.2 L) hi rfl hd hw (fun a w ha _ => run_call hl he a w ha)
    (fun w hw => (hc w hw).mono fun e w' ⟨v, he', hb, hR⟩ => ⟨⟨(v, _, w'), hw.ext_call hb, hR⟩, he', hw.call hb⟩) (fun x w' h => hF _ _ w' x.2.1 h) (fun x => h _ _ _ x.2.1 x.2.2)
theorem JK_alloc {i : Nat} {et : TypeId} {z : Value} (hi : ops[i]? = some ⟨some d, .alloc et, ty, pos, aft, g⟩) (hw : Wants ops t g) (hz : (P.info? et).bind (·.zero) = some z) (hd : d < N)
    (hF : ∀ b w, Mem w0 E Z0 Z wz (.blk b (.cells z.cells et (0, 0)) :: L) w → F w)
    (h : ∀ b, JR P N ds ops Q F m fuel (listed.setIfInBounds i true) ((d, .pointer (some ⟨b, 0, none⟩)) :: t) (Mem w0 E Z0 Z wz (.blk b (.cells z.cells et (0, 0)) :: L))) : JK P N ds ops Q F m fuel listed t (Mem w0 E Z0 Z wz L) i :=
  JK_op (β := Nat) (fun b => .pointer (some ⟨b, 0, none⟩)) (fun b => Mem w0 E Z0 Z wz (.blk b (.cells z.cells et (0, 0)) :: L)) hi rfl hd hw (fun a w ha hw => by
    obtain ⟨inf, hinf, hz'⟩ := Option.bind_eq_some_iff.1 hz
    refine ⟨w.heap.size, w.alloc (.cells z.cells et), ?_, hw.alloc _⟩
    unfold execOp
    simp [Instr.alloc, zeroValue, typeInfo, hinf, hz', newVar, newRow]) (fun b w' h => hF b w' h) h
end
end
section
variable {P : Program} {r : Option Nat} {N : Nat} {ds : List Deferred} {ops : Array Oper} {Q : Post} {t : Fm} {rest : List Oper}
variable {w0 : World} {E Z0 Z : Nat → Prop} {wz : World} {L K : List Res}
theorem JL_rowSlice {v : Value} {e : TypeId} {sz n : Nat} {xs : List Value} {l : List Oper} (hm : Res.row v e sz n xs ∈ L) (h : ∀ A c, v = .slice A n c → JL P r N ds ops Q l t (Mem w0 E Z0 Z wz L)) : JL P r N ds ops Q l t (Mem w0 E Z0 Z wz L) := fun a w ha hw => by
  rcases (hw.own _ hm).2 with ⟨rfl, rfl⟩ | ⟨g, cap, cur, rfl, _⟩
  · exact h _ _ rfl a w ha hw
  · exact h _ _ rfl a w ha hw
/-- some later world of the same call -/
def Later (w0 : World) (E Z0 Z : Nat → Prop) (wz : World) : World → Prop := fun w => ∃ Z' wz' L, Ext Z wz Z' wz' ∧ Mem w0 E Z0 Z' wz' L w
theorem Mem.later {w : World} (h : Mem w0 E Z0 Z wz L w) : Later w0 E Z0 Z wz w := ⟨_, _, _, .refl _ _, h⟩
theorem Mem.laterE {Z' : Nat → Prop} {wz' : World} {w : World} (h : Mem w0 E Z0 Z' wz' L w) (he : Ext Z wz Z' wz') : Later w0 E Z0 Z wz w := ⟨_, _, _, he, h⟩
theorem vo_loadF {lt : TypeId} {x : Operand} {b o d : Nat} {cs : Array Value} {te : TypeId} {fr : Nat × Nat} {v : Value} {ty : TypeId} {pos : String} {aft : Array Edge} (hx : ev t x = some (.pointer (some ⟨b, o, none⟩)))
    (hb : FB Z wz b (.cells cs te fr)) (hp : PartAt P lt cs o v) : ValOf P N ds t (Later w0 E Z0 Z wz) ⟨some d, .load lt x, ty, pos, aft, none⟩ v := fun a w ha hw => by
  obtain ⟨Z', wz', L, he, hw⟩ := hw
  exact vo_load hx (.frz (he.fb _ _ hb)) hp a w ha hw
/-- a block of the call's own is a row of it -/
theorem Mem.toRow {w : World} {b : Nat} {cs : Array Value} {e : TypeId} {n sz : Nat} (h : Mem w0 E Z0 Z wz (.blk b (.cells cs e (0, 0)) :: L) w) (hn : cs.size = n * sz) (hm : n ≤ 9223372036854775807) :
    Mem w0 E Z0 Z wz (.row (.slice (some ⟨b, 0, none⟩) n n) e sz n cs.toList :: L) w :=
  ⟨h.os, h.tape, h.output, h.size0, h.size, h.base, h.frz, h.zb, h.zlt, fun r hr => by
    rcases List.mem_cons.1 hr with rfl | hr
    · exact ⟨by simpa using hn, .inr ⟨b, n, cs, rfl, Nat.zero_le _, h.own _ (.head _), Nat.le_refl _, hm, hn, by rw [← hn]; exact List.take_of_length_le (by simp)⟩⟩
    · exact h.own r (.tail _ hr), fun r hr k hk => by
    rcases List.mem_cons.1 hr with rfl | hr
    · exact h.sep _ (.head _) k hk
    · exact h.sep r (.tail _ hr) k hk, ⟨fun k hk => h.nodup.1 k hk, h.nodup.2⟩⟩
theorem JL_toRow (n sz : Nat) {b : Nat} {cs : Array Value} {e : TypeId} {l : List Oper} (hn : cs.size = n * sz) (hm : n ≤ 9223372036854775807) (h : JL P r N ds ops Q l t (Mem w0 E Z0 Z wz (.row (.slice (some ⟨b, 0, none⟩) n n) e sz n cs.toList :: L))) :
    JL P r N ds ops Q l t (Mem w0 E Z0 Z wz (.blk b (.cells cs e (0, 0)) :: L)) := fun a w ha hw => h a w ha (hw.toRow hn hm)
end
section
variable {P : Program} {N : Nat} {ds : List Deferred} {ops : Array Oper} {Q : Post} {t : Fm}
variable {w0 : World} {E Z0 Z : Nat → Prop} {wz : World} {L : List Res}
variable {ty : TypeId} {pos : String} {aft : Array Edge} {d : Nat}
theorem do_store {g : Option (Nat × Bool)} {lt : TypeId} {x y : Operand} {b o : Nat} {cs cs' : Array Value} {te : TypeId} {v : Value} {L' : List Res} (hx : ev t x = some (.pointer (some ⟨b, o, none⟩))) (hy : ev t y = some v)
    (hi : (P.info? lt).map (·.size) = some v.cells.size) (h1 : ∀ u ∈ v.cells.toList, u.oneCell' = true)
    (ht : Turn L (.blk b (.cells cs te (0, 0))) (.blk b (.cells cs' te (0, 0))) L') (hfit : o + v.cells.size ≤ cs.size) (hcs : setSeg cs o v.cells.toList = cs') :
    ∀ a w, Fr N ds t a → Mem w0 E Z0 Z wz L w → ∃ w', (execOp a.eval ⟨none, .store lt x y, ty, pos, aft, g⟩).run P w = .ok .skip w' ∧ Mem w0 E Z0 Z wz L' w' := fun a w ha hw => by
  have hh : w.heap[b]? = some (.cells cs te (0, 0)) := hw.own _ ht.mem
  have hc := heap_setCells v.cells.toList o w cs hh
  refine ⟨w.setCells b o v.cells.toList, ?_, hw.turn ht hc.2.2.2.1 hc.2.2.2.2.1 hc.2.2.2.2.2 hc.2.2.1 hc.2.1 (by rw [hc.1, hcs])⟩
  unfold execOp
  simp [ha.eval hx, ha.eval hy, run_storeAt_part hh hi h1 hfit]
theorem JR_store {F : World → Prop} {m fuel : Nat} {listed : Array Bool} {lt : TypeId} {x y : Operand} {b o : Nat} {cs cs' : Array Value} {te : TypeId} {v : Value} {L' : List Res} (hop : ops[m]? = some ⟨none, .store lt x y, ty, pos, aft, none⟩)
    (hr : Region.ready .any ops listed = [m]) (hrd : Region.ready .any ops (listed.setIfInBounds m true) = []) (hms : Nat.blt m listed.size = true)
    (hx : ev t x = some (.pointer (some ⟨b, o, none⟩))) (hy : ev t y = some v)
    (hi : (P.info? lt).map (·.size) = some v.cells.size) (h1 : ∀ u ∈ v.cells.toList, u.oneCell' = true)
    (ht : Turn L (.blk b (.cells cs te (0, 0))) (.blk b (.cells cs' te (0, 0))) L') (hfit : o + v.cells.size ≤ cs.size) (hcs : setSeg cs o v.cells.toList = cs')
    (h : JX N ds .normal Q t (Mem w0 E Z0 Z wz L')) : JR P N ds ops Q F m (fuel + 1) listed t (Mem w0 E Z0 Z wz L) :=
  JR_last hop rfl (fun a ha => rfl) hr hrd _ (do_store hx hy hi h1 ht hfit hcs) (Nat.le_of_ble_eq_true hms) h
end
end Go.Eng

set_option linter.unusedVariables false
set_option linter.unusedSimpArgs false
namespace Go.Eng
open Go Go.RowKit
section
variable {P : Program} {r : Option Nat} {N : Nat} {ds : List Deferred} {ops : Array Oper} {Q : Post} {t : Fm} {rest : List Oper} {M : World → Prop}
variable {ty : TypeId} {pos : String} {aft : Array Edge} {d : Nat}
theorem vo_eqNil {op : BinOp} {xt yt e : TypeId} {x y : Operand} {p : Option Addr} {c : Bool} (hx : ev t x = some (.pointer p)) (hy : ev t y = some (.pointer none)) (hu : P.underlying xt = some (.pointer e))
    (hop : (match op with | .eql => some p.isNone | .neq => some (!p.isNone) | _ => none) = some c) :
    ValOf P N ds t M ⟨some d, .binOp op xt x y yt, ty, pos, aft, none⟩ (.bool c) := fun a w ha hw => by
  have hu' : P.underlying xt = some (.pointer (P.pointee xt)) := by rw [show P.pointee xt = e by simp [Program.pointee, hu]]; exact hu
  unfold execOp
  simp only [ha.eval hx, ha.eval hy]
  cases op <;> first | (cases hop; done) | (obtain rfl := Option.some.inj hop; simp [eqGuard, run_eql_pointer_nil, run_neq_pointer_nil, hu'])
theorem run_equalIn_func (dd : Nat) {xt : TypeId} {f : Fn} {b cs : Array Value} {ps rs : Array TypeId} {va : Bool} (hu : P.underlying xt = some (.func ps rs va)) (w : World) : (Op.equalIn (dd + 1) xt (.func f b cs) .nilFunc).run P w = .ok false w := by
  simp [Op.equalIn, run_underlying hu]
theorem run_equal_func {xt : TypeId} {f : Fn} {b cs : Array Value} {ps rs : Array TypeId} {va : Bool} (hu : P.underlying xt = some (.func ps rs va)) (w : World) : (Op.equal xt (.func f b cs) .nilFunc).run P w = .ok false w := run_equalIn_func 9999 hu w
theorem vo_eqFunc {op : BinOp} {xt yt : TypeId} {x y : Operand} {f : Fn} {b cs : Array Value} {c : Bool} {ps rs : Array TypeId} {va : Bool} (hx : ev t x = some (.func f b cs)) (hy : ev t y = some .nilFunc) (hu : P.underlying xt = some (.func ps rs va))
    (hop : (match op with | .eql => some false | .neq => some true | _ => none) = some c) :
    ValOf P N ds t M ⟨some d, .binOp op xt x y yt, ty, pos, aft, none⟩ (.bool c) := fun a w ha hw => by
  unfold execOp
  simp only [ha.eval hx, ha.eval hy]
  cases op <;> first | (cases hop; done) | (obtain rfl := Option.some.inj hop; simp only [binOp, eqGuard_at_func]; simp [run_equal_func hu w])
end
end Go.Eng
