/-
  Part of the proofs over this seat: GD1 H1 H2. Own work; imports the kit.
-/
import Derived.Test.YtdeelajgigglgaaProg
import Derived.ChangeKeysEq
import Derived.Test.YtdeelajgigglgaaEng2
import Derived.Test.YtdeelajgigglgaaEng4
set_option linter.unusedVariables false
set_option linter.unusedSimpArgs false
namespace Go.Eng
open Go Go.RowKit Go.Proofs

/-! ### the data -/
structure Val where
  kind : Int
  mode : Int
  size : Int
  sum : Fin 32 → Int
structure Mrk where
  number : Int
  stamp : Int
structure Mk2 where
  a : Mrk
  b : Mrk
def sumC (s : Fin 32 → Int) : List Value := [.int .u8 (s 0), .int .u8 (s 1), .int .u8 (s 2), .int .u8 (s 3), .int .u8 (s 4), .int .u8 (s 5), .int .u8 (s 6), .int .u8 (s 7), .int .u8 (s 8), .int .u8 (s 9), .int .u8 (s 10), .int .u8 (s 11), .int .u8 (s 12), .int .u8 (s 13), .int .u8 (s 14), .int .u8 (s 15), .int .u8 (s 16), .int .u8 (s 17), .int .u8 (s 18), .int .u8 (s 19), .int .u8 (s 20), .int .u8 (s 21), .int .u8 (s 22), .int .u8 (s 23), .int .u8 (s 24), .int .u8 (s 25), .int .u8 (s 26), .int .u8 (s 27), .int .u8 (s 28), .int .u8 (s 29), .int .u8 (s 30), .int .u8 (s 31)]
def valC (v : Val) : List Value := .int .i64 v.kind :: .int .i64 v.mode :: .int .i64 v.size :: sumC v.sum
def mrkC (m : Mrk) : List Value := [.int .i64 m.number, .int .i64 m.stamp]
def mk2C (m : Mk2) : List Value := mrkC m.a ++ mrkC m.b
def sumEq (s u : Fin 32 → Int) : Bool := (List.finRange 32).all fun i => s i == u i
def mrkEq (m n : Mrk) : Bool := m.number == n.number && m.stamp == n.stamp
def mk2Eq (m n : Mk2) : Bool := mrkEq m.a n.a && mrkEq m.b n.b
def valEq (v u : Val) : Bool := v.kind == u.kind && (v.mode == u.mode && (v.size == u.size && sumEq v.sum u.sum))
theorem eg62 : Try.prog.eqGuardType Try.prog.depth 62 = false := by kernel_rfl
theorem eg63 : Try.prog.eqGuardType Try.prog.depth 63 = false := by kernel_rfl
theorem eg49 : Try.prog.eqGuardType Try.prog.depth 49 = false := by kernel_rfl
theorem eg51 : Try.prog.eqGuardType Try.prog.depth 51 = false := by kernel_rfl
theorem sh62 : Try.prog.stoodInHeld 62 = false := by kernel_rfl
theorem sh51 : Try.prog.stoodInHeld 51 = false := by kernel_rfl
theorem sz62 : (Try.prog.info? 62).map (·.size) = some 2 := by kernel_rfl
theorem sz5 : (Try.prog.info? 5).map (·.size) = some 1 := by kernel_rfl
theorem sz49 : (Try.prog.info? 49).map (·.size) = some 32 := by kernel_rfl

section
variable {P : Program} {w : World}
theorem run_part_cell {t : TypeId} {d : TypeDesc} {cs : Array Value} {o : Nat} {v : Value} (hu : P.underlying t = some d) (hd : d.isRow = false) (h : cs[o]? = some v) : (part t cs o).run P w = .ok v w := by
  have hagg : (isAgg t).run P w = .ok false w := by
    unfold isAgg
    rw [Sem.run_bind, run_underlying hu w]
    cases d <;> simp_all
  simp [part, Sem.run_bind, hagg, h]
theorem run_part_agg {t : TypeId} {d : TypeDesc} {cs : Array Value} {o n : Nat} (hu : P.underlying t = some d) (hd : d.isRow = true) (hz : (P.info? t).map (·.size) = some n) : (part t cs o).run P w = .ok (.agg (cs.extract o (o + n))) w := by
  have hagg : (isAgg t).run P w = .ok true w := by
    unfold isAgg
    rw [Sem.run_bind, run_underlying hu w]
    cases d <;> simp_all
  obtain ⟨i, hi, rfl⟩ := Option.map_eq_some_iff.1 hz
  simp [part, Sem.run_bind, hagg, sizeOf, typeInfo, hi]
theorem run_eqItems_all {d : Nat} {e : TypeId} {z : Nat} {xs ys : Array Value} (f : Nat → Bool) : ∀ (is : List Nat),
    (∀ i ∈ is, ∃ x y, (part e xs (i * z)).run P w = .ok x w ∧ (part e ys (i * z)).run P w = .ok y w ∧ (Op.equalIn d e x y).run P w = .ok (f i) w) → (Op.eqItems d e z xs ys is).run P w = .ok (is.all f) w
  | [], _ => by simp [Op.eqItems]
  | i :: is, h => by
    obtain ⟨x, y, h1, h2, h3⟩ := h i (by simp)
    have ih := run_eqItems_all f is (fun j hj => h j (by simp [hj]))
    simp only [Op.eqItems, Sem.run_bind, h1, h2, h3, Result.andThen_ok]
    cases hf : f i with
    | true => simp [ih, hf]
    | false => simp [hf]
theorem run_eq_array {d : Nat} {t e : TypeId} {len z : Nat} {xs ys : Array Value} (hu : P.underlying t = some (.array len e)) (hz : (P.info? e).map (·.size) = some z) (f : Nat → Bool)
    (hf : ∀ i, i < len → ∃ x y, (part e xs (i * z)).run P w = .ok x w ∧ (part e ys (i * z)).run P w = .ok y w ∧ (Op.equalIn d e x y).run P w = .ok (f i) w) :
    (Op.equalIn (d + 1) t (.agg xs) (.agg ys)).run P w = .ok ((List.range len).all f) w := by
  obtain ⟨i, hi, rfl⟩ := Option.map_eq_some_iff.1 hz
  rw [run_equalIn_array w d xs ys hu hi]
  have hc : P.cellsOf e = i.size := by simp [Program.cellsOf, hi]
  rw [hc]
  exact run_eqItems_all f _ (fun j hj => hf j (by simpa using hj))
theorem run_eq_int {d : Nat} {t : TypeId} {k k' : IntKind} {a b : Int} (h : P.underlying t = some (.int k')) : (Op.equalIn (d + 1) t (.int k a) (.int k b)).run P w = .ok (a == b) w := by
  simp [Op.equalIn, run_underlying h]
/-- field by field -/
theorem run_eqFields_cons {d : Nat} {xs ys : Array Value} {f : Field} {fs : List Field} {x y : Value} {b c : Bool} (hn : f.name ≠ "_") (h1 : (part f.type xs f.offset).run P w = .ok x w) (h2 : (part f.type ys f.offset).run P w = .ok y w)
    (h3 : (Op.equalIn d f.type x y).run P w = .ok b w) (h4 : (Op.eqFields d xs ys fs).run P w = .ok c w) : (Op.eqFields d xs ys (f :: fs)).run P w = .ok (b && c) w := by
  simp only [Op.eqFields, hn, ne_eq, not_false_eq_true, if_true, Sem.run_bind, h1, h2, h3, Result.andThen_ok]
  cases b with
  | true => simp [h4]
  | false => simp
theorem run_eqFields_nil {d : Nat} {xs ys : Array Value} : (Op.eqFields d xs ys []).run P w = .ok true w := by simp [Op.eqFields]
end

theorem eq49 (s u : Fin 32 → Int) (d : Nat) (w : World) : (Op.equalIn (d + 2) 49 (.agg (sumC s).toArray) (.agg (sumC u).toArray)).run Try.prog w = .ok (sumEq s u) w := by
  have hg : ∀ (s : Fin 32 → Int) (i : Nat) (h : i < 32), (sumC s).toArray[i * 1]? = some (.int .u8 (s ⟨i, h⟩)) := by
    intro s i h
    simp only [Nat.mul_one]
    rcases i with _|_|_|_|_|_|_|_|_|_|_|_|_|_|_|_|_|_|_|_|_|_|_|_|_|_|_|_|_|_|_|_|i <;> first | rfl | omega
  rw [run_eq_array (f := fun i => if h : i < 32 then s ⟨i, h⟩ == u ⟨i, h⟩ else true) Try.underlying49 sz5 ?_]
  · congr 1
  · intro i hi
    refine ⟨_, _, run_part_cell Try.underlying5 rfl (hg s i hi), run_part_cell Try.underlying5 rfl (hg u i hi), ?_⟩
    rw [dif_pos hi]
    exact run_eq_int (k' := .u8) Try.underlying5
theorem run_eq_struct {P : Program} {w : World} {d : Nat} {t : TypeId} {fs : Array Field} {xs ys : Array Value} {b : Bool} (hu : P.underlying t = some (.struct fs)) (hp : P.stoodInHeld t = false) (h : (Op.eqFields d xs ys fs.toList).run P w = .ok b w) :
    (Op.equalIn (d + 1) t (.agg xs) (.agg ys)).run P w = .ok b w := by
  have hf : P.fieldsOf t = fs := by simp [Program.fieldsOf, hu]
  rw [run_equalIn_struct w d t xs ys (by rw [hf]; exact hu) hp, hf]
  exact h
theorem eq62 (m n : Mrk) (d : Nat) (w : World) : (Op.equalIn (d + 2) 62 (.agg (mrkC m).toArray) (.agg (mrkC n).toArray)).run Try.prog w = .ok (mrkEq m n) w := by
  refine run_eq_struct Try.underlying62 sh62 ?_
  have := run_eqFields_cons (P := Try.prog) (w := w) (d := d + 1) (xs := (mrkC m).toArray) (ys := (mrkC n).toArray) (f := ⟨ "Number", 3, 0, false, "", "", 0⟩) (by decide) (run_part_cell Try.underlying3 rfl rfl) (run_part_cell Try.underlying3 rfl rfl) (run_eq_int Try.underlying3)
    (run_eqFields_cons (f := ⟨ "Stamp", 3, 1, false, "", "", 8⟩) (by decide) (run_part_cell Try.underlying3 rfl rfl) (run_part_cell Try.underlying3 rfl rfl) (run_eq_int Try.underlying3) run_eqFields_nil)
  simpa [mrkEq] using this
theorem eq63 (m n : Mk2) (d : Nat) (w : World) : (Op.equalIn (d + 3) 63 (.agg (mk2C m).toArray) (.agg (mk2C n).toArray)).run Try.prog w = .ok (mk2Eq m n) w := by
  rw [run_eq_array (f := fun i => if i = 0 then mrkEq m.a n.a else mrkEq m.b n.b) Try.underlying63 sz62 ?_]
  · simp [mk2Eq, List.range_succ]
  · intro i hi
    rcases i with _|_|i
    · exact ⟨_, _, run_part_agg Try.underlying62 rfl sz62, run_part_agg Try.underlying62 rfl sz62, eq62 m.a n.a d w⟩
    · exact ⟨_, _, run_part_agg Try.underlying62 rfl sz62, run_part_agg Try.underlying62 rfl sz62, eq62 m.b n.b d w⟩
    · omega
theorem run_part_list {P : Program} {w : World} {t : TypeId} {d : TypeDesc} {l seg : List Value} {o n : Nat} (hu : P.underlying t = some d) (hd : d.isRow = true) (hz : (P.info? t).map (·.size) = some n) (hs : (l.drop o).take n = seg) :
    (part t l.toArray o).run P w = .ok (.agg seg.toArray) w := by
  rw [run_part_agg hu hd hz, List.extract_toArray, ← hs]
  simp [List.extract_eq_take_drop]
theorem eq51 (v u : Val) (d : Nat) (w : World) : (Op.equalIn (d + 3) 51 (.agg (valC v).toArray) (.agg (valC u).toArray)).run Try.prog w = .ok (valEq v u) w := by
  refine run_eq_struct Try.underlying51 sh51 ?_
  have h22 : (part 49 (valC v).toArray 3).run Try.prog w = .ok (.agg (sumC v.sum).toArray) w := run_part_list Try.underlying49 rfl sz49 rfl
  have h22' : (part 49 (valC u).toArray 3).run Try.prog w = .ok (.agg (sumC u.sum).toArray) w := run_part_list Try.underlying49 rfl sz49 rfl
  have := run_eqFields_cons (P := Try.prog) (w := w) (d := d + 2) (xs := (valC v).toArray) (ys := (valC u).toArray) (f := ⟨ "Kind", 3, 0, false, "", "", 0⟩) (by decide) (run_part_cell Try.underlying3 rfl rfl) (run_part_cell Try.underlying3 rfl rfl) (run_eq_int Try.underlying3)
    (run_eqFields_cons (f := ⟨ "Mode", 3, 1, false, "", "", 8⟩) (by decide) (run_part_cell Try.underlying3 rfl rfl) (run_part_cell Try.underlying3 rfl rfl) (run_eq_int Try.underlying3)
    (run_eqFields_cons (f := ⟨ "Size", 3, 2, false, "", "", 16⟩) (by decide) (run_part_cell Try.underlying3 rfl rfl) (run_part_cell Try.underlying3 rfl rfl) (run_eq_int Try.underlying3)
    (run_eqFields_cons (f := ⟨ "Sum", 49, 3, false, "", "", 24⟩) (by decide) h22 h22' (eq49 v.sum u.sum d w) run_eqFields_nil)))
  simpa [valEq] using this
theorem eqv49 (s u : Fin 32 → Int) (w : World) : (Op.equalIn 10000 49 (.agg (sumC s).toArray) (.agg (sumC u).toArray)).run Try.prog w = .ok (sumEq s u) w := eq49 s u 9998 w
theorem eqv62 (m n : Mrk) (w : World) : (Op.equalIn 10000 62 (.agg (mrkC m).toArray) (.agg (mrkC n).toArray)).run Try.prog w = .ok (mrkEq m n) w := eq62 m n 9998 w
theorem eqv63 (m n : Mk2) (w : World) : (Op.equalIn 10000 63 (.agg (mk2C m).toArray) (.agg (mk2C n).toArray)).run Try.prog w = .ok (mk2Eq m n) w := eq63 m n 9997 w
theorem eqv51 (v u : Val) (w : World) : (Op.equalIn 10000 51 (.agg (valC v).toArray) (.agg (valC u).toArray)).run Try.prog w = .ok (valEq v u) w := eq51 v u 9997 w
theorem sumEq_iff {s u : Fin 32 → Int} : sumEq s u = true ↔ s = u := by
  unfold sumEq
  simp only [List.all_eq_true, List.mem_finRange, true_imp_iff, beq_iff_eq]
  exact ⟨fun h => funext h, fun h i => by rw [h]⟩
theorem valEq_iff {v u : Val} : valEq v u = true ↔ v = u := by
  cases v; cases u
  simp [valEq, sumEq_iff]
theorem mrkEq_iff {m n : Mrk} : mrkEq m n = true ↔ m = n := by
  cases m; cases n
  simp [mrkEq]
theorem mk2Eq_iff {m n : Mk2} : mk2Eq m n = true ↔ m = n := by
  cases m; cases n
  simp [mk2Eq, mrkEq_iff]
end Go.Eng

set_option linter.unusedVariables false
set_option linter.unusedSimpArgs false
namespace Go.Eng
open Go Go.RowKit Go.Proofs
/-! ### changes, moves, contents -/
structure Chg where
  path : ByteArray
  old : Val
  new : Val
def chC (c : Chg) : List Value := .string c.path :: (valC c.old ++ valC c.new)
theorem chC_length (c : Chg) : (chC c).length = 71 := rfl
def mvC (m : ByteArray × ByteArray) : List Value := [.string m.1, .string m.2]
theorem mvC_length (m : ByteArray × ByteArray) : (mvC m).length = 2 := rfl
structure Con where
  size : Int
  sum : Fin 32 → Int
def conC (c : Con) : List Value := .int .i64 c.size :: sumC c.sum
theorem conC_length (c : Con) : (conC c).length = 33 := rfl
def conEq (a b : Con) : Bool := a.size == b.size && sumEq a.sum b.sum
theorem conEq_iff {a b : Con} : conEq a b = true ↔ a = b := by
  cases a; cases b
  simp [conEq, sumEq_iff]
instance : DecidableEq Con := fun a b => decidable_of_iff (conEq a b = true) conEq_iff
def zeroVal : Val := ⟨0, 0, 0, fun _ => 0⟩
theorem valC_length (v : Val) : (valC v).length = 35 := rfl
theorem sz51 : (Try.prog.info? 51).map (·.size) = some 35 := by kernel_rfl
theorem sz53 : (Try.prog.info? 53).map (·.size) = some 71 := by kernel_rfl
theorem sz91 : (Try.prog.info? 91).map (·.size) = some 33 := by kernel_rfl
theorem sz48 : (Try.prog.info? 48).map (·.size) = some 2 := by kernel_rfl
theorem eg91 : Try.prog.eqGuardType Try.prog.depth 91 = false := by kernel_rfl
theorem sh91 : Try.prog.stoodInHeld 91 = false := by kernel_rfl
theorem eg53 : Try.prog.eqGuardType Try.prog.depth 53 = false := by kernel_rfl
theorem sh53 : Try.prog.stoodInHeld 53 = false := by kernel_rfl
theorem eg48 : Try.prog.eqGuardType Try.prog.depth 48 = false := by kernel_rfl
theorem sh48 : Try.prog.stoodInHeld 48 = false := by kernel_rfl
theorem beq_iff {a b : ByteArray} : beq a b = true ↔ a = b := by
  unfold beq
  rw [ByteArray.toList_eq, ByteArray.toList_eq, beq_iff_eq]
  constructor
  · intro h
    cases a; cases b
    congr
    exact Array.toList_inj.1 h
  · rintro rfl; rfl
theorem run_eq_str {P : Program} {w : World} {d : Nat} {t : TypeId} {a b : ByteArray} (h : P.underlying t = some .string) : (Op.equalIn (d + 1) t (.string a) (.string b)).run P w = .ok (beq a b) w := by
  have : (a == b) = beq a b := by
    rw [Bool.eq_iff_iff, beq_iff]; exact Go.MapKept.bytes_beq a b
  simp [Op.equalIn, run_underlying h, this]
theorem eq91 (a b : Con) (d : Nat) (w : World) : (Op.equalIn (d + 3) 91 (.agg (conC a).toArray) (.agg (conC b).toArray)).run Try.prog w = .ok (conEq a b) w := by
  refine run_eq_struct Try.underlying91 sh91 ?_
  have h1 : (part 49 (conC a).toArray 1).run Try.prog w = .ok (.agg (sumC a.sum).toArray) w := run_part_list Try.underlying49 rfl sz49 rfl
  have h2 : (part 49 (conC b).toArray 1).run Try.prog w = .ok (.agg (sumC b.sum).toArray) w := run_part_list Try.underlying49 rfl sz49 rfl
  have := run_eqFields_cons (P := Try.prog) (w := w) (d := d + 2) (xs := (conC a).toArray) (ys := (conC b).toArray) (f := ⟨ "size", 3, 0, false, "", "twine/diff", 0⟩) (by decide) (run_part_cell Try.underlying3 rfl rfl) (run_part_cell Try.underlying3 rfl rfl) (run_eq_int Try.underlying3)
    (run_eqFields_cons (f := ⟨ "sum", 49, 1, false, "", "twine/diff", 8⟩) (by decide) h1 h2 (eq49 a.sum b.sum d w) run_eqFields_nil)
  simpa [conEq] using this
theorem eqv91 (a b : Con) (w : World) : (Op.equalIn 10000 91 (.agg (conC a).toArray) (.agg (conC b).toArray)).run Try.prog w = .ok (conEq a b) w := eq91 a b 9997 w
def chEq (a b : Chg) : Bool := beq a.path b.path && (valEq a.old b.old && valEq a.new b.new)
theorem eq53 (a b : Chg) (d : Nat) (w : World) : (Op.equalIn (d + 4) 53 (.agg (chC a).toArray) (.agg (chC b).toArray)).run Try.prog w = .ok (chEq a b) w := by
  refine run_eq_struct Try.underlying53 sh53 ?_
  have h1 : (part 51 (chC a).toArray 1).run Try.prog w = .ok (.agg (valC a.old).toArray) w := run_part_list Try.underlying51 rfl sz51 rfl
  have h2 : (part 51 (chC b).toArray 1).run Try.prog w = .ok (.agg (valC b.old).toArray) w := run_part_list Try.underlying51 rfl sz51 rfl
  have h3 : (part 51 (chC a).toArray 36).run Try.prog w = .ok (.agg (valC a.new).toArray) w := run_part_list Try.underlying51 rfl sz51 rfl
  have h4 : (part 51 (chC b).toArray 36).run Try.prog w = .ok (.agg (valC b.new).toArray) w := run_part_list Try.underlying51 rfl sz51 rfl
  have := run_eqFields_cons (P := Try.prog) (w := w) (d := d + 3) (xs := (chC a).toArray) (ys := (chC b).toArray) (f := ⟨ "Path", 9, 0, false, "", "", 0⟩) (by decide) (run_part_cell Try.underlying9 rfl rfl) (run_part_cell Try.underlying9 rfl rfl) (run_eq_str Try.underlying9)
    (run_eqFields_cons (f := ⟨ "Old", 51, 1, false, "", "", 16⟩) (by decide) h1 h2 (eq51 a.old b.old d w)
    (run_eqFields_cons (f := ⟨ "New", 51, 36, false, "", "", 72⟩) (by decide) h3 h4 (eq51 a.new b.new d w) run_eqFields_nil))
  simpa [chEq] using this
theorem eqv53 (a b : Chg) (w : World) : (Op.equalIn 10000 53 (.agg (chC a).toArray) (.agg (chC b).toArray)).run Try.prog w = .ok (chEq a b) w := eq53 a b 9996 w
def mvEq (a b : ByteArray × ByteArray) : Bool := beq a.1 b.1 && beq a.2 b.2
theorem eq48 (a b : ByteArray × ByteArray) (d : Nat) (w : World) : (Op.equalIn (d + 2) 48 (.agg (mvC a).toArray) (.agg (mvC b).toArray)).run Try.prog w = .ok (mvEq a b) w := by
  refine run_eq_struct Try.underlying48 sh48 ?_
  have := run_eqFields_cons (P := Try.prog) (w := w) (d := d + 1) (xs := (mvC a).toArray) (ys := (mvC b).toArray) (f := ⟨ "From", 9, 0, false, "", "", 0⟩) (by decide) (run_part_cell Try.underlying9 rfl rfl) (run_part_cell Try.underlying9 rfl rfl) (run_eq_str Try.underlying9)
    (run_eqFields_cons (f := ⟨ "To", 9, 1, false, "", "", 16⟩) (by decide) (run_part_cell Try.underlying9 rfl rfl) (run_part_cell Try.underlying9 rfl rfl) (run_eq_str Try.underlying9) run_eqFields_nil)
  simpa [mvEq] using this
theorem eqv48 (a b : ByteArray × ByteArray) (w : World) : (Op.equalIn 10000 48 (.agg (mvC a).toArray) (.agg (mvC b).toArray)).run Try.prog w = .ok (mvEq a b) w := eq48 a b 9998 w
theorem chEq_iff {a b : Chg} : chEq a b = true ↔ a = b := by
  cases a; cases b
  simp [chEq, beq_iff, valEq_iff]
theorem mvEq_iff {a b : ByteArray × ByteArray} : mvEq a b = true ↔ a = b := by
  obtain ⟨a1, a2⟩ := a
  obtain ⟨b1, b2⟩ := b
  simp [mvEq, beq_iff]
/-! a content as a key -/
theorem check_int {P : Program} {w : World} {kt : TypeId} {k : IntKind} {v : Value} (hd : P.underlying kt = some (.int k)) (e : Bool) (n : Nat) : (Instr.checkKey e (n + 1) kt v).run P w = .ok () w := by
  rw [Instr.checkKey]
  simp only [Sem.run_bind, run_underlying hd, Result.andThen_ok]
  cases v <;> simp
theorem check_arr {P : Program} {w : World} {t e : TypeId} {k : IntKind} {len : Nat} {cs : Array Value} (ht : P.underlying t = some (.array len e)) (he : P.underlying e = some (.int k)) (hz : (P.info? e).map (·.size) = some 1) (hcs : ∀ j, j < len → ∃ v, cs[j]? = some v) (em : Bool) (n : Nat) : (Instr.checkKey em (n + 2) t (.agg cs)).run P w = .ok () w := by
  obtain ⟨i, hi, hsz⟩ := Option.map_eq_some_iff.1 hz
  rw [show n + 2 = (n + 1) + 1 from rfl, Instr.checkKey]
  simp only [Sem.run_bind, run_underlying ht, Result.andThen_ok]
  simp only [Std.Legacy.Range.forIn_eq_forIn_range', Std.Legacy.Range.size, Nat.sub_zero, Nat.add_one_sub_one, Nat.div_one]
  have key : ∀ j ∈ List.range' 0 len, ∃ v, cs[j]? = some v := fun j hj => hcs j (by simpa using hj)
  generalize List.range' 0 len = is at key
  induction is with
  | nil => simp
  | cons j is ih =>
    obtain ⟨v, hv⟩ := key j (by simp)
    have hce : P.cellsOf e = 1 := by simp [Program.cellsOf, hi, hsz]
    have h1 : (part e cs (j * P.cellsOf e)).run P w = .ok v w := run_part_cell he rfl (by rw [hce, Nat.mul_one]; exact hv)
    simp only [List.forIn_cons, Sem.run_bind, run_sizeOf w hi, Result.andThen_ok, h1, check_int (P := P) he, Sem.run_pure]
    exact ih (fun y hy => key y (by simp [hy]))
theorem check_sum (s : Fin 32 → Int) (e : Bool) (n : Nat) (w : World) : (Instr.checkKey e (n + 2) 49 (.agg (sumC s).toArray)).run Try.prog w = .ok () w :=
  check_arr Try.underlying49 Try.underlying5 sz5 (fun j hj => ⟨(sumC s)[j]'(by rw [show (sumC s).length = 32 from rfl]; exact hj), by rw [List.getElem?_toArray, List.getElem?_eq_getElem]⟩) e n
theorem check_con (c : Con) (e : Bool) (n : Nat) (w : World) : (Instr.checkKey e (n + 3) 91 (.agg (conC c).toArray)).run Try.prog w = .ok () w := by
  have h1 : (part 49 (conC c).toArray 1).run Try.prog w = .ok (.agg (sumC c.sum).toArray) w := run_part_list Try.underlying49 rfl sz49 rfl
  have h0 : (part 3 (conC c).toArray 0).run Try.prog w = .ok (.int .i64 c.size) w := run_part_cell Try.underlying3 rfl rfl
  have hc := check_sum c.sum e n w
  rw [show n + 3 = (n + 2) + 1 from rfl, Instr.checkKey]
  simp only [Sem.run_bind, run_underlying Try.underlying91, Result.andThen_ok]
  rw [← Array.forIn_toList]
  generalize (conC c).toArray = cs at h0 h1 ⊢
  generalize (sumC c.sum).toArray = ss at h1 hc
  simp [h0, h1, check_int (P := Try.prog) Try.underlying3, hc]
theorem bits_int (n : Nat) (k : IntKind) (i : Int) : Instr.sameBits n (.int k i) (.int k i) = true := by
  cases n <;> simp [Instr.sameBits]
theorem bits_agg (n : Nat) (l : List Value) (h : ∀ v ∈ l, Instr.sameBits n v v = true) : Instr.sameBits (n + 1) (.agg l.toArray) (.agg l.toArray) = true := by
  simp only [Instr.sameBits, beq_self_eq_true, Bool.true_and, List.all_eq_true]
  rintro ⟨x, y⟩ hxy
  have : x = y ∧ x ∈ l := by
    clear h
    induction l with
    | nil => simp at hxy
    | cons z l ih =>
      simp only [List.zip_cons_cons, List.mem_cons] at hxy
      rcases hxy with hxy | hxy
      · cases hxy; exact ⟨rfl, .head _⟩
      · have := ih hxy; exact ⟨this.1, .tail _ this.2⟩
  obtain ⟨rfl, hx⟩ := this
  exact h _ hx
theorem key91 : KeyOK Try.prog 91 (fun c : Con => .agg (conC c).toArray) where
  desc := ⟨_, Try.underlying91, fun _ _ => rfl⟩
  check := fun e a w => check_con a e 9997 w
  equal := fun a b w => by
    have h := eqv91 a b w
    have hd : conEq a b = decide (a = b) := by
      rw [Bool.eq_iff_iff]; simp [conEq_iff]
    rw [← hd]
    exact h
  bits := fun a => bits_agg 9999 _ (fun v hv => by
    have : (conC a).all (fun v => match v with | .int _ _ => true | _ => false) = true := rfl
    have := List.all_eq_true.1 this v hv
    cases v <;> simp at this
    exact bits_int _ _ _)
end Go.Eng

set_option linter.unusedVariables false
set_option linter.unusedSimpArgs false
namespace Go.Eng
open Go Go.RowKit Go.Proofs
section
variable {cs : Array Value} {o : Nat} {c : Chg}
theorem chC_old (c : Chg) : ∀ j u, (valC c.old)[j]? = some u → (chC c)[1 + j]? = some u := fun j u h => by
  rw [chC, Nat.add_comm, List.getElem?_cons_succ, List.getElem?_append_left (List.getElem?_eq_some_iff.1 h).1]; exact h
theorem chC_new (c : Chg) : ∀ j u, (valC c.new)[j]? = some u → (chC c)[36 + j]? = some u := fun j u h => by
  rw [chC, show 36 + j = 35 + j + 1 by omega, List.getElem?_cons_succ, List.getElem?_append_right (by rw [valC_length]; omega), valC_length, show 35 + j - 35 = j by omega]; exact h
theorem pc_all (h : SegAt cs o (chC c)) : PartAt Try.prog 53 cs o (.agg (chC c).toArray) := .seg h Try.underlying53 rfl sz53
theorem pc_path (h : SegAt cs o (chC c)) : PartAt Try.prog 9 cs (o + 0) (.string c.path) := .cell Try.underlying9 rfl (h 0 _ rfl)
theorem pc_old (h : SegAt cs o (chC c)) : PartAt Try.prog 51 cs (o + 1) (.agg (valC c.old).toArray) := .seg (h.sub 1 (chC_old c)) Try.underlying51 rfl sz51
theorem pc_new (h : SegAt cs o (chC c)) : PartAt Try.prog 51 cs (o + 36) (.agg (valC c.new).toArray) := .seg (h.sub 36 (chC_new c)) Try.underlying51 rfl sz51
theorem pv_sum (v : Val) : PartAt Try.prog 49 (valC v).toArray (0 + 3) (.agg (sumC v.sum).toArray) := .agg Try.underlying49 rfl sz49 (fun j u h => by
  rw [List.getElem?_toArray]; exact (by rw [Nat.add_comm]; exact h : (valC v)[3 + j]? = some u))
end
theorem pb_old (c : Chg) : PartAt Try.prog 51 (chC c).toArray (0 + 1) (.agg (valC c.old).toArray) := pc_old (SegAt.self _)
theorem pb_new (c : Chg) : PartAt Try.prog 51 (chC c).toArray (0 + 36) (.agg (valC c.new).toArray) := pc_new (SegAt.self _)
theorem zr91 : (Try.prog.info? 91).bind (·.zero) = some (.agg (conC ⟨0, fun _ => 0⟩).toArray) := by kernel_rfl
theorem zr53 : (Try.prog.info? 53).bind (·.zero) = some (.agg (chC ⟨⟨#[]⟩, zeroVal, zeroVal⟩).toArray) := by kernel_rfl
theorem bl91 (a : Int) (s : Fin 32 → Int) : Try.prog.built 91 [(0, .int .i64 a), (1, .agg (sumC s).toArray)] = some (conC ⟨a, s⟩).toArray := by kernel_rfl
def sameF (v u : Val) : Bool := v.kind == 2 && u.kind == 2 && v.size == u.size && sumEq v.sum u.sum
def takesB (c : Chg) : Bool := c.old.kind == 2 && decide (c.old.size ≥ 1) && !sameF c.old c.new
def bringsB (c : Chg) : Bool := c.new.kind == 2 && decide (c.new.size ≥ 1) && !sameF c.old c.new
def conOf (v : Val) : Con := ⟨v.size, v.sum⟩
def holdsB (v : Val) : Bool := v.kind == 2 && decide (v.size > 0)
def goesB (v u : Val) : Bool := holdsB v && !(holdsB u && conEq (conOf v) (conOf u))
end Go.Eng
