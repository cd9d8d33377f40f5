/-
  Part of the proofs over this seat: H10. Own work; imports the kit.
-/
import Derived.OpenShut
import Derived.Lib.SmallJoins
import Derived.Test.YtdeelajgigglgaaMovWalk4
set_option linter.unusedVariables false
set_option linter.unusedSimpArgs false
namespace Go.Eng
open Go Go.RowKit Go.Proofs Go.Joins Go.ChangeShapes Go.Deep
section
variable {H : Type} {enc : TypeId × Value → H} {P : Program} {W : World} {spare : Nat → Bool} {held : Bool}
theorem take1_get {α : Type} {l : List α} {i : Nat} {x : α} (h : (l.drop i).take 1 = [x]) : l[i]? = some x := by
  have : ((l.drop i).take 1)[0]? = some x := by rw [h]; rfl
  simpa [List.getElem?_take, List.getElem?_drop] using this
theorem cell_at {a : Addr} {c : Array Value} {te : TypeId} {fr : Nat × Nat} (hs : a.spot = none) (h : W.heap[a.block]? = some (.cells c te fr)) (m j : Nat) : W.cell? ((a.add m).add j) = c[a.off + m + j]? := by
  obtain ⟨b, o, s⟩ := a
  simp only at hs h
  subst hs
  have : (Addr.add (Addr.add ⟨b, o, none⟩ m) j) = ⟨b, o + m + j, none⟩ := by
    unfold Addr.add
    split <;> split <;> simp_all <;> omega
  rw [this, cell_cells h]
/-- a slice of items, each read by a rule -/
theorem trod_items {α : Type} (f : α → List Value) {sz : Nat} (hf : ∀ x, (f x).length = sz) (hsz : 0 < sz) (pr : α → Prop) {t e : TypeId} (ht : P.underlying t = some (.slice e)) (hc : P.cellsOf e = sz) (he : ∀ n (cs : List Value) (y : DataW H × List MemPlace), DataW.trod enc P W 0 spare held n e cs = some y → ∃ x, cs = f x ∧ pr x)
    {n : Nat} {cs : List Value} {x : DataW H × List MemPlace} (h : DataW.trod enc P W 0 spare held n t cs = some x) : ∃ (l : List α) (v : Value), cs = [v] ∧ RItems (fun b => b < W.heap.size) W sz f l v ∧ ∀ x ∈ l, pr x := by
  rcases DataW.trod_slice ht h with ⟨rfl, rfl⟩ | ⟨a, len, cap, elems, rest, m, rfl, rfl, rfl, _, hlc, hcm, hel, hel2, _, _⟩
  · exact ⟨[], _, rfl, RItems.nil, by simp⟩
  · rw [hc] at hel2
    have hcm' : cap ≤ 9223372036854775807 := by have : cap ≤ maxLen := hcm; simp only [maxLen] at this; omega
    have key : ∀ i, ∃ q : Option α, i < len → ∃ x, q = some x ∧ pr x ∧ ∀ j u, (f x)[j]? = some u → W.cell? ((a.add (i * sz)).add j) = some u := by
      intro i
      by_cases hi : i < len
      · have h1 := hel2 i hi
        rw [List.getElem?_eq_getElem (by omega)] at h1
        obtain ⟨cs', hc', ht'⟩ := Option.bind_eq_some_iff.1 h1
        obtain ⟨_, hl, hcell⟩ := World.cells?_some hc'
        obtain ⟨x, rfl, hx⟩ := he _ _ _ ht'
        refine ⟨some x, fun _ => ⟨x, rfl, hx, fun j u hu => ?_⟩⟩
        have hj := (List.getElem?_eq_some_iff.1 hu).1
        rw [hcell j (by omega)]; exact hu
      · exact ⟨none, fun h => absurd h hi⟩
    obtain ⟨q, hq⟩ := Classical.axiomOfChoice key
    by_cases h0 : len = 0
    · subst h0
      exact ⟨[], _, rfl, ⟨_, cap, rfl, by simp, hcm', .inl rfl⟩, by simp⟩
    obtain ⟨x0, hx0, hp0, hc0⟩ := hq 0 (by omega)
    have hsp : a.spot = none ∧ ∃ c te fr, W.heap[a.block]? = some (.cells c te fr) := by
      have h00 := hc0 0 _ (List.getElem?_eq_getElem (by rw [hf]; exact hsz))
      have : (a.add (0 * sz)).add 0 = a := by simp [Addr.add]
      rw [this] at h00
      unfold World.cell? at h00
      split at h00
      · rename_i c te fr hh
        split at h00
        · cases h00
        · rename_i hs
          exact ⟨by simpa using hs, c, te, fr, hh⟩
      · cases h00
    obtain ⟨hs, c, te, fr, hh⟩ := hsp
    have haa : a = ⟨a.block, a.off, none⟩ := by obtain ⟨b, o, s⟩ := a; simp only at hs; subst hs; rfl
    have hlt : a.block < W.heap.size := (Array.getElem?_eq_some_iff.1 hh).1
    have hget : ∀ (i : Nat) (x : α), ((List.range len).map fun i => (q i).getD x0)[i]? = some x → i < len ∧ q i = some x := fun i x h => by
      rw [List.getElem?_map] at h
      obtain ⟨j, hj, rfl⟩ := Option.map_eq_some_iff.1 h
      obtain ⟨hi, hji⟩ := List.getElem?_eq_some_iff.1 hj
      simp at hi hji
      subst hji
      obtain ⟨x, hx, _⟩ := hq i hi
      exact ⟨hi, by rw [hx]; rfl⟩
    refine ⟨(List.range len).map fun i => (q i).getD x0, _, rfl, ⟨some a, cap, by simp, by simpa using hlc, hcm', .inr ⟨a.block, a.off, c, te, fr, by rw [← haa], ⟨hlt, hh⟩, fun i x hi j u hu => ?_⟩⟩, fun x hx => ?_⟩
    · obtain ⟨hil, hqx⟩ := hget i x hi
      obtain ⟨y, hy, _, hcy⟩ := hq i hil
      rw [hqx] at hy
      cases hy
      rw [← cell_at hs hh (i * sz) j]
      exact hcy j u hu
    · obtain ⟨i, hi⟩ := List.getElem?_of_mem hx
      obtain ⟨hil, hqx⟩ := hget i x hi
      obtain ⟨y, hy, hpy, _⟩ := hq i hil
      rw [hqx] at hy
      cases hy
      exact hpy
end
section
variable {H : Type} {enc : TypeId × Value → H} {W : World} {spare : Nat → Bool} {held : Bool}
theorem co9 : Try.prog.cellsOf 9 = 1 := by kernel_rfl
theorem co3 : Try.prog.cellsOf 3 = 1 := by kernel_rfl
theorem co5 : Try.prog.cellsOf 5 = 1 := by kernel_rfl
theorem co49 : Try.prog.cellsOf 49 = 32 := by kernel_rfl
theorem co51 : Try.prog.cellsOf 51 = 35 := by kernel_rfl
theorem co53 : Try.prog.cellsOf 53 = 71 := by kernel_rfl
theorem sumC_get (s : Fin 32 → Int) (i : Nat) (h : i < 32) : (sumC s)[i]? = some (.int .u8 (s ⟨i, h⟩)) := by
  rcases i with _|_|_|_|_|_|_|_|_|_|_|_|_|_|_|_|_|_|_|_|_|_|_|_|_|_|_|_|_|_|_|_|i <;> first | rfl | omega
theorem sumC_length (s : Fin 32 → Int) : (sumC s).length = 32 := rfl
theorem trod_sum {n : Nat} {cs : List Value} {x : DataW H × List MemPlace} (h : DataW.trod enc Try.prog W 0 spare held n 49 cs = some x) : ∃ s, cs = sumC s := by
  obtain ⟨xs, m, _, _, hl, hxl, hx⟩ := DataW.trod_array Try.underlying49 h
  rw [co49] at hl
  rw [co5] at hx
  have key : ∀ i, i < 32 → ∃ v, cs[i]? = some (.int .u8 v) := fun i hi => by
    have h1 := hx i hi
    have h2 : i < xs.length := by omega
    rw [List.getElem?_eq_getElem h2] at h1
    obtain ⟨v, hv, _⟩ := DataW.trod_int Try.underlying5 h1
    rw [Nat.mul_one] at hv
    exact ⟨v, take1_get hv⟩
  refine ⟨fun i => (match cs[i.1]? with | some (.int _ v) => v | _ => 0), List.ext_getElem? fun i => ?_⟩
  by_cases hi : i < 32
  · obtain ⟨v, hv⟩ := key i hi
    rw [sumC_get _ i hi, hv]
  · rw [List.getElem?_eq_none (by omega), List.getElem?_eq_none (by rw [sumC_length]; omega)]
theorem trod_val {n : Nat} {cs : List Value} {x : DataW H × List MemPlace} (h : DataW.trod enc Try.prog W 0 spare held n 51 cs = some x) : ∃ v, cs = valC v := by
  obtain ⟨y0, y1, y2, y3, m, _, hl, h0, h1, h2, h3⟩ := trod_struct4 Try.underlying51 h
  rw [co51] at hl
  simp only [co3, co49] at h0 h1 h2 h3
  obtain ⟨a, ha, _⟩ := DataW.trod_int Try.underlying3 h0
  obtain ⟨b, hb, _⟩ := DataW.trod_int Try.underlying3 h1
  obtain ⟨c, hc, _⟩ := DataW.trod_int Try.underlying3 h2
  obtain ⟨s, hs⟩ := trod_sum h3
  rcases cs with _ | ⟨v0, _ | ⟨v1, _ | ⟨v2, cs⟩⟩⟩
  · simp at hl
  · simp at hl
  · simp at hl
  · simp at hl ha hb hc hs
    rw [List.take_of_length_le (by omega)] at hs
    exact ⟨⟨a, b, c, s⟩, by rw [ha, hb, hc, hs]; rfl⟩
theorem trod_chg {n : Nat} {cs : List Value} {x : DataW H × List MemPlace} (h : DataW.trod enc Try.prog W 0 spare held n 53 cs = some x) : ∃ c : Chg, cs = chC c ∧ c.path.size ≤ 9223372036854775807 := by
  obtain ⟨y0, y1, y2, m, _, hl, h0, h1, h2⟩ := trod_struct3 Try.underlying53 h
  rw [co53] at hl
  simp only [co9, co51] at h0 h1 h2
  obtain ⟨s, hs, _, hsz⟩ := DataW.trod_string Try.underlying9 h0
  obtain ⟨a, ha⟩ := trod_val h1
  obtain ⟨b, hb⟩ := trod_val h2
  refine ⟨⟨s, a, b⟩, ?_, by have : s.size ≤ maxLen := hsz; simp only [maxLen] at this; omega⟩
  rcases cs with _ | ⟨v0, cs⟩
  · simp at hl
  · simp at hl hs ha hb
    rw [List.take_of_length_le (by simp; omega)] at hb
    unfold chC
    rw [← ha, ← hb, hs, List.take_append_drop]
end
end Go.Eng
