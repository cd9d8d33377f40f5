/-
  Part of the proofs over this seat: D13. Own work; imports the kit.
-/
import Derived.Test.YtdcafpemkpcmpaaRows
import Derived.OpenShut
import Derived.Lib.SmallJoins
import Derived.Test.YtdcafpemkpcmpaaWalk8
set_option linter.unusedVariables false
set_option linter.unusedSimpArgs false
namespace Go.Eng
open Go Go.RowKit Go.Proofs Go.Proofs.Ytdcafpemkpcmpaa Go.Joins Go.ChangeShapes
section
variable {H : Type} {enc : TypeId × Value → H} {W : World} {spare : Nat → Bool} {held : Bool}
theorem co9 : Try.prog.cellsOf 9 = 1 := by kernel_rfl
theorem co3 : Try.prog.cellsOf 3 = 1 := by kernel_rfl
theorem co5 : Try.prog.cellsOf 5 = 1 := by kernel_rfl
theorem co22 : Try.prog.cellsOf 22 = 32 := by kernel_rfl
theorem co24 : Try.prog.cellsOf 24 = 35 := by kernel_rfl
theorem co26 : Try.prog.cellsOf 26 = 2 := by kernel_rfl
theorem co27 : Try.prog.cellsOf 27 = 4 := by kernel_rfl
theorem co28 : Try.prog.cellsOf 28 = 1 := by kernel_rfl
theorem co30 : Try.prog.cellsOf 30 = 41 := by kernel_rfl
theorem sumC_get (s : Fin 32 → Int) (i : Nat) (h : i < 32) : (sumC s)[i]? = some (.int .u8 (s ⟨i, h⟩)) := by
  rcases i with _|_|_|_|_|_|_|_|_|_|_|_|_|_|_|_|_|_|_|_|_|_|_|_|_|_|_|_|_|_|_|_|i <;> first | rfl | omega
theorem sumC_length (s : Fin 32 → Int) : (sumC s).length = 32 := rfl
theorem take_one_get {α : Type} {l : List α} {i : Nat} {x : α} (h : (l.drop i).take 1 = [x]) : l[i]? = some x := by
  have : ((l.drop i).take 1)[0]? = some x := by rw [h]; rfl
  simpa [List.getElem?_take, List.getElem?_drop] using this
theorem trod_sum {n : Nat} {cs : List Value} {x : DataW H × List MemPlace} (h : DataW.trod enc Try.prog W 0 spare held n 22 cs = some x) : ∃ s, cs = sumC s := by
  obtain ⟨xs, m, _, _, hl, hxl, hx⟩ := DataW.trod_array Try.underlying22 h
  rw [co22] at hl
  rw [co5] at hx
  have key : ∀ i, i < 32 → ∃ v, cs[i]? = some (.int .u8 v) := fun i hi => by
    have h1 := hx i hi
    have h2 : i < xs.length := by omega
    rw [List.getElem?_eq_getElem h2] at h1
    obtain ⟨v, hv, _⟩ := DataW.trod_int Try.underlying5 h1
    rw [Nat.mul_one] at hv
    exact ⟨v, take_one_get hv⟩
  refine ⟨fun i => (match cs[i.1]? with | some (.int _ v) => v | _ => 0), List.ext_getElem? fun i => ?_⟩
  by_cases hi : i < 32
  · obtain ⟨v, hv⟩ := key i hi
    rw [sumC_get _ i hi, hv]
  · rw [List.getElem?_eq_none (by omega), List.getElem?_eq_none (by rw [sumC_length]; omega)]
theorem trod_val {n : Nat} {cs : List Value} {x : DataW H × List MemPlace} (h : DataW.trod enc Try.prog W 0 spare held n 24 cs = some x) : ∃ v, cs = valC v := by
  obtain ⟨y0, y1, y2, y3, m, _, hl, h0, h1, h2, h3⟩ := trod_struct4 Try.underlying24 h
  rw [co24] at hl
  simp only [co3, co22] at h0 h1 h2 h3
  obtain ⟨a, ha, _⟩ := DataW.trod_int Try.underlying3 h0
  obtain ⟨b, hb, _⟩ := DataW.trod_int Try.underlying3 h1
  obtain ⟨c, hc, _⟩ := DataW.trod_int Try.underlying3 h2
  obtain ⟨s, hs⟩ := trod_sum h3
  rcases cs with _ | ⟨v0, _ | ⟨v1, _ | ⟨v2, cs⟩⟩⟩
  · simp at hl
  · simp at hl
  · simp at hl
  · simp at hl ha hb hc hs
    rw [List.take_of_length_le (by omega)] at hs
    exact ⟨⟨a, b, c, s⟩, by rw [ha, hb, hc, hs]; rfl⟩
theorem trod_mrk {n : Nat} {cs : List Value} {x : DataW H × List MemPlace} (h : DataW.trod enc Try.prog W 0 spare held n 26 cs = some x) : ∃ v, cs = mrkC v := by
  obtain ⟨y0, y1, m, _, hl, h0, h1⟩ := trod_struct2 Try.underlying26 h
  rw [co26] at hl
  simp only [co3] at h0 h1
  obtain ⟨a, ha, _⟩ := DataW.trod_int Try.underlying3 h0
  obtain ⟨b, hb, _⟩ := DataW.trod_int Try.underlying3 h1
  rcases cs with _ | ⟨v0, _ | ⟨v1, _ | ⟨v2, cs⟩⟩⟩
  · simp at hl
  · simp at hl
  · simp at hl ha hb
    exact ⟨⟨a, b⟩, by rw [ha, hb]; rfl⟩
  · simp at hl
theorem trod_mk2 {n : Nat} {cs : List Value} {x : DataW H × List MemPlace} (h : DataW.trod enc Try.prog W 0 spare held n 27 cs = some x) : ∃ v, cs = mk2C v := by
  obtain ⟨xs, m, _, _, hl, hxl, hx⟩ := DataW.trod_array Try.underlying27 h
  rw [co27] at hl
  rw [co26] at hx
  have h0 := hx 0 (by omega)
  have h1 := hx 1 (by omega)
  rw [List.getElem?_eq_getElem (by omega)] at h0 h1
  obtain ⟨a, ha⟩ := trod_mrk h0
  obtain ⟨b, hb⟩ := trod_mrk h1
  refine ⟨⟨a, b⟩, ?_⟩
  rw [mk2C, ← ha, ← hb]
  simp only [Nat.zero_mul, List.drop_zero, Nat.one_mul]
  rw [List.take_of_length_le (l := cs.drop 2) (by simp; omega), List.take_append_drop]
theorem cell_add {a : Addr} {c : Array Value} {te : TypeId} {fr : Nat × Nat} (hs : a.spot = none) (h : W.heap[a.block]? = some (.cells c te fr)) (m j : Nat) : W.cell? ((a.add m).add j) = c[a.off + m + j]? := by
  obtain ⟨b, o, s⟩ := a
  simp only at hs h
  subst hs
  have : (Addr.add (Addr.add ⟨b, o, none⟩ m) j) = ⟨b, o + m + j, none⟩ := by
    unfold Addr.add
    split <;> split <;> simp_all <;> omega
  rw [this, cell_cells h]
theorem cnt_le : ∀ (l : List Nd) (ds : List (DataW H)), l.length = ds.length → (∀ (i : Nat) (nd : Nd) (d : DataW H), l[i]? = some nd → ds[i]? = some d → (trOf nd).count ≤ Rows.uptoBulk d) → cntL (trsOf l) ≤ Rows.uptoBulkAll ds
  | [], [], _, _ => by simp [trsOf, cntL, Rows.uptoBulkAll]
  | [], _ :: _, h, _ => by simp at h
  | _ :: _, [], h, _ => by simp at h
  | nd :: l, d :: ds, h, hp => by
    have h1 := hp 0 nd d rfl rfl
    have h2 := cnt_le l ds (by simpa using h) (fun i nd d a b => hp (i + 1) nd d (by simpa using a) (by simpa using b))
    simp only [trsOf, cntL, Rows.uptoBulkAll]; omega
theorem bulk_part {d : DataW H} {l : List (DataW H)} (h : d ∈ l) : Rows.uptoBulk d ≤ Rows.uptoBulkAll l := by
  induction l with
  | nil => cases h
  | cons x r ih =>
    simp only [Rows.uptoBulkAll]
    cases List.mem_cons.1 h with
    | inl e => subst e; omega
    | inr e => have := ih e; omega
theorem bulk_one (d : DataW H) : 1 ≤ Rows.uptoBulk d := by
  cases d with
  | lit l => cases l <;> simp [Rows.uptoBulk]
  | nil => simp [Rows.uptoBulk]
  | ptr d => simp [Rows.uptoBulk]
  | slice elems spare => simp [Rows.uptoBulk]
  | agg parts => simp [Rows.uptoBulk]
  | iface t d => simp [Rows.uptoBulk]
  | map entries => simp [Rows.uptoBulk]
  | held h => simp [Rows.uptoBulk]
theorem bulk_length (l : List (DataW H)) : l.length ≤ Rows.uptoBulkAll l := by
  induction l with
  | nil => simp [Rows.uptoBulkAll]
  | cons x r ih => have := bulk_one x; simp only [Rows.uptoBulkAll, List.length_cons]; omega
/-- what a reading of a node, of a list of nodes, gives -/
def NodeRead (W : World) (cs : List Value) (d : DataW H) : Prop := ∃ nd k, cs = ndC nd k ∧ RNds (fun b => b < W.heap.size) W nd.kids k ∧ (trOf nd).count ≤ Rows.uptoBulk d ∧ (Rows.uptoBulk d ≤ 1048576 → NdOK nd)
def NodesRead (W : World) (cs : List Value) (d : DataW H) : Prop := ∃ l v, cs = [v] ∧ RNds (fun b => b < W.heap.size) W l v ∧ cntL (trsOf l) + 1 ≤ Rows.uptoBulk d ∧ l.length ≤ Rows.uptoBulk d ∧ (Rows.uptoBulk d ≤ 1048576 → ∀ nd ∈ l, NdOK nd)
theorem trod_nodes {n : Nat} (ih : ∀ m, m < n → ∀ cs (x : DataW H × List MemPlace), DataW.trod enc Try.prog W 0 spare held m 30 cs = some x → NodeRead W cs x.1) {cs : List Value} {x : DataW H × List MemPlace} (h : DataW.trod enc Try.prog W 0 spare held n 28 cs = some x) : NodesRead W cs x.1 := by
  rcases DataW.trod_slice Try.underlying28 h with ⟨rfl, rfl⟩ | ⟨a, len, cap, elems, rest, m, rfl, rfl, rfl, _, hlc, hcm, hel, he, _, _⟩
  · exact ⟨[], _, rfl, .nil _ _, by simp [trsOf, cntL, Rows.uptoBulk], by simp, fun _ _ h => by cases h⟩
  · rw [co30] at he
    have key : ∀ i, ∃ q : Nd × Value × (DataW H × List MemPlace) × List Value, i < len → elems[i]? = some q.2.2.1 ∧ W.cells? 0 (a.add (i * 41)) 41 = some q.2.2.2 ∧ q.2.2.2 = ndC q.1 q.2.1 ∧ RNds (fun b => b < W.heap.size) W q.1.kids q.2.1 ∧ (trOf q.1).count ≤ Rows.uptoBulk q.2.2.1.1 ∧ (Rows.uptoBulk q.2.2.1.1 ≤ 1048576 → NdOK q.1) := by
      intro i
      by_cases hi : i < len
      · have h1 := he i hi
        rw [List.getElem?_eq_getElem (by omega)] at h1
        obtain ⟨cs', hc, ht⟩ := Option.bind_eq_some_iff.1 h1
        obtain ⟨nd, k, h2, h3, h4, h5⟩ := ih m (by omega) cs' _ ht
        exact ⟨(nd, k, elems[i], cs'), fun _ => ⟨List.getElem?_eq_getElem (by omega), hc, h2, h3, h4, h5⟩⟩
      · exact ⟨(.mk ⟨#[]⟩ zeroVal zeroMk [], .bool false, (.nil, []), []), fun h => absurd h hi⟩
    obtain ⟨f, hf⟩ := Classical.axiomOfChoice key
    have hget : ∀ (i : Nat) (nd : Nd), ((List.range len).map fun i => (f i).1)[i]? = some nd → i < len ∧ nd = (f i).1 := fun i nd h => by
      rw [List.getElem?_map] at h
      obtain ⟨j, hj, rfl⟩ := Option.map_eq_some_iff.1 h
      obtain ⟨hi, hji⟩ := List.getElem?_eq_some_iff.1 hj
      simp at hi hji
      subst hji
      exact ⟨hi, rfl⟩
    have hll : ((List.range len).map fun i => (f i).1).length = len := by simp
    have hbulk : Rows.uptoBulkAll (elems.map (·.1)) + 1 ≤ Rows.uptoBulk (DataW.slice (elems.map (·.1)) (rest.map (·.1))) := by simp only [Rows.uptoBulk]; omega
    have hcnt : cntL (trsOf ((List.range len).map fun i => (f i).1)) ≤ Rows.uptoBulkAll (elems.map (·.1)) := by
      refine cnt_le _ _ (by simp [hel]) fun i nd d hi hd => ?_
      obtain ⟨hil, rfl⟩ := hget i nd hi
      obtain ⟨h1, _, _, _, h5, _⟩ := hf i hil
      rw [List.getElem?_map, h1] at hd
      simp at hd
      subst hd
      exact h5
    have hlen : len ≤ Rows.uptoBulkAll (elems.map (·.1)) := by
      have := bulk_length (elems.map (·.1))
      rw [List.length_map, hel] at this
      exact this
    show NodesRead W _ (DataW.slice (elems.map (·.1)) (rest.map (·.1)))
    refine ⟨(List.range len).map (fun i => (f i).1), .slice (some a) len cap, rfl, ?_, by omega, by rw [hll]; omega, ?_⟩
    · by_cases h0 : len = 0
      · subst h0
        exact .nil _ _
      · obtain ⟨_, hc0, hcs0, _⟩ := hf 0 (by omega)
        obtain ⟨_, hl0, hcell0⟩ := World.cells?_some hc0
        have h00 := hcell0 0 (by omega)
        rw [Nat.zero_mul] at h00
        have hadd : (a.add 0).add 0 = a := by simp [Addr.add]
        rw [hadd, hcs0] at h00
        have hsp : a.spot = none ∧ ∃ c te fr, W.heap[a.block]? = some (.cells c te fr) := by
          unfold World.cell? at h00
          split at h00
          · rename_i c te fr hh
            split at h00
            · cases h00
            · rename_i hs
              exact ⟨by simpa using hs, c, te, fr, hh⟩
          · cases h00
        obtain ⟨hs, c, te, fr, hh⟩ := hsp
        have haa : a = ⟨a.block, a.off, none⟩ := by obtain ⟨b, o, s⟩ := a; simp only at hs; subst hs; rfl
        have hlt : a.block < W.heap.size := (Array.getElem?_eq_some_iff.1 hh).1
        have := RNds.mk (Z := fun b => b < W.heap.size) (w := W) (l := (List.range len).map fun i => (f i).1) (b := a.block) (o := a.off) (c := cap) (cs := c) (te := te) (fr := fr) (fun i => (f i).2.1) (by omega) (by have : cap ≤ maxLen := hcm; simp only [maxLen] at this; omega) ⟨hlt, hh⟩ (fun i nd hi => by
          obtain ⟨hil, rfl⟩ := hget i nd hi
          obtain ⟨_, hc, hcs, _⟩ := hf i hil
          obtain ⟨_, hl, hcell⟩ := World.cells?_some hc
          intro j u hu
          have hj := (List.getElem?_eq_some_iff.1 hu).1
          rw [← hcs, hl] at hj
          have := hcell j hj
          rw [cell_add hs hh, hcs, hu] at this
          exact this) (fun i nd hi => by
          obtain ⟨hil, rfl⟩ := hget i nd hi
          exact (hf i hil).2.2.2.1)
        rw [hll, ← haa] at this
        exact this
    · intro hb nd hnd
      obtain ⟨i, hi⟩ := List.getElem?_of_mem hnd
      obtain ⟨hil, rfl⟩ := hget i nd hi
      obtain ⟨h1, _, _, _, _, h6⟩ := hf i hil
      have := bulk_part (d := (f i).2.2.1.1) (l := elems.map (·.1)) (List.mem_map_of_mem (List.mem_of_getElem? h1))
      exact h6 (by omega)
theorem trod_node : ∀ (n : Nat) (cs : List Value) (x : DataW H × List MemPlace), DataW.trod enc Try.prog W 0 spare held n 30 cs = some x → NodeRead W cs x.1 := by
  intro n
  induction n using Nat.strongRecOn with
  | ind n ih =>
    intro cs x h
    obtain ⟨xs, m, rfl, rfl, hl, hxl, hx⟩ := DataW.trod_struct Try.underlying30 h
    have h0 : DataW.trod enc Try.prog W 0 spare held m 9 ((cs.drop 0).take (Try.prog.cellsOf 9)) = xs[0]? := hx 0 _ rfl
    have h1 : DataW.trod enc Try.prog W 0 spare held m 24 ((cs.drop 1).take (Try.prog.cellsOf 24)) = xs[1]? := hx 1 _ rfl
    have h2 : DataW.trod enc Try.prog W 0 spare held m 27 ((cs.drop 36).take (Try.prog.cellsOf 27)) = xs[2]? := hx 2 _ rfl
    have h3 : DataW.trod enc Try.prog W 0 spare held m 28 ((cs.drop 40).take (Try.prog.cellsOf 28)) = xs[3]? := hx 3 _ rfl
    match xs, hxl with
    | [y0, y1, y2, y3], _ =>
    rw [co30] at hl
    simp only [co9, co24, co27, co28] at h0 h1 h2 h3
    obtain ⟨s, hs, hy0, _⟩ := DataW.trod_string Try.underlying9 h0
    obtain ⟨v, hv⟩ := trod_val h1
    obtain ⟨mk, hm⟩ := trod_mk2 h2
    obtain ⟨l, k, hk, hr, hcn, hll, hok⟩ := trod_nodes (fun m' hm' => ih m' (by omega)) h3
    rcases cs with _ | ⟨c0, cs⟩
    · simp at hl
    · simp at hl hs hv hm hk
      have hcs : cs = valC v ++ (mk2C mk ++ [k]) := by
        rw [← hv, ← hm, ← hk]
        rw [List.take_of_length_le (l := cs.drop 39) (by simp; omega)]
        rw [show cs.drop 39 = (cs.drop 35).drop 4 by rw [List.drop_drop], List.take_append_drop, List.take_append_drop]
      refine ⟨.mk s v mk l, k, by rw [hcs, hs]; rfl, hr, ?_, ?_⟩
      · simp only [trOf, Tr.count, List.map_cons, Rows.uptoBulk, Rows.uptoBulkAll]
        omega
      · intro hb
        simp only [List.map_cons, List.map_nil, Rows.uptoBulk, Rows.uptoBulkAll, hy0] at hb
        refine .mk ?_ ?_ (hok (by omega))
        · show s.size ≤ _
          have : s.data.toList.length = s.size := by rw [Array.length_toList]; rfl
          omega
        · show l.length ≤ _
          omega
end
end Go.Eng
