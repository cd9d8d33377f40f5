/-
  Part of the proofs over this seat: K4 L7 K5 L8. Own work; imports the kit.
-/
import Derived.Test.YtdcafpemkpcmpaaWalk4
import Derived.Test.YtdcafpemkpcmpaaEng4
import Derived.Test.YtdcafpemkpcmpaaRoom3
set_option linter.unusedVariables false
set_option linter.unusedSimpArgs false
namespace Go.Eng
open Go Go.RowKit Go.Proofs
mutual
def ndT : ByteArray → Tr → Nd
  | nm, .mk v m ns ks => .mk nm v m (ndsT ns ks)
def ndsT : List ByteArray → List Tr → List Nd
  | n :: ns, k :: ks => ndT n k :: ndsT ns ks
  | _, _ => []
end
theorem ndsT_get : ∀ (ns : List ByteArray) (ks : List Tr) (i : Nat) (n : ByteArray) (k : Tr), ns[i]? = some n → ks[i]? = some k → (ndsT ns ks)[i]? = some (ndT n k)
  | n :: ns, k :: ks, 0, n', k', h1, h2 => by simp at h1 h2; subst h1; subst h2; simp [ndsT]
  | n :: ns, k :: ks, i + 1, n', k', h1, h2 => by
    simp only [List.getElem?_cons_succ] at h1 h2
    simp only [ndsT, List.getElem?_cons_succ]
    exact ndsT_get ns ks i n' k' h1 h2
theorem ndsT_length : ∀ (ns : List ByteArray) (ks : List Tr), ns.length = ks.length → (ndsT ns ks).length = ks.length
  | [], [], _ => rfl
  | n :: ns, k :: ks, h => by simp only [ndsT, List.length_cons]; rw [ndsT_length ns ks (by simpa using h)]
  | [], _ :: _, h => by cases h
  | _ :: _, [], h => by cases h
mutual
theorem ndT_trOf : ∀ (nd : Nd) (nm : ByteArray), ndT nm (trOf nd) = .mk nm nd.val nd.marks nd.kids
  | .mk n v m ks, nm => by simp only [trOf, ndT, Nd.val, Nd.marks, Nd.kids]; rw [ndsT_trsOf ks]
theorem ndsT_trsOf : ∀ ks : List Nd, ndsT (namesOf ks) (trsOf ks) = ks
  | [] => rfl
  | .mk n v m kk :: ks => by
    simp only [namesOf, trsOf, ndsT]
    rw [ndsT_trsOf ks, ndT_trOf (.mk n v m kk)]
    rfl
end
theorem pt_marks {v : Val} {m : Mk2} {nv kv : Value} {c d : Int} : PartAt Try.prog 27 (treeC v m nv kv c d).toArray (0 + 35) (.agg (mk2C m).toArray) := .agg Try.underlying27 rfl sz27 (fun j u h => by
  have hj := (List.getElem?_eq_some_iff.1 h).1
  rw [mk2C_length] at hj
  rw [List.getElem?_toArray, treeC, List.getElem?_append_right (by rw [valC_length]; omega), valC_length, show 0 + 35 + j - 35 = j by omega, List.getElem?_append_left (by rw [mk2C_length]; exact hj)]
  exact h)
theorem len_le_cntL : ∀ ks : List Tr, ks.length ≤ cntL ks
  | [] => by simp
  | .mk v m ns kk :: ks => by
    have := len_le_cntL ks
    simp only [cntL, Tr.count, List.length_cons]
    omega
/-- what a run of 'node' knows of its rounds -/
def NodeInv (nds : List Nd) (w0 : World) (Zs : Nat → Prop) (wzs : World) (i : Nat) (Z : Nat → Prop) (wz : World) (y : List (Nd × Value) × Value) : Prop :=
  Ext Zs wzs Z wz ∧ y.1.map (·.1) = nds.take i ∧ y.1.length = i ∧ (∀ p ∈ y.1, RNds (NZ w0.heap.size Z) wz p.1.kids p.2) ∧ ∃ A c, y.2 = .slice A i c
def NodeS (b4 b5 : Nat) (nm : ByteArray) (v : Val) (m : Mk2) (y : List (Nd × Value) × Value) : List Res :=
  [.row y.2 30 41 y.1.length (y.1.flatMap nkC), .blk b5 (.cells (nodeC nm v m y.2).toArray 30 (0, 0)), .blk b4 (.cells (nodeC ⟨#[]⟩ zeroVal zeroMk nilS).toArray 30 (0, 0))]
theorem NodeInv.push {nds : List Nd} {w0 : World} {Zs : Nat → Prop} {wzs : World} {i : Nat} {Z : Nat → Prop} {wz : World} {ls : List (Nd × Value)} {vf : Value} (h : NodeInv nds w0 Zs wzs i Z wz (ls, vf)) {Z' : Nat → Prop} {wz' : World} (he : Ext Z wz Z' wz') {nd : Nd} {k : Value} (hn : nds[i]? = some nd)
    (hr : RNds (NZ w0.heap.size Z') wz' nd.kids k) (A : Option Addr) (c : Nat) : NodeInv nds w0 Zs wzs (i + 1) Z' wz' (ls ++ [(nd, k)], .slice A (i + 1) c) := by
  obtain ⟨h1, h2, h3, h4, _⟩ := h
  refine ⟨h1.trans he, ?_, by simp [show ls.length = i from h3], ?_, A, c, rfl⟩
  · dsimp only at h2 ⊢
    rw [take_snoc_get hn, List.map_append, h2]; rfl
  · intro p hp
    rcases List.mem_append.1 hp with hp | hp
    · exact (h4 p hp).ext (he.nz _)
    · rcases List.mem_singleton.1 hp with rfl
      exact hr
end Go.Eng

set_option linter.unusedVariables false
set_option linter.unusedSimpArgs false
namespace Go.Eng
open Go Go.RowKit Go.Proofs
theorem en19 : Enters Try.prog 19 := ⟨_, Try.func19, by kernel_rfl, by kernel_rfl⟩
theorem en78 : Enters Try.prog 78 := ⟨_, Try.func78, by kernel_rfl, by kernel_rfl⟩
theorem en95 : Enters Try.prog 95 := ⟨_, Try.func95, by kernel_rfl, by kernel_rfl⟩
theorem fo120_1 : fieldOff Try.prog 120 1 = some 35 := by kernel_rfl

set_option maxRecDepth 8000 in
set_option maxHeartbeats 1000000 in
theorem kidsY_spec (ll : Nat) (v : Val) (m : Mk2) (ns : List ByteArray) (ks : List Tr) (ps : List Nat) (nv kv : Value) (b c : Nat) (Zf : Nat → Prop) (wf : World) (H : Nat → World → Prop) (hF : ∀ i w, H i w → ∀ k o, FB Zf wf k o → w.heap[k]? = some o)
    (hfb : FB Zf wf b (.cells (treeC v m nv kv (Tr.mk v m ns ks).count (Tr.mk v m ns ks).depth).toArray 120 (0, 0))) (hnk : ns.length = ks.length) (hps : ps.length = ks.length) (hnn : RVals Zf wf (ns.map strV) nv) (hkk : RVals Zf wf (ps.map ptrV) kv)
    (hfc : FB Zf wf c (.cells #[ptrV b] 55 (0, 0)))
    (hY : ∀ i n p, i < ks.length → ns[i]? = some n → ps[i]? = some p → ∀ w, H i w → YCall Try.prog ll #[strV n, ptrV p] w (H (i + 1))) (w : World) (hH0 : H 0 w) :
    Calls Try.prog 78 (#[.func (.yield ll) #[] #[]] ++ #[.pointer (some ⟨c, 0, none⟩)]) w (fun e w' => (∃ v, e = .returned v) ∧ H ks.length w') := by
  obtain ⟨An, cn, rfl, hln⟩ := hnn.slice
  obtain ⟨Ak, ck, rfl, hlk⟩ := hkk.slice
  have hm1 : (ns.map strV).length = ns.length := List.length_map _
  have hm2 : (ps.map ptrV).length = ps.length := List.length_map _
  refine enter (M := H 0) (N := 27) Try.func78 rfl Try.ntmps78 (Nat.le_of_ble_eq_true rfl) [(0, .func (.yield ll) #[] #[]), (1, .pointer (some ⟨c, 0, none⟩))] (by repeat (first | exact trivial | refine ⟨rfl, ?_⟩)) (hH0) ?_
  refine JC_seq ?_
  refine JC_region ?_
  refine JL_v (vo_loadH rfl (fun w1 hw => hF _ w1 hw _ _ ‹_›) (by first | exact .cell Try.underlying55 rfl rfl | exact .cell Try.underlying55 rfl (by simpa using hcell) | exact .cell Try.underlying9 rfl (by simpa using hcell9))) nofun (by decide) ?_
  refine JL_v ((by first | exact vo_nilCheck rfl | exact vo_nilCheckF rfl)) nofun (by decide) ?_
  refine JL_v (vo_fieldAddr rfl fo120_3) nofun (by decide) ?_
  refine JL_v (vo_loadH rfl (fun w1 hw => hF _ w1 hw _ _ ‹_›) (by first | exact .cell Try.underlying89 rfl rfl | exact .cell Try.underlying55 rfl (by simpa using hcell) | exact .cell Try.underlying9 rfl (by simpa using hcell9))) nofun (by decide) ?_
  refine JL_v (vo_len rfl Try.underlying89) nofun (by decide) ?_
  refine JL_v (vo_move rfl) nofun (by decide) ?_
  refine JL_nil ?_
  refine JX_then ?_
  refine JC_block ?_
  refine JC_loop (α := { i : Nat // i ≤ ks.length }) (fun i => [(0, .func (.yield ll) #[] #[]), (1, .pointer (some ⟨c, 0, none⟩)), (8, .slice Ak (ps.map ptrV).length ck), (9, .int .i64 (ps.map ptrV).length), (10, .int .i64 i.1)]) (fun i => H i.1) (fun i => ks.length - i.1) ⟨0, by omega⟩ (by repeat (first | exact trivial | refine ⟨rfl, ?_⟩ | refine ⟨trivial, ?_⟩)) (fun w hw => hw) ?_
  rintro ⟨i, hi⟩
  dsimp only
  refine JC_seq ?_
  refine JC_region ?_
  refine JL_v (vo_cmp rfl rfl rfl) nofun (by decide) ?_
  refine JL_nil ?_
  refine JX_then ?_
  refine JC_seq ?_
  refine JC_cond _ rfl (fun hc11 => ?_) (fun hc11 => ?_)
  · have hil : i < ks.length := by simp at hc11; omega
    obtain ⟨k, hki⟩ : ∃ k, ks[i]? = some k := ⟨_, List.getElem?_eq_getElem hil⟩
    obtain ⟨pk, hpi⟩ : ∃ p, ps[i]? = some p := ⟨_, List.getElem?_eq_getElem (by omega)⟩
    obtain ⟨n, hni⟩ : ∃ n, ns[i]? = some n := ⟨_, List.getElem?_eq_getElem (by omega)⟩
    obtain ⟨b', o', c', cs', te, fr, hv, hfbk, hcell⟩ := hkk.at_ (i := i) (u := ptrV pk) (by simp [hpi])
    cases hv
    obtain ⟨b9, o9, c9, cs9, te9, fr9, hv9, hfb9, hcell9⟩ := hnn.at_ (i := i) (u := strV n) (by simp [hni])
    cases hv9
    refine JC_skip ?_
    refine JX_then ?_
    refine JC_seq ?_
    refine JC_block ?_
    refine JC_seq ?_
    refine JC_region ?_
    refine JL_v (vo_move rfl) nofun (by decide) ?_
    refine JL_v (vo_indexAddr rfl rfl Try.underlying89 sz55 (by omega) (by omega)) nofun (by decide) ?_
    refine JL_v (vo_loadH rfl (fun w1 hw => hF _ w1 hw _ _ ‹_›) (by first | exact .cell Try.underlying55 rfl rfl | exact .cell Try.underlying55 rfl (by simpa using hcell) | exact .cell Try.underlying9 rfl (by simpa using hcell9))) nofun (by decide) ?_
    refine JL_v (vo_assign rfl) nofun (by decide) ?_
    refine JL_v (vo_assign rfl) nofun (by decide) ?_
    refine JL_nil ?_
    refine JX_then ?_
    refine JC_seq ?_
    refine JC_region ?_
    refine JL_v (vo_move rfl) nofun (by decide) ?_
    refine JL_v (vo_loadH rfl (fun w1 hw => hF _ w1 hw _ _ ‹_›) (by first | exact .cell Try.underlying55 rfl rfl | exact .cell Try.underlying55 rfl (by simpa using hcell) | exact .cell Try.underlying9 rfl (by simpa using hcell9))) nofun (by decide) ?_
    refine JL_v ((by first | exact vo_nilCheck rfl | exact vo_nilCheckF rfl)) nofun (by decide) ?_
    refine JL_v (vo_fieldAddr rfl fo120_2) nofun (by decide) ?_
    refine JL_v (vo_loadH rfl (fun w1 hw => hF _ w1 hw _ _ ‹_›) (by first | exact .cell Try.underlying71 rfl rfl | exact .cell Try.underlying55 rfl (by simpa using hcell) | exact .cell Try.underlying9 rfl (by simpa using hcell9))) nofun (by decide) ?_
    refine JL_v (vo_move rfl) nofun (by decide) ?_
    refine JL_v (vo_indexAddr rfl rfl Try.underlying71 sz9 (by omega) (by omega)) nofun (by decide) ?_
    refine JL_v (vo_loadH rfl (fun w1 hw => hF _ w1 hw _ _ ‹_›) (by first | exact .cell Try.underlying9 rfl rfl | exact .cell Try.underlying55 rfl (by simpa using hcell) | exact .cell Try.underlying9 rfl (by simpa using hcell9))) nofun (by decide) ?_
    refine JL_v (vo_move rfl) nofun (by decide) ?_
    refine st_yield (H (i + 1)) rfl rfl (by decide) (fun w1 hw => hY i n pk hil hni hpi w1 hw) ?_
    refine JL_v (vo_not rfl) nofun (by decide) ?_
    refine JL_nil ?_
    refine JX_then ?_
    refine JC_cond _ rfl (fun hc25 => ?_) (fun hc25 => ?_)
    · exact absurd hc25 (by decide)
    · refine JC_skip ?_
      refine JX_block ?_
      refine JX_then ?_
      refine JC_region ?_
      refine JL_v (vo_add rfl rfl (by omega) (by omega)) nofun (by decide) ?_
      refine JL_v (vo_move rfl) nofun (by decide) ?_
      refine JL_nil ?_
      exact JX_loop ⟨i + 1, hil⟩ (by show ks.length - (i + 1) < ks.length - i; omega) (by repeat (first | exact trivial | refine ⟨rfl, ?_⟩ | refine ⟨trivial, ?_⟩)) (fun w hw => hw)
  · refine JC_exit ?_
    refine JX_then_exit ?_
    refine JX_thenK_exit ?_
    refine JX_block_exit ?_
    refine end0 rfl (fun w1 hM => ⟨⟨_, rfl⟩, ?_⟩)
    have hie : i = ks.length := by simp at hc11; omega
    rw [← hie]; exact hM
set_option maxRecDepth 8000 in
set_option maxHeartbeats 1000000 in
theorem nodeT_of (v : Val) (m : Mk2) (ns : List ByteArray) (ks : List Tr) (hks : ∀ k ∈ ks, ∀ (b : Nat) (nm : ByteArray) (w : World), RTree (fun b => b < w.heap.size) w k b → k.count ≤ 1000000000 → FCalls Try.prog 95 #[ptrV b, .string nm] w (copyR (ndT nm k))) : ∀ (b : Nat) (nm : ByteArray) (w : World), RTree (fun b => b < w.heap.size) w (.mk v m ns ks) b → (Tr.mk v m ns ks).count ≤ 1000000000 → FCalls Try.prog 95 #[ptrV b, .string nm] w (copyR (ndT nm (.mk v m ns ks))) := by
  intro b nm w hT hcnt
  obtain ⟨nv, kv, ps, hfb, hnk, hps, hnn, hkk, htt⟩ := hT.open_
  refine enterM (N := 33) Try.func95 rfl Try.ntmps95 (Nat.le_of_ble_eq_true rfl) [(0, ptrV b), (1, .string nm)] (by repeat (first | exact trivial | refine ⟨rfl, ?_⟩)) (Mem.start w (fun _ => False) (fun b => b < w.heap.size) (fun _ h => h)) ?_
  refine JC_seq ?_
  refine JC_region ?_
  refine st_alloc zr30 (by decide) (fun b4 => ?_)
  refine JL_nil ?_
  refine JX_then ?_
  refine JC_seq ?_
  refine JC_draw (F := fun w1 => w1.heap[b]? = some (.cells (treeC v m nv kv (Tr.mk v m ns ks).count (Tr.mk v m ns ks).depth).toArray 120 (0, 0))) 11 (by kernel_rfl) (fun w hw => Mem.drew hw) ?_
  refine JR_v (i := 0) rfl (by kernel_rfl) (by kernel_rfl) rfl (by kernel_rfl) (by kernel_rfl) panic_any (by decide) (vo_move rfl) (fun w hw => hw.has (.frz hfb)) ?_
  refine JR_v (i := 1) rfl (by kernel_rfl) (by kernel_rfl) rfl (by kernel_rfl) (by kernel_rfl) panic_any (by decide) (vo_move rfl) (fun w hw => hw.has (.frz hfb)) ?_
  refine JR_v (i := 2) rfl (by kernel_rfl) (by kernel_rfl) rfl (by kernel_rfl) (by kernel_rfl) panic_any (by decide) ((by first | exact vo_nilCheck rfl | exact vo_nilCheckF rfl)) (fun w hw => hw.has (.frz hfb)) ?_
  refine JR_v (i := 3) rfl (by kernel_rfl) (by kernel_rfl) rfl (by kernel_rfl) (by kernel_rfl) panic_any (by decide) (vo_fieldAddr rfl fo120_0) (fun w hw => hw.has (.frz hfb)) ?_
  refine JR_v (i := 4) rfl (by kernel_rfl) (by kernel_rfl) rfl (by kernel_rfl) (by kernel_rfl) panic_any (by decide) (vo_loadH rfl (fun w1 hw => hw) pt_val) (fun w hw => hw.has (.frz hfb)) ?_
  refine JR_v (i := 5) rfl (by kernel_rfl) (by kernel_rfl) rfl (by kernel_rfl) (by kernel_rfl) panic_any (by decide) (vo_move rfl) (fun w hw => hw.has (.frz hfb)) ?_
  refine JR_v (i := 6) rfl (by kernel_rfl) (by kernel_rfl) rfl (by kernel_rfl) (by kernel_rfl) panic_any (by decide) ((by first | exact vo_nilCheck rfl | exact vo_nilCheckF rfl)) (fun w hw => hw.has (.frz hfb)) ?_
  refine JR_v (i := 7) rfl (by kernel_rfl) (by kernel_rfl) rfl (by kernel_rfl) (by kernel_rfl) panic_any (by decide) (vo_fieldAddr rfl fo120_1) (fun w hw => hw.has (.frz hfb)) ?_
  refine JR_v (i := 8) rfl (by kernel_rfl) (by kernel_rfl) rfl (by kernel_rfl) (by kernel_rfl) panic_any (by decide) (vo_loadH rfl (fun w1 hw => hw) pt_marks) (fun w hw => hw.has (.frz hfb)) ?_
  refine JR_v (i := 9) rfl (by kernel_rfl) (by kernel_rfl) rfl (by kernel_rfl) (by kernel_rfl) panic_any (by decide) (vo_build rfl (by first | exact bl30n _ _ _)) (fun w hw => hw.has (.frz hfb)) ?_
  refine JR_split [10] (by kernel_rfl) rfl (all1 ?_)
  refine JK_alloc rfl trivial zr30 (by decide) (fun b w hw => hw.has (.frz hfb)) (fun b5 => ?_)
  refine JR_store (cs := (nodeC ⟨#[]⟩ zeroVal zeroMk nilS).toArray) (cs' := (nodeC nm v m nilS).toArray) (te := 30) rfl (by kernel_rfl) (by kernel_rfl) rfl rfl rfl sz30 (by exact one_of_all rfl) (by repeat (first | exact .head _ _ _ | apply Turn.tail)) (by exact Nat.le_of_ble_eq_true rfl) (setSeg_whole rfl) ?_
  refine JX_then ?_
  refine JC_seq ?_
  refine JC_seq ?_
  refine JC_region ?_
  refine JL_v (vo_move rfl) nofun (by decide) ?_
  refine st_pcall rfl en19 (by decide) (fun w hw => children_spec b w (fun b hb => hw.zlt' b hb)) (fun v9 Z1 wz1 he1 hR => ?_)
  obtain ⟨c, rfl, hfc⟩ := hR
  refine JL_nil ?_
  refine JX_then ?_
  refine JC_block ?_
  refine JC_nilrow 30 41 ?_
  refine JC_rangeFunc (gf := 78) ks.length (fun i => ((ns[i]?).map strV).getD nilS) (fun i => ((ps[i]?).map ptrV).getD nilS) (NodeInv (ndsT ns ks) w Z1 wz1) (NodeS b4 b5 nm v m) ([], nilS) rfl en78 (by decide) (by decide) rfl ⟨.refl _ _, rfl, rfl, nofun, none, 0, rfl⟩ ?_ ?_ ?_
  · intro ll H hH hY w1 hw1
    refine kidsY_spec ll v m ns ks ps nv kv b c Z1 wz1 H (fun i w2 hw2 k o hf => ?_) (he1.fb _ _ hfb) hnk hps (hnn.ext he1) (hkk.ext he1) hfc (fun i n p hi hni hpi w2 hw2 => ?_) w1 hw1
    · obtain ⟨Z', wz', y, K, hinv, hm⟩ := hH i w2 hw2
      have := hinv.1.fb k o hf
      exact hm.frz k o this.z this.at_
    · have := hY i hi w2 hw2
      rw [hni, hpi] at this
      exact this
  · rintro D ll lp i Z' wz' ⟨ls, vf⟩ hlp1 hlp2 hil hinv
    have hinv' := hinv
    obtain ⟨he2, hls, hlen, hk9, A9, c9, hv9⟩ := hinv'
    dsimp only at hls hlen hk9 hv9
    subst hv9
    obtain ⟨k, hki⟩ : ∃ k, ks[i]? = some k := ⟨_, List.getElem?_eq_getElem hil⟩
    obtain ⟨pk, hpi⟩ : ∃ p, ps[i]? = some p := ⟨_, List.getElem?_eq_getElem (by omega)⟩
    obtain ⟨n, hni⟩ : ∃ n, ns[i]? = some n := ⟨_, List.getElem?_eq_getElem (by omega)⟩
    rw [hni, hpi, Option.map_some, Option.map_some, Option.getD_some, Option.getD_some]
    have hmem := List.mem_of_getElem? hki
    have hndk := ndsT_get ns ks i n k hni hki
    have hck : k.count ≤ 1000000000 := by have := cntL_mem hmem; simp only [Tr.count] at hcnt; omega
    have hkl : ks.length ≤ 1000000000 := by have := len_le_cntL ks; simp only [Tr.count] at hcnt; omega
    unfold NodeS
    dsimp only
    rw [hlen]
    refine JC_seq ?_
    refine JC_region ?_
    refine JL_v (vo_assign rfl) nofun (by decide) ?_
    refine JL_nil ?_
    refine JX_then ?_
    refine JC_region ?_
    refine JL_v (vo_assign rfl) nofun (by decide) ?_
    refine JL_nil ?_
    refine JX_begin hlp1 ?_
    refine JC_block ?_
    refine JC_draw (F := fun _ => True) 12 (by kernel_rfl) (fun w hw => Mem.drew hw) ?_
    refine JR_v (i := 0) rfl (by kernel_rfl) (by kernel_rfl) rfl (by kernel_rfl) (by kernel_rfl) panic_any (by decide) (vo_fieldAddr rfl fo30_3) (fun w hw => trivial) ?_
    refine JR_v (i := 2) rfl (by kernel_rfl) (by kernel_rfl) rfl (by kernel_rfl) (by kernel_rfl) panic_any (by decide) (vo_move rfl) (fun w hw => trivial) ?_
    refine JR_v (i := 3) rfl (by kernel_rfl) (by kernel_rfl) rfl (by kernel_rfl) (by kernel_rfl) panic_any (by decide) (vo_move rfl) (fun w hw => trivial) ?_
    refine JR_split [1, 4, 6] (by kernel_rfl) rfl (all3 ?_ ?_ ?_)
    · refine JK_val rfl (by decide) (vo_load rfl (by first | exact .frz ‹_› | exact .own (by repeat (first | exact .head _ | refine .tail _ ?_))) (.cell Try.underlying28 rfl rfl)) (fun _ _ => trivial) ?_
      refine JR_v (i := 5) rfl (by kernel_rfl) (by kernel_rfl) rfl (by kernel_rfl) (by kernel_rfl) panic_any (by decide) (vo_len rfl Try.underlying28) (fun w hw => trivial) ?_
      refine JR_split [4, 6] (by kernel_rfl) rfl (all2 ?_ ?_)
      · refine JK_fcall rfl trivial rfl en95 (by decide) (grows_copy _) (fun w1 hw => hks k hmem pk n w1 ((((htt i k pk hki hpi).ext he1).ext he2).ext hw.ext_all) hck) (fun _ _ _ _ _ => trivial) ?_
        rintro _ Z2 wz2 he3 ⟨kk', rfl, hrk⟩
        obtain ⟨Ak', ck', rfl, hlk'⟩ := hrk.slice
        refine JR_split [6] (by kernel_rfl) rfl (all1 ?_)
        refine JK_op (β := Nat) (fun b => .slice (some ⟨b, 0, none⟩) 1 1) _ rfl rfl (by decide) trivial (do_bslice1 rfl Try.underlying28 (by first | exact zr30) sz30 (by exact Nat.le_of_ble_eq_true rfl) (by exact Nat.ne_of_gt (Nat.le_of_ble_eq_true rfl))) (fun b w hw => trivial) (fun b28 => ?_)
        refine JR_split [7] (by kernel_rfl) rfl (all1 ?_)
        refine JK_op (β := Value) (fun v => v) _ rfl rfl (by decide) trivial (do_appendB rfl rfl Try.underlying28 ap30 (by rfl) (by decide) (by first | exact .frz ‹_› | exact .own (by repeat (first | exact .head _ | refine .tail _ ?_))) (by repeat (first | exact .head _ | apply TurnF.tail)) (by rfl) (by first | exact one_of_all rfl | assumption) (by omega) (by decide)) (fun v w hw => trivial) (fun v29 => ?_)
        refine JR_rowSome2 (v := v29) (e := 30) (sz := 41) (n := i + 1) (xs := ls.flatMap nkC ++ (Value.cells (.agg (nodeC ⟨#[]⟩ zeroVal zeroMk nilS).toArray)).toList) (by repeat (first | exact .head _ | apply List.Mem.tail)) (by omega) (fun g cap hv29 hgc hgm hxl => ?_)
        subst hv29
        have hfl : (ls.flatMap nkC).length = i * 41 := by rw [flat_length nkC_length, hlen]
        refine JR_v (i := 8) rfl (by kernel_rfl) (by kernel_rfl) rfl (by kernel_rfl) (by kernel_rfl) panic_any (by decide) (vo_indexAddr rfl rfl Try.underlying28 sz30 (by omega) (by omega)) (fun w hw => trivial) ?_
        refine JR_v (i := 10) rfl (by kernel_rfl) (by kernel_rfl) rfl (by kernel_rfl) (by kernel_rfl) panic_any (by decide) (vo_fieldAddr rfl fo30_3) (fun w hw => trivial) ?_
        refine JR_split [9, 11] (by kernel_rfl) rfl (all2 ?_ ?_)
        · refine JK_do _ rfl rfl trivial (do_storeRow rfl rfl sz30 (by exact one_of_all rfl) (by show 0 + (i : Int).toNat * 41 + 41 ≤ (i + 1) * 41; simp only [Int.toNat_natCast]; omega) (by repeat (first | exact .head _ _ _ | apply Turn.tail))) (fun _ _ => trivial) ?_
          refine JR_split [11] (by kernel_rfl) rfl (all1 ?_)
          refine JK_do _ rfl rfl trivial (do_store (cs := (nodeC nm v m (.slice A9 i c9)).toArray) (cs' := (nodeC nm v m (.slice (some ⟨g, 0, none⟩) (i + 1) cap)).toArray) (te := 30) rfl rfl sz28 (by exact one_of_all rfl) (by repeat (first | exact .head _ _ _ | apply Turn.tail)) (by exact Nat.le_of_ble_eq_true rfl) (by rfl)) (fun _ _ => trivial) ?_
          refine JR_done (by kernel_rfl) ?_
          refine JX_block ?_
          refine JX_sub (L' := _ :: _ :: _) (.cons _ (List.Sublist.refl _)) ?_
          refine JX_round hlp1 hlp2 (ls ++ [(ndT n k, .slice Ak' (ndT n k).kids.length ck')], .slice (some ⟨g, 0, none⟩) (i + 1) cap) (hinv.push he3 hndk hrk _ _) ?_
          refine cons2 (row_eq (by simp [hlen]) ?_)
          have hl9 : laid (ls.flatMap nkC ++ (Value.cells (.agg (nodeC ⟨#[]⟩ zeroVal zeroMk nilS).toArray)).toList) (0 + (i : Int).toNat * 41) (nkC (ndT n k, .slice Ak' (ndT n k).kids.length ck')) = ls.flatMap nkC ++ nkC (ndT n k, .slice Ak' (ndT n k).kids.length ck') := laid_end (by rw [hfl, Int.toNat_natCast]; omega) (by rw [nkC_length]; rfl)
          rw [List.flatMap_append, List.flatMap_cons, List.flatMap_nil, List.append_nil]
          exact hl9
        · refine JK_do _ rfl rfl trivial (do_store (cs := (nodeC nm v m (.slice A9 i c9)).toArray) (cs' := (nodeC nm v m (.slice (some ⟨g, 0, none⟩) (i + 1) cap)).toArray) (te := 30) rfl rfl sz28 (by exact one_of_all rfl) (by repeat (first | exact .head _ _ _ | apply Turn.tail)) (by exact Nat.le_of_ble_eq_true rfl) (by rfl)) (fun _ _ => trivial) ?_
          refine JR_split [9] (by kernel_rfl) rfl (all1 ?_)
          refine JK_do _ rfl rfl trivial (do_storeRow rfl rfl sz30 (by exact one_of_all rfl) (by show 0 + (i : Int).toNat * 41 + 41 ≤ (i + 1) * 41; simp only [Int.toNat_natCast]; omega) (by repeat (first | exact .head _ _ _ | apply Turn.tail))) (fun _ _ => trivial) ?_
          refine JR_done (by kernel_rfl) ?_
          refine JX_block ?_
          refine JX_sub (L' := _ :: _ :: _) (.cons _ (List.Sublist.refl _)) ?_
          refine JX_round hlp1 hlp2 (ls ++ [(ndT n k, .slice Ak' (ndT n k).kids.length ck')], .slice (some ⟨g, 0, none⟩) (i + 1) cap) (hinv.push he3 hndk hrk _ _) ?_
          refine cons2 (row_eq (by simp [hlen]) ?_)
          have hl9 : laid (ls.flatMap nkC ++ (Value.cells (.agg (nodeC ⟨#[]⟩ zeroVal zeroMk nilS).toArray)).toList) (0 + (i : Int).toNat * 41) (nkC (ndT n k, .slice Ak' (ndT n k).kids.length ck')) = ls.flatMap nkC ++ nkC (ndT n k, .slice Ak' (ndT n k).kids.length ck') := laid_end (by rw [hfl, Int.toNat_natCast]; omega) (by rw [nkC_length]; rfl)
          rw [List.flatMap_append, List.flatMap_cons, List.flatMap_nil, List.append_nil]
          exact hl9
      · refine JK_op (β := Nat) (fun b => .slice (some ⟨b, 0, none⟩) 1 1) _ rfl rfl (by decide) trivial (do_bslice1 rfl Try.underlying28 (by first | exact zr30) sz30 (by exact Nat.le_of_ble_eq_true rfl) (by exact Nat.ne_of_gt (Nat.le_of_ble_eq_true rfl))) (fun b w hw => trivial) (fun b28 => ?_)
        refine JR_split [4] (by kernel_rfl) rfl (all1 ?_)
        refine JK_fcall rfl trivial rfl en95 (by decide) (grows_copy _) (fun w1 hw => hks k hmem pk n w1 ((((htt i k pk hki hpi).ext he1).ext he2).ext hw.ext_all) hck) (fun _ _ _ _ _ => trivial) ?_
        rintro _ Z2 wz2 he3 ⟨kk', rfl, hrk⟩
        obtain ⟨Ak', ck', rfl, hlk'⟩ := hrk.slice
        refine JR_split [7] (by kernel_rfl) rfl (all1 ?_)
        refine JK_op (β := Value) (fun v => v) _ rfl rfl (by decide) trivial (do_appendB rfl rfl Try.underlying28 ap30 (by rfl) (by decide) (by first | exact .frz ‹_› | exact .own (by repeat (first | exact .head _ | refine .tail _ ?_))) (by repeat (first | exact .head _ | apply TurnF.tail)) (by rfl) (by first | exact one_of_all rfl | assumption) (by omega) (by decide)) (fun v w hw => trivial) (fun v29 => ?_)
        refine JR_rowSome2 (v := v29) (e := 30) (sz := 41) (n := i + 1) (xs := ls.flatMap nkC ++ (Value.cells (.agg (nodeC ⟨#[]⟩ zeroVal zeroMk nilS).toArray)).toList) (by repeat (first | exact .head _ | apply List.Mem.tail)) (by omega) (fun g cap hv29 hgc hgm hxl => ?_)
        subst hv29
        have hfl : (ls.flatMap nkC).length = i * 41 := by rw [flat_length nkC_length, hlen]
        refine JR_v (i := 8) rfl (by kernel_rfl) (by kernel_rfl) rfl (by kernel_rfl) (by kernel_rfl) panic_any (by decide) (vo_indexAddr rfl rfl Try.underlying28 sz30 (by omega) (by omega)) (fun w hw => trivial) ?_
        refine JR_v (i := 10) rfl (by kernel_rfl) (by kernel_rfl) rfl (by kernel_rfl) (by kernel_rfl) panic_any (by decide) (vo_fieldAddr rfl fo30_3) (fun w hw => trivial) ?_
        refine JR_split [9, 11] (by kernel_rfl) rfl (all2 ?_ ?_)
        · refine JK_do _ rfl rfl trivial (do_storeRow rfl rfl sz30 (by exact one_of_all rfl) (by show 0 + (i : Int).toNat * 41 + 41 ≤ (i + 1) * 41; simp only [Int.toNat_natCast]; omega) (by repeat (first | exact .head _ _ _ | apply Turn.tail))) (fun _ _ => trivial) ?_
          refine JR_split [11] (by kernel_rfl) rfl (all1 ?_)
          refine JK_do _ rfl rfl trivial (do_store (cs := (nodeC nm v m (.slice A9 i c9)).toArray) (cs' := (nodeC nm v m (.slice (some ⟨g, 0, none⟩) (i + 1) cap)).toArray) (te := 30) rfl rfl sz28 (by exact one_of_all rfl) (by repeat (first | exact .head _ _ _ | apply Turn.tail)) (by exact Nat.le_of_ble_eq_true rfl) (by rfl)) (fun _ _ => trivial) ?_
          refine JR_done (by kernel_rfl) ?_
          refine JX_block ?_
          refine JX_sub (L' := _ :: _ :: _) (.cons _ (List.Sublist.refl _)) ?_
          refine JX_round hlp1 hlp2 (ls ++ [(ndT n k, .slice Ak' (ndT n k).kids.length ck')], .slice (some ⟨g, 0, none⟩) (i + 1) cap) (hinv.push he3 hndk hrk _ _) ?_
          refine cons2 (row_eq (by simp [hlen]) ?_)
          have hl9 : laid (ls.flatMap nkC ++ (Value.cells (.agg (nodeC ⟨#[]⟩ zeroVal zeroMk nilS).toArray)).toList) (0 + (i : Int).toNat * 41) (nkC (ndT n k, .slice Ak' (ndT n k).kids.length ck')) = ls.flatMap nkC ++ nkC (ndT n k, .slice Ak' (ndT n k).kids.length ck') := laid_end (by rw [hfl, Int.toNat_natCast]; omega) (by rw [nkC_length]; rfl)
          rw [List.flatMap_append, List.flatMap_cons, List.flatMap_nil, List.append_nil]
          exact hl9
        · refine JK_do _ rfl rfl trivial (do_store (cs := (nodeC nm v m (.slice A9 i c9)).toArray) (cs' := (nodeC nm v m (.slice (some ⟨g, 0, none⟩) (i + 1) cap)).toArray) (te := 30) rfl rfl sz28 (by exact one_of_all rfl) (by repeat (first | exact .head _ _ _ | apply Turn.tail)) (by exact Nat.le_of_ble_eq_true rfl) (by rfl)) (fun _ _ => trivial) ?_
          refine JR_split [9] (by kernel_rfl) rfl (all1 ?_)
          refine JK_do _ rfl rfl trivial (do_storeRow rfl rfl sz30 (by exact one_of_all rfl) (by show 0 + (i : Int).toNat * 41 + 41 ≤ (i + 1) * 41; simp only [Int.toNat_natCast]; omega) (by repeat (first | exact .head _ _ _ | apply Turn.tail))) (fun _ _ => trivial) ?_
          refine JR_done (by kernel_rfl) ?_
          refine JX_block ?_
          refine JX_sub (L' := _ :: _ :: _) (.cons _ (List.Sublist.refl _)) ?_
          refine JX_round hlp1 hlp2 (ls ++ [(ndT n k, .slice Ak' (ndT n k).kids.length ck')], .slice (some ⟨g, 0, none⟩) (i + 1) cap) (hinv.push he3 hndk hrk _ _) ?_
          refine cons2 (row_eq (by simp [hlen]) ?_)
          have hl9 : laid (ls.flatMap nkC ++ (Value.cells (.agg (nodeC ⟨#[]⟩ zeroVal zeroMk nilS).toArray)).toList) (0 + (i : Int).toNat * 41) (nkC (ndT n k, .slice Ak' (ndT n k).kids.length ck')) = ls.flatMap nkC ++ nkC (ndT n k, .slice Ak' (ndT n k).kids.length ck') := laid_end (by rw [hfl, Int.toNat_natCast]; omega) (by rw [nkC_length]; rfl)
          rw [List.flatMap_append, List.flatMap_cons, List.flatMap_nil, List.append_nil]
          exact hl9
    · refine JK_fcall rfl trivial rfl en95 (by decide) (grows_copy _) (fun w1 hw => hks k hmem pk n w1 ((((htt i k pk hki hpi).ext he1).ext he2).ext hw.ext_all) hck) (fun _ _ _ _ _ => trivial) ?_
      rintro _ Z2 wz2 he3 ⟨kk', rfl, hrk⟩
      obtain ⟨Ak', ck', rfl, hlk'⟩ := hrk.slice
      refine JR_split [1, 6] (by kernel_rfl) rfl (all2 ?_ ?_)
      · refine JK_val rfl (by decide) (vo_load rfl (by first | exact .frz ‹_› | exact .own (by repeat (first | exact .head _ | refine .tail _ ?_))) (.cell Try.underlying28 rfl rfl)) (fun _ _ => trivial) ?_
        refine JR_v (i := 5) rfl (by kernel_rfl) (by kernel_rfl) rfl (by kernel_rfl) (by kernel_rfl) panic_any (by decide) (vo_len rfl Try.underlying28) (fun w hw => trivial) ?_
        refine JR_split [6] (by kernel_rfl) rfl (all1 ?_)
        refine JK_op (β := Nat) (fun b => .slice (some ⟨b, 0, none⟩) 1 1) _ rfl rfl (by decide) trivial (do_bslice1 rfl Try.underlying28 (by first | exact zr30) sz30 (by exact Nat.le_of_ble_eq_true rfl) (by exact Nat.ne_of_gt (Nat.le_of_ble_eq_true rfl))) (fun b w hw => trivial) (fun b28 => ?_)
        refine JR_split [7] (by kernel_rfl) rfl (all1 ?_)
        refine JK_op (β := Value) (fun v => v) _ rfl rfl (by decide) trivial (do_appendB rfl rfl Try.underlying28 ap30 (by rfl) (by decide) (by first | exact .frz ‹_› | exact .own (by repeat (first | exact .head _ | refine .tail _ ?_))) (by repeat (first | exact .head _ | apply TurnF.tail)) (by rfl) (by first | exact one_of_all rfl | assumption) (by omega) (by decide)) (fun v w hw => trivial) (fun v29 => ?_)
        refine JR_rowSome2 (v := v29) (e := 30) (sz := 41) (n := i + 1) (xs := ls.flatMap nkC ++ (Value.cells (.agg (nodeC ⟨#[]⟩ zeroVal zeroMk nilS).toArray)).toList) (by repeat (first | exact .head _ | apply List.Mem.tail)) (by omega) (fun g cap hv29 hgc hgm hxl => ?_)
        subst hv29
        have hfl : (ls.flatMap nkC).length = i * 41 := by rw [flat_length nkC_length, hlen]
        refine JR_v (i := 8) rfl (by kernel_rfl) (by kernel_rfl) rfl (by kernel_rfl) (by kernel_rfl) panic_any (by decide) (vo_indexAddr rfl rfl Try.underlying28 sz30 (by omega) (by omega)) (fun w hw => trivial) ?_
        refine JR_v (i := 10) rfl (by kernel_rfl) (by kernel_rfl) rfl (by kernel_rfl) (by kernel_rfl) panic_any (by decide) (vo_fieldAddr rfl fo30_3) (fun w hw => trivial) ?_
        refine JR_split [9, 11] (by kernel_rfl) rfl (all2 ?_ ?_)
        · refine JK_do _ rfl rfl trivial (do_storeRow rfl rfl sz30 (by exact one_of_all rfl) (by show 0 + (i : Int).toNat * 41 + 41 ≤ (i + 1) * 41; simp only [Int.toNat_natCast]; omega) (by repeat (first | exact .head _ _ _ | apply Turn.tail))) (fun _ _ => trivial) ?_
          refine JR_split [11] (by kernel_rfl) rfl (all1 ?_)
          refine JK_do _ rfl rfl trivial (do_store (cs := (nodeC nm v m (.slice A9 i c9)).toArray) (cs' := (nodeC nm v m (.slice (some ⟨g, 0, none⟩) (i + 1) cap)).toArray) (te := 30) rfl rfl sz28 (by exact one_of_all rfl) (by repeat (first | exact .head _ _ _ | apply Turn.tail)) (by exact Nat.le_of_ble_eq_true rfl) (by rfl)) (fun _ _ => trivial) ?_
          refine JR_done (by kernel_rfl) ?_
          refine JX_block ?_
          refine JX_sub (L' := _ :: _ :: _) (.cons _ (List.Sublist.refl _)) ?_
          refine JX_round hlp1 hlp2 (ls ++ [(ndT n k, .slice Ak' (ndT n k).kids.length ck')], .slice (some ⟨g, 0, none⟩) (i + 1) cap) (hinv.push he3 hndk hrk _ _) ?_
          refine cons2 (row_eq (by simp [hlen]) ?_)
          have hl9 : laid (ls.flatMap nkC ++ (Value.cells (.agg (nodeC ⟨#[]⟩ zeroVal zeroMk nilS).toArray)).toList) (0 + (i : Int).toNat * 41) (nkC (ndT n k, .slice Ak' (ndT n k).kids.length ck')) = ls.flatMap nkC ++ nkC (ndT n k, .slice Ak' (ndT n k).kids.length ck') := laid_end (by rw [hfl, Int.toNat_natCast]; omega) (by rw [nkC_length]; rfl)
          rw [List.flatMap_append, List.flatMap_cons, List.flatMap_nil, List.append_nil]
          exact hl9
        · refine JK_do _ rfl rfl trivial (do_store (cs := (nodeC nm v m (.slice A9 i c9)).toArray) (cs' := (nodeC nm v m (.slice (some ⟨g, 0, none⟩) (i + 1) cap)).toArray) (te := 30) rfl rfl sz28 (by exact one_of_all rfl) (by repeat (first | exact .head _ _ _ | apply Turn.tail)) (by exact Nat.le_of_ble_eq_true rfl) (by rfl)) (fun _ _ => trivial) ?_
          refine JR_split [9] (by kernel_rfl) rfl (all1 ?_)
          refine JK_do _ rfl rfl trivial (do_storeRow rfl rfl sz30 (by exact one_of_all rfl) (by show 0 + (i : Int).toNat * 41 + 41 ≤ (i + 1) * 41; simp only [Int.toNat_natCast]; omega) (by repeat (first | exact .head _ _ _ | apply Turn.tail))) (fun _ _ => trivial) ?_
          refine JR_done (by kernel_rfl) ?_
          refine JX_block ?_
          refine JX_sub (L' := _ :: _ :: _) (.cons _ (List.Sublist.refl _)) ?_
          refine JX_round hlp1 hlp2 (ls ++ [(ndT n k, .slice Ak' (ndT n k).kids.length ck')], .slice (some ⟨g, 0, none⟩) (i + 1) cap) (hinv.push he3 hndk hrk _ _) ?_
          refine cons2 (row_eq (by simp [hlen]) ?_)
          have hl9 : laid (ls.flatMap nkC ++ (Value.cells (.agg (nodeC ⟨#[]⟩ zeroVal zeroMk nilS).toArray)).toList) (0 + (i : Int).toNat * 41) (nkC (ndT n k, .slice Ak' (ndT n k).kids.length ck')) = ls.flatMap nkC ++ nkC (ndT n k, .slice Ak' (ndT n k).kids.length ck') := laid_end (by rw [hfl, Int.toNat_natCast]; omega) (by rw [nkC_length]; rfl)
          rw [List.flatMap_append, List.flatMap_cons, List.flatMap_nil, List.append_nil]
          exact hl9
      · refine JK_op (β := Nat) (fun b => .slice (some ⟨b, 0, none⟩) 1 1) _ rfl rfl (by decide) trivial (do_bslice1 rfl Try.underlying28 (by first | exact zr30) sz30 (by exact Nat.le_of_ble_eq_true rfl) (by exact Nat.ne_of_gt (Nat.le_of_ble_eq_true rfl))) (fun b w hw => trivial) (fun b28 => ?_)
        refine JR_split [1] (by kernel_rfl) rfl (all1 ?_)
        refine JK_val rfl (by decide) (vo_load rfl (by first | exact .frz ‹_› | exact .own (by repeat (first | exact .head _ | refine .tail _ ?_))) (.cell Try.underlying28 rfl rfl)) (fun _ _ => trivial) ?_
        refine JR_v (i := 5) rfl (by kernel_rfl) (by kernel_rfl) rfl (by kernel_rfl) (by kernel_rfl) panic_any (by decide) (vo_len rfl Try.underlying28) (fun w hw => trivial) ?_
        refine JR_split [7] (by kernel_rfl) rfl (all1 ?_)
        refine JK_op (β := Value) (fun v => v) _ rfl rfl (by decide) trivial (do_appendB rfl rfl Try.underlying28 ap30 (by rfl) (by decide) (by first | exact .frz ‹_› | exact .own (by repeat (first | exact .head _ | refine .tail _ ?_))) (by repeat (first | exact .head _ | apply TurnF.tail)) (by rfl) (by first | exact one_of_all rfl | assumption) (by omega) (by decide)) (fun v w hw => trivial) (fun v29 => ?_)
        refine JR_rowSome2 (v := v29) (e := 30) (sz := 41) (n := i + 1) (xs := ls.flatMap nkC ++ (Value.cells (.agg (nodeC ⟨#[]⟩ zeroVal zeroMk nilS).toArray)).toList) (by repeat (first | exact .head _ | apply List.Mem.tail)) (by omega) (fun g cap hv29 hgc hgm hxl => ?_)
        subst hv29
        have hfl : (ls.flatMap nkC).length = i * 41 := by rw [flat_length nkC_length, hlen]
        refine JR_v (i := 8) rfl (by kernel_rfl) (by kernel_rfl) rfl (by kernel_rfl) (by kernel_rfl) panic_any (by decide) (vo_indexAddr rfl rfl Try.underlying28 sz30 (by omega) (by omega)) (fun w hw => trivial) ?_
        refine JR_v (i := 10) rfl (by kernel_rfl) (by kernel_rfl) rfl (by kernel_rfl) (by kernel_rfl) panic_any (by decide) (vo_fieldAddr rfl fo30_3) (fun w hw => trivial) ?_
        refine JR_split [9, 11] (by kernel_rfl) rfl (all2 ?_ ?_)
        · refine JK_do _ rfl rfl trivial (do_storeRow rfl rfl sz30 (by exact one_of_all rfl) (by show 0 + (i : Int).toNat * 41 + 41 ≤ (i + 1) * 41; simp only [Int.toNat_natCast]; omega) (by repeat (first | exact .head _ _ _ | apply Turn.tail))) (fun _ _ => trivial) ?_
          refine JR_split [11] (by kernel_rfl) rfl (all1 ?_)
          refine JK_do _ rfl rfl trivial (do_store (cs := (nodeC nm v m (.slice A9 i c9)).toArray) (cs' := (nodeC nm v m (.slice (some ⟨g, 0, none⟩) (i + 1) cap)).toArray) (te := 30) rfl rfl sz28 (by exact one_of_all rfl) (by repeat (first | exact .head _ _ _ | apply Turn.tail)) (by exact Nat.le_of_ble_eq_true rfl) (by rfl)) (fun _ _ => trivial) ?_
          refine JR_done (by kernel_rfl) ?_
          refine JX_block ?_
          refine JX_sub (L' := _ :: _ :: _) (.cons _ (List.Sublist.refl _)) ?_
          refine JX_round hlp1 hlp2 (ls ++ [(ndT n k, .slice Ak' (ndT n k).kids.length ck')], .slice (some ⟨g, 0, none⟩) (i + 1) cap) (hinv.push he3 hndk hrk _ _) ?_
          refine cons2 (row_eq (by simp [hlen]) ?_)
          have hl9 : laid (ls.flatMap nkC ++ (Value.cells (.agg (nodeC ⟨#[]⟩ zeroVal zeroMk nilS).toArray)).toList) (0 + (i : Int).toNat * 41) (nkC (ndT n k, .slice Ak' (ndT n k).kids.length ck')) = ls.flatMap nkC ++ nkC (ndT n k, .slice Ak' (ndT n k).kids.length ck') := laid_end (by rw [hfl, Int.toNat_natCast]; omega) (by rw [nkC_length]; rfl)
          rw [List.flatMap_append, List.flatMap_cons, List.flatMap_nil, List.append_nil]
          exact hl9
        · refine JK_do _ rfl rfl trivial (do_store (cs := (nodeC nm v m (.slice A9 i c9)).toArray) (cs' := (nodeC nm v m (.slice (some ⟨g, 0, none⟩) (i + 1) cap)).toArray) (te := 30) rfl rfl sz28 (by exact one_of_all rfl) (by repeat (first | exact .head _ _ _ | apply Turn.tail)) (by exact Nat.le_of_ble_eq_true rfl) (by rfl)) (fun _ _ => trivial) ?_
          refine JR_split [9] (by kernel_rfl) rfl (all1 ?_)
          refine JK_do _ rfl rfl trivial (do_storeRow rfl rfl sz30 (by exact one_of_all rfl) (by show 0 + (i : Int).toNat * 41 + 41 ≤ (i + 1) * 41; simp only [Int.toNat_natCast]; omega) (by repeat (first | exact .head _ _ _ | apply Turn.tail))) (fun _ _ => trivial) ?_
          refine JR_done (by kernel_rfl) ?_
          refine JX_block ?_
          refine JX_sub (L' := _ :: _ :: _) (.cons _ (List.Sublist.refl _)) ?_
          refine JX_round hlp1 hlp2 (ls ++ [(ndT n k, .slice Ak' (ndT n k).kids.length ck')], .slice (some ⟨g, 0, none⟩) (i + 1) cap) (hinv.push he3 hndk hrk _ _) ?_
          refine cons2 (row_eq (by simp [hlen]) ?_)
          have hl9 : laid (ls.flatMap nkC ++ (Value.cells (.agg (nodeC ⟨#[]⟩ zeroVal zeroMk nilS).toArray)).toList) (0 + (i : Int).toNat * 41) (nkC (ndT n k, .slice Ak' (ndT n k).kids.length ck')) = ls.flatMap nkC ++ nkC (ndT n k, .slice Ak' (ndT n k).kids.length ck') := laid_end (by rw [hfl, Int.toNat_natCast]; omega) (by rw [nkC_length]; rfl)
          rw [List.flatMap_append, List.flatMap_cons, List.flatMap_nil, List.append_nil]
          exact hl9
    · refine JK_op (β := Nat) (fun b => .slice (some ⟨b, 0, none⟩) 1 1) _ rfl rfl (by decide) trivial (do_bslice1 rfl Try.underlying28 (by first | exact zr30) sz30 (by exact Nat.le_of_ble_eq_true rfl) (by exact Nat.ne_of_gt (Nat.le_of_ble_eq_true rfl))) (fun b w hw => trivial) (fun b28 => ?_)
      refine JR_split [1, 4] (by kernel_rfl) rfl (all2 ?_ ?_)
      · refine JK_val rfl (by decide) (vo_load rfl (by first | exact .frz ‹_› | exact .own (by repeat (first | exact .head _ | refine .tail _ ?_))) (.cell Try.underlying28 rfl rfl)) (fun _ _ => trivial) ?_
        refine JR_v (i := 5) rfl (by kernel_rfl) (by kernel_rfl) rfl (by kernel_rfl) (by kernel_rfl) panic_any (by decide) (vo_len rfl Try.underlying28) (fun w hw => trivial) ?_
        refine JR_split [4] (by kernel_rfl) rfl (all1 ?_)
        refine JK_fcall rfl trivial rfl en95 (by decide) (grows_copy _) (fun w1 hw => hks k hmem pk n w1 ((((htt i k pk hki hpi).ext he1).ext he2).ext hw.ext_all) hck) (fun _ _ _ _ _ => trivial) ?_
        rintro _ Z2 wz2 he3 ⟨kk', rfl, hrk⟩
        obtain ⟨Ak', ck', rfl, hlk'⟩ := hrk.slice
        refine JR_split [7] (by kernel_rfl) rfl (all1 ?_)
        refine JK_op (β := Value) (fun v => v) _ rfl rfl (by decide) trivial (do_appendB rfl rfl Try.underlying28 ap30 (by rfl) (by decide) (by first | exact .frz ‹_› | exact .own (by repeat (first | exact .head _ | refine .tail _ ?_))) (by repeat (first | exact .head _ | apply TurnF.tail)) (by rfl) (by first | exact one_of_all rfl | assumption) (by omega) (by decide)) (fun v w hw => trivial) (fun v29 => ?_)
        refine JR_rowSome2 (v := v29) (e := 30) (sz := 41) (n := i + 1) (xs := ls.flatMap nkC ++ (Value.cells (.agg (nodeC ⟨#[]⟩ zeroVal zeroMk nilS).toArray)).toList) (by repeat (first | exact .head _ | apply List.Mem.tail)) (by omega) (fun g cap hv29 hgc hgm hxl => ?_)
        subst hv29
        have hfl : (ls.flatMap nkC).length = i * 41 := by rw [flat_length nkC_length, hlen]
        refine JR_v (i := 8) rfl (by kernel_rfl) (by kernel_rfl) rfl (by kernel_rfl) (by kernel_rfl) panic_any (by decide) (vo_indexAddr rfl rfl Try.underlying28 sz30 (by omega) (by omega)) (fun w hw => trivial) ?_
        refine JR_v (i := 10) rfl (by kernel_rfl) (by kernel_rfl) rfl (by kernel_rfl) (by kernel_rfl) panic_any (by decide) (vo_fieldAddr rfl fo30_3) (fun w hw => trivial) ?_
        refine JR_split [9, 11] (by kernel_rfl) rfl (all2 ?_ ?_)
        · refine JK_do _ rfl rfl trivial (do_storeRow rfl rfl sz30 (by exact one_of_all rfl) (by show 0 + (i : Int).toNat * 41 + 41 ≤ (i + 1) * 41; simp only [Int.toNat_natCast]; omega) (by repeat (first | exact .head _ _ _ | apply Turn.tail))) (fun _ _ => trivial) ?_
          refine JR_split [11] (by kernel_rfl) rfl (all1 ?_)
          refine JK_do _ rfl rfl trivial (do_store (cs := (nodeC nm v m (.slice A9 i c9)).toArray) (cs' := (nodeC nm v m (.slice (some ⟨g, 0, none⟩) (i + 1) cap)).toArray) (te := 30) rfl rfl sz28 (by exact one_of_all rfl) (by repeat (first | exact .head _ _ _ | apply Turn.tail)) (by exact Nat.le_of_ble_eq_true rfl) (by rfl)) (fun _ _ => trivial) ?_
          refine JR_done (by kernel_rfl) ?_
          refine JX_block ?_
          refine JX_sub (L' := _ :: _ :: _) (.cons _ (List.Sublist.refl _)) ?_
          refine JX_round hlp1 hlp2 (ls ++ [(ndT n k, .slice Ak' (ndT n k).kids.length ck')], .slice (some ⟨g, 0, none⟩) (i + 1) cap) (hinv.push he3 hndk hrk _ _) ?_
          refine cons2 (row_eq (by simp [hlen]) ?_)
          have hl9 : laid (ls.flatMap nkC ++ (Value.cells (.agg (nodeC ⟨#[]⟩ zeroVal zeroMk nilS).toArray)).toList) (0 + (i : Int).toNat * 41) (nkC (ndT n k, .slice Ak' (ndT n k).kids.length ck')) = ls.flatMap nkC ++ nkC (ndT n k, .slice Ak' (ndT n k).kids.length ck') := laid_end (by rw [hfl, Int.toNat_natCast]; omega) (by rw [nkC_length]; rfl)
          rw [List.flatMap_append, List.flatMap_cons, List.flatMap_nil, List.append_nil]
          exact hl9
        · refine JK_do _ rfl rfl trivial (do_store (cs := (nodeC nm v m (.slice A9 i c9)).toArray) (cs' := (nodeC nm v m (.slice (some ⟨g, 0, none⟩) (i + 1) cap)).toArray) (te := 30) rfl rfl sz28 (by exact one_of_all rfl) (by repeat (first | exact .head _ _ _ | apply Turn.tail)) (by exact Nat.le_of_ble_eq_true rfl) (by rfl)) (fun _ _ => trivial) ?_
          refine JR_split [9] (by kernel_rfl) rfl (all1 ?_)
          refine JK_do _ rfl rfl trivial (do_storeRow rfl rfl sz30 (by exact one_of_all rfl) (by show 0 + (i : Int).toNat * 41 + 41 ≤ (i + 1) * 41; simp only [Int.toNat_natCast]; omega) (by repeat (first | exact .head _ _ _ | apply Turn.tail))) (fun _ _ => trivial) ?_
          refine JR_done (by kernel_rfl) ?_
          refine JX_block ?_
          refine JX_sub (L' := _ :: _ :: _) (.cons _ (List.Sublist.refl _)) ?_
          refine JX_round hlp1 hlp2 (ls ++ [(ndT n k, .slice Ak' (ndT n k).kids.length ck')], .slice (some ⟨g, 0, none⟩) (i + 1) cap) (hinv.push he3 hndk hrk _ _) ?_
          refine cons2 (row_eq (by simp [hlen]) ?_)
          have hl9 : laid (ls.flatMap nkC ++ (Value.cells (.agg (nodeC ⟨#[]⟩ zeroVal zeroMk nilS).toArray)).toList) (0 + (i : Int).toNat * 41) (nkC (ndT n k, .slice Ak' (ndT n k).kids.length ck')) = ls.flatMap nkC ++ nkC (ndT n k, .slice Ak' (ndT n k).kids.length ck') := laid_end (by rw [hfl, Int.toNat_natCast]; omega) (by rw [nkC_length]; rfl)
          rw [List.flatMap_append, List.flatMap_cons, List.flatMap_nil, List.append_nil]
          exact hl9
      · refine JK_fcall rfl trivial rfl en95 (by decide) (grows_copy _) (fun w1 hw => hks k hmem pk n w1 ((((htt i k pk hki hpi).ext he1).ext he2).ext hw.ext_all) hck) (fun _ _ _ _ _ => trivial) ?_
        rintro _ Z2 wz2 he3 ⟨kk', rfl, hrk⟩
        obtain ⟨Ak', ck', rfl, hlk'⟩ := hrk.slice
        refine JR_split [1] (by kernel_rfl) rfl (all1 ?_)
        refine JK_val rfl (by decide) (vo_load rfl (by first | exact .frz ‹_› | exact .own (by repeat (first | exact .head _ | refine .tail _ ?_))) (.cell Try.underlying28 rfl rfl)) (fun _ _ => trivial) ?_
        refine JR_v (i := 5) rfl (by kernel_rfl) (by kernel_rfl) rfl (by kernel_rfl) (by kernel_rfl) panic_any (by decide) (vo_len rfl Try.underlying28) (fun w hw => trivial) ?_
        refine JR_split [7] (by kernel_rfl) rfl (all1 ?_)
        refine JK_op (β := Value) (fun v => v) _ rfl rfl (by decide) trivial (do_appendB rfl rfl Try.underlying28 ap30 (by rfl) (by decide) (by first | exact .frz ‹_› | exact .own (by repeat (first | exact .head _ | refine .tail _ ?_))) (by repeat (first | exact .head _ | apply TurnF.tail)) (by rfl) (by first | exact one_of_all rfl | assumption) (by omega) (by decide)) (fun v w hw => trivial) (fun v29 => ?_)
        refine JR_rowSome2 (v := v29) (e := 30) (sz := 41) (n := i + 1) (xs := ls.flatMap nkC ++ (Value.cells (.agg (nodeC ⟨#[]⟩ zeroVal zeroMk nilS).toArray)).toList) (by repeat (first | exact .head _ | apply List.Mem.tail)) (by omega) (fun g cap hv29 hgc hgm hxl => ?_)
        subst hv29
        have hfl : (ls.flatMap nkC).length = i * 41 := by rw [flat_length nkC_length, hlen]
        refine JR_v (i := 8) rfl (by kernel_rfl) (by kernel_rfl) rfl (by kernel_rfl) (by kernel_rfl) panic_any (by decide) (vo_indexAddr rfl rfl Try.underlying28 sz30 (by omega) (by omega)) (fun w hw => trivial) ?_
        refine JR_v (i := 10) rfl (by kernel_rfl) (by kernel_rfl) rfl (by kernel_rfl) (by kernel_rfl) panic_any (by decide) (vo_fieldAddr rfl fo30_3) (fun w hw => trivial) ?_
        refine JR_split [9, 11] (by kernel_rfl) rfl (all2 ?_ ?_)
        · refine JK_do _ rfl rfl trivial (do_storeRow rfl rfl sz30 (by exact one_of_all rfl) (by show 0 + (i : Int).toNat * 41 + 41 ≤ (i + 1) * 41; simp only [Int.toNat_natCast]; omega) (by repeat (first | exact .head _ _ _ | apply Turn.tail))) (fun _ _ => trivial) ?_
          refine JR_split [11] (by kernel_rfl) rfl (all1 ?_)
          refine JK_do _ rfl rfl trivial (do_store (cs := (nodeC nm v m (.slice A9 i c9)).toArray) (cs' := (nodeC nm v m (.slice (some ⟨g, 0, none⟩) (i + 1) cap)).toArray) (te := 30) rfl rfl sz28 (by exact one_of_all rfl) (by repeat (first | exact .head _ _ _ | apply Turn.tail)) (by exact Nat.le_of_ble_eq_true rfl) (by rfl)) (fun _ _ => trivial) ?_
          refine JR_done (by kernel_rfl) ?_
          refine JX_block ?_
          refine JX_sub (L' := _ :: _ :: _) (.cons _ (List.Sublist.refl _)) ?_
          refine JX_round hlp1 hlp2 (ls ++ [(ndT n k, .slice Ak' (ndT n k).kids.length ck')], .slice (some ⟨g, 0, none⟩) (i + 1) cap) (hinv.push he3 hndk hrk _ _) ?_
          refine cons2 (row_eq (by simp [hlen]) ?_)
          have hl9 : laid (ls.flatMap nkC ++ (Value.cells (.agg (nodeC ⟨#[]⟩ zeroVal zeroMk nilS).toArray)).toList) (0 + (i : Int).toNat * 41) (nkC (ndT n k, .slice Ak' (ndT n k).kids.length ck')) = ls.flatMap nkC ++ nkC (ndT n k, .slice Ak' (ndT n k).kids.length ck') := laid_end (by rw [hfl, Int.toNat_natCast]; omega) (by rw [nkC_length]; rfl)
          rw [List.flatMap_append, List.flatMap_cons, List.flatMap_nil, List.append_nil]
          exact hl9
        · refine JK_do _ rfl rfl trivial (do_store (cs := (nodeC nm v m (.slice A9 i c9)).toArray) (cs' := (nodeC nm v m (.slice (some ⟨g, 0, none⟩) (i + 1) cap)).toArray) (te := 30) rfl rfl sz28 (by exact one_of_all rfl) (by repeat (first | exact .head _ _ _ | apply Turn.tail)) (by exact Nat.le_of_ble_eq_true rfl) (by rfl)) (fun _ _ => trivial) ?_
          refine JR_split [9] (by kernel_rfl) rfl (all1 ?_)
          refine JK_do _ rfl rfl trivial (do_storeRow rfl rfl sz30 (by exact one_of_all rfl) (by show 0 + (i : Int).toNat * 41 + 41 ≤ (i + 1) * 41; simp only [Int.toNat_natCast]; omega) (by repeat (first | exact .head _ _ _ | apply Turn.tail))) (fun _ _ => trivial) ?_
          refine JR_done (by kernel_rfl) ?_
          refine JX_block ?_
          refine JX_sub (L' := _ :: _ :: _) (.cons _ (List.Sublist.refl _)) ?_
          refine JX_round hlp1 hlp2 (ls ++ [(ndT n k, .slice Ak' (ndT n k).kids.length ck')], .slice (some ⟨g, 0, none⟩) (i + 1) cap) (hinv.push he3 hndk hrk _ _) ?_
          refine cons2 (row_eq (by simp [hlen]) ?_)
          have hl9 : laid (ls.flatMap nkC ++ (Value.cells (.agg (nodeC ⟨#[]⟩ zeroVal zeroMk nilS).toArray)).toList) (0 + (i : Int).toNat * 41) (nkC (ndT n k, .slice Ak' (ndT n k).kids.length ck')) = ls.flatMap nkC ++ nkC (ndT n k, .slice Ak' (ndT n k).kids.length ck') := laid_end (by rw [hfl, Int.toNat_natCast]; omega) (by rw [nkC_length]; rfl)
          rw [List.flatMap_append, List.flatMap_cons, List.flatMap_nil, List.append_nil]
          exact hl9
  · rintro D Z' wz' ⟨ls, vf⟩ hinv
    obtain ⟨he2, hls, hlen, hk9, A9, c9, hv9⟩ := hinv
    dsimp only at hls hlen hk9 hv9
    subst hv9
    unfold NodeS
    dsimp only
    rw [hlen]
    refine JX_block ?_
    refine JX_then ?_
    refine JC_seq ?_
    refine JC_region ?_
    have hls' : ls.map (·.1) = ndsT ns ks := by rw [hls, List.take_of_length_le]; rw [ndsT_length ns ks hnk]; omega
    have hkl : (ndsT ns ks).length = ks.length := ndsT_length ns ks hnk
    refine JL_freezeItemsN' nkC_length hlen (.tail _ (.head _ _)) (fun Z3 wz3 e3 hit => ?_)
    have hrn := RNds_items hit hls' (fun p hp => (hk9 p hp).ext (e3.nz _))
    refine JL_v (vo_load rfl (by first | exact .frz ‹_› | exact .own (by repeat (first | exact .head _ | refine .tail _ ?_))) (by first | exact PartAt.whole Try.underlying30 rfl sz30 | exact pn_all ‹_› | exact pn_val (node_self _ _ _ _) | exact pn_marks (node_self _ _ _ _) | exact pn_name ‹_›)) nofun (by decide) ?_
    refine st_store (cs := (nodeC ⟨#[]⟩ zeroVal zeroMk nilS).toArray) (cs' := (nodeC nm v m (.slice A9 ks.length c9)).toArray) (te := 30) rfl rfl sz30 (by exact one_of_all rfl) (by repeat (first | exact .head _ _ _ | apply Turn.tail)) (by exact Nat.le_of_ble_eq_true rfl) (setSeg_whole rfl) ?_
    refine JL_nil ?_
    refine JX_then ?_
    refine JC_ret ?_
    refine JX_retM1 ?_
    refine retL1 rfl (.cell rfl (by first | exact .frz ‹_› | exact .own (by repeat (first | exact .head _ | refine .tail _ ?_))) (by first | exact PartAt.whole Try.underlying30 rfl sz30 | exact pn_all ‹_› | exact pn_val (node_self _ _ _ _) | exact pn_marks (node_self _ _ _ _) | exact pn_name ‹_›) (.nil)) ?_
    intro w1 hM
    exact ⟨_, rfl, hM.below, .slice A9 ks.length c9, (by simp only [ndT, ndC, Nd.name, Nd.val, Nd.marks]), (by simp only [ndT, Nd.kids]; exact hrn.ext hM.extNew)⟩
theorem nodeT_spec : ∀ T : Tr, ∀ (b : Nat) (nm : ByteArray) (w : World), RTree (fun b => b < w.heap.size) w T b → T.count ≤ 1000000000 → FCalls Try.prog 95 #[ptrV b, .string nm] w (copyR (ndT nm T)) := by
  refine Tr.ind fun v m ns ks ih => ?_
  exact nodeT_of v m ns ks ih


end Go.Eng

set_option linter.unusedVariables false
set_option linter.unusedSimpArgs false
namespace Go.Eng
open Go Go.RowKit Go.Proofs
theorem Sp.inter {Z Z' : Nat → Prop} {w w' : World} (he : Ext Z w Z' w') : ∀ {h : Nat} {E : Nat → Prop} {v : Value}, (∀ b, E b → Z b) → Sp w h E v → Sp w' h (fun b => E b ∧ Z' b) v
  | 0, E, v, _, hs => hs
  | h + 1, E, v, hE, ⟨A, n, c, e, h1⟩ => ⟨A, n, c, e, h1.imp id fun ⟨g, cs, h2, hn, h3, h4, h5, h6⟩ =>
      have hf := he.fb g _ ⟨hE g h3, h4⟩
      ⟨g, cs, h2, hn, ⟨h3, hf.z⟩, hf.at_, h5, fun i hi =>
        let ⟨k, E', h7, h8, h9⟩ := h6 i hi
        ⟨k, fun b => E' b ∧ Z' b, h7, fun b hb => ⟨⟨(h8 b hb.1).1, hb.2⟩, (h8 b hb.1).2⟩, h9.inter he fun b hb => hE b (h8 b hb).1⟩⟩⟩
theorem RNds_spoiled {Z : Nat → Prop} {w : World} {g n c : Nat} {cs : Array Value} (hl : n ≤ c) (hc : c ≤ 9223372036854775807) (hb : FB Z w g (.cells cs 30 (0, 0))) (hs : ∀ i, i < n → SegAt cs (i * 41) spoilC) :
    RNds Z w (List.replicate n spoilNd) (.slice (some ⟨g, 0, none⟩) n c) := by
  have := RNds_of (l := List.replicate n spoilNd) (c := c) (by simpa using hl) hc hb (fun i nd hi => by
    obtain ⟨h1, h2⟩ := List.getElem?_replicate.symm.trans hi |> fun h => by
      by_cases hin : i < n
      · rw [if_pos hin] at h; exact And.intro hin (Option.some.inj h)
      · rw [if_neg hin] at h; cases h
    subst h2
    exact ⟨nilS, .nil none 0, hs i h1⟩)
  simpa using this
section
variable {r : Option Nat} {N : Nat} {ds : List Deferred} {ops : Array Oper} {Q : Post} {t : Fm} {rest : List Oper}
variable {w0 : World} {E Z0 Z : Nat → Prop} {wz : World} {L : List Res}
variable {ty : TypeId} {pos : String} {aft : Array Edge} {d : Nat}
theorem st_spoil {l : List Operand} {ats : Array TypeId} {A : Option Addr} {c h : Nat} {lx : List Nd} {Ex F Zx : Nat → Prop} {wx : World} (hl : evOps t l = some [.slice A lx.length c]) (he : Enters Try.prog 17) (hd : d < N)
    (hs : Sp wz h Ex (.slice A lx.length c)) (hEZ : ∀ b, Ex b → Z b ∧ w0.heap.size ≤ b) (hEF : ∀ b, Ex b → F b) (hR : RNds Zx wx lx (.slice A lx.length c))
    (hn : ∀ wz', Ext (Minus Z F) wz (Minus Z F) wz' → RNds Z wz' (List.replicate lx.length spoilNd) (.slice A lx.length c) → JL Try.prog r N ds ops Q rest ((d, .tuple #[]) :: t) (Mem w0 E Z0 Z wz' L)) :
    JL Try.prog r N ds ops Q (⟨some d, .call { callee := .value (.func 17), args := l.toArray, argTypes := ats }, ty, pos, aft, none⟩ :: rest) t (Mem w0 E Z0 Z wz L) :=
  st_call (β := { x : World // Ext (Minus Z F) wz (Minus Z F) x ∧ RNds Z x (List.replicate lx.length spoilNd) (.slice A lx.length c) }) (fun _ => .tuple #[]) (fun x => Mem w0 E Z0 Z x.1 L) hl he hd
    (fun w hw => Calls.mono (spoil_spec h Ex (.slice A lx.length c) w (hs.keep fun b o hb ho => hw.frz b o (hEZ b hb).1 ho)) fun e w' ⟨h1, h2, _, h4⟩ => by
      refine ⟨⟨w', hw.ext_spoil (h2.more hEF), ?_⟩, h1, hw.spoil hEZ h2⟩
      generalize hv : Value.slice A lx.length c = v at hR
      cases hR with
      | nil A' c' => cases hv; exact .nil _ _
      | @mk _ b o c' cs te fr kv h5 h6 hb hsg hk =>
        cases hv
        by_cases hz : lx.length = 0
        · rw [hz]; exact .nil _ _
        · have hs' : ∃ g, (some ⟨b, o, none⟩ : Option Addr) = some ⟨g, 0, none⟩ := by
            cases h with
            | zero => obtain ⟨A', c', h7⟩ := hs; have := (Value.slice.inj h7).2.1; omega
            | succ h =>
              obtain ⟨A', n', c', h7, h8⟩ := hs
              cases h7
              obtain ⟨g, cs, h9, _⟩ := h8.resolve_left hz
              exact ⟨g, h9⟩
          obtain ⟨g, hg⟩ := hs'
          cases hg
          obtain ⟨h7, cs', h8, h9⟩ := h4 _ _ _ rfl (by omega)
          exact RNds_spoiled h5 h6 ⟨(hEZ _ h7).1, h8⟩ h9)
    (fun x => hn x.1 x.2.1 x.2.2)
end
end Go.Eng

set_option linter.unusedVariables false
set_option linter.unusedSimpArgs false
namespace Go.Eng
open Go Go.RowKit Go.Proofs
theorem en15 : Enters Try.prog 15 := ⟨_, Try.func15, by kernel_rfl, by kernel_rfl⟩
theorem en46 : Enters Try.prog 46 := ⟨_, Try.func46, by kernel_rfl, by kernel_rfl⟩
theorem en64 : Enters Try.prog 64 := ⟨_, Try.func64, by kernel_rfl, by kernel_rfl⟩

set_option maxRecDepth 8000 in
set_option maxHeartbeats 1000000 in
theorem node0_spec (T : Tr) (b : Nat) (w : World) (hT : RTree (fun b => b < w.heap.size) w T b) (hc : T.count ≤ 1000000000) : FCalls Try.prog 46 #[ptrV b] w (copyR (ndT ⟨#[]⟩ T)) := by
  refine enter (N := 5) Try.func46 rfl Try.ntmps46 (Nat.le_of_ble_eq_true rfl) [(0, ptrV b)] (by repeat (first | exact trivial | refine ⟨rfl, ?_⟩)) (Mem.start w (fun _ => False) (fun b => b < w.heap.size) (fun _ h => h)) ?_
  refine JC_seq ?_
  refine JC_region ?_
  refine st_alloc zr30 (by decide) (fun b2 => ?_)
  refine JL_nil ?_
  refine JX_then ?_
  refine JC_seq ?_
  refine JC_region ?_
  refine JL_v (vo_move rfl) nofun (by decide) ?_
  refine st_fcall rfl en95 (by decide) (grows_copy _) (fun w hw => nodeT_spec T b _ w (hT.ext hw.ext_all) hc) (fun v9 Z' wz' he hR => ?_)
  obtain ⟨k, rfl, hrk⟩ := hR
  obtain ⟨Ak', ck', hk9, hlk'⟩ := hrk.slice
  subst hk9
  refine st_store (cs := (nodeC ⟨#[]⟩ zeroVal zeroMk nilS).toArray) (cs' := (ndC (ndT ⟨#[]⟩ T) (.slice Ak' (ndT ⟨#[]⟩ T).kids.length ck')).toArray) (te := 30) rfl rfl sz30 (by exact one_of_all rfl) (by repeat (first | exact .head _ _ _ | apply Turn.tail)) (by exact Nat.le_of_ble_eq_true rfl) (setSeg_whole rfl) ?_
  refine JL_nil ?_
  refine JX_then ?_
  refine JC_ret ?_
  refine retL1 rfl (.cell rfl (by first | exact .frz ‹_› | exact .own (by repeat (first | exact .head _ | refine .tail _ ?_))) (by first | exact PartAt.whole Try.underlying30 rfl sz30 | exact pn_all ‹_› | exact pn_val (node_self _ _ _ _) | exact pn_marks (node_self _ _ _ _) | exact pn_name ‹_›) (.nil)) ?_
  intro w1 hM
  exact ⟨_, rfl, hM.below, _, rfl, hrk.ext hM.extNew⟩
set_option maxRecDepth 8000 in
set_option maxHeartbeats 1000000 in
theorem alike_spec (nd : Nd) (hok : NdOK nd) (hc : (trOf nd).count ≤ 1000000000) (b : Nat) (k : Value) (w : World) (hT : RTree (fun b => b < w.heap.size) w (trOf nd) b) (hr : RNds (fun b => b < w.heap.size) w nd.kids k) : SCalls Try.prog 14 #[ptrV b, .agg (ndC nd k).toArray] w (fun u => u = .bool true) := by
  obtain ⟨A, c, rfl, hlen2⟩ := hr.slice
  refine enter (N := 14) Try.func14 rfl Try.ntmps14 (Nat.le_of_ble_eq_true rfl) [(0, ptrV b), (1, .agg (ndC nd (.slice A nd.kids.length c)).toArray)] (by repeat (first | exact trivial | refine ⟨rfl, ?_⟩)) (Mem.start w (fun _ => False) (fun b => b < w.heap.size) (fun _ h => h)) ?_
  refine JC_seq ?_
  refine JC_region ?_
  refine st_box rfl (by decide) (fun b3 => ?_)
  refine JL_v (vo_assign rfl) nofun (by decide) ?_
  refine JL_nil ?_
  refine JX_then ?_
  refine JC_seq ?_
  refine JC_draw (F := fun w1 => w1.heap[b3]? = some (.cells (ndC nd (.slice A nd.kids.length c)).toArray 30 (0, 0))) 10 (by kernel_rfl) (fun w hw => Mem.drew hw) ?_
  refine JR_v (i := 0) rfl (by kernel_rfl) (by kernel_rfl) rfl (by kernel_rfl) (by kernel_rfl) panic_any (by decide) (vo_move rfl) (fun w hw => hw.hblk (.head _)) ?_
  refine JR_v (i := 1) rfl (by kernel_rfl) (by kernel_rfl) rfl (by kernel_rfl) (by kernel_rfl) panic_any (by decide) (vo_eqNil rfl rfl Try.underlying55 rfl) (fun w hw => hw.hblk (.head _)) ?_
  refine JR_v (i := 2) rfl (by kernel_rfl) (by kernel_rfl) rfl (by kernel_rfl) (by kernel_rfl) panic_any (by decide) (vo_move rfl) (fun w hw => hw.hblk (.head _)) ?_
  refine JR_case 7 rfl (fun hg7 => ?_) (fun hg7 => absurd hg7 (by simp))
  refine JR_vy (i := 3) rfl rfl rfl (by kernel_rfl) (by kernel_rfl) rfl (by kernel_rfl) (by kernel_rfl) panic_any (by decide) (vo_move rfl) (fun w hw => hw.hblk (.head _)) ?_
  refine JR_vy (i := 5) rfl rfl rfl (by kernel_rfl) (by kernel_rfl) rfl (by kernel_rfl) (by kernel_rfl) panic_any (by decide) (vo_loadH rfl (fun w1 hw => hw) (PartAt.whole Try.underlying30 rfl sz30)) (fun w hw => hw.hblk (.head _)) ?_
  refine JR_split [4] (by kernel_rfl) rfl (all1 ?_)
  refine JK_fcall rfl ⟨7, rfl, rfl⟩ rfl en46 (by decide) (grows_copy _) (fun w1 hw => node0_spec (trOf nd) b w1 (by first | exact (hT.ext hw.ext_all) | exact ((hT.ext heb).ext hw.ext_all)) hc) (fun _ _ w1 _ hw => hw.hblk (.head _)) ?_
  rintro _ Za wza hea ⟨ka, rfl, hra⟩
  obtain ⟨Aa, ca, hka, hla⟩ := hra.slice
  subst hka
  refine JR_split [6] (by kernel_rfl) rfl (all1 ?_)
  refine JK_fcall rfl ⟨7, rfl, rfl⟩ rfl en64 (by decide) (grows_copy _) (fun w1 hw => plain_spec nd hok _ w1 (by first | exact (hr.ext hw.ext_all) | exact ((hr.ext hea).ext hw.ext_all))) (fun _ _ w1 _ hw => hw.hblk (.head _)) ?_
  rintro _ Zb wzb heb ⟨kb, rfl, hrb⟩
  obtain ⟨Ab, cb, hkb, hlb⟩ := hrb.slice
  subst hkb
  refine JR_split [7] (by kernel_rfl) rfl (all1 ?_)
  refine JK_scall rfl ⟨7, rfl, rfl⟩ rfl en15 (by decide) (fun w1 hw => sameNode_spec (ndT ⟨#[]⟩ (trOf nd)) (plainN nd) _ _ w1 (by first | exact (((hra.ext (heb.nz _)).ext (Ext.unNZ _)).ext hw.ext_all) | exact ((hra.ext (Ext.unNZ _)).ext hw.ext_all)) (by first | exact (((hrb.ext (hea.nz _)).ext (Ext.unNZ _)).ext hw.ext_all) | exact ((hrb.ext (Ext.unNZ _)).ext hw.ext_all))) (fun w1 hw => hw.hblk (.head _)) ?_
  rintro _ h15
  rw [show (beq (ndT ⟨#[]⟩ (trOf nd)).name (plainN nd).name && eqNd (ndT ⟨#[]⟩ (trOf nd)) (plainN nd)) = true from by rw [ndT_trOf]; simp [plainN, beq, eqNd_self, Nd.name]] at h15
  subst h15
  refine JR_v (i := 8) rfl (by kernel_rfl) (by kernel_rfl) rfl (by kernel_rfl) (by kernel_rfl) panic_any (by decide) (vo_pick rfl rfl) (fun w hw => hw.hblk (.head _)) ?_
  refine JR_v (i := 9) rfl (by kernel_rfl) (by kernel_rfl) rfl (by kernel_rfl) (by kernel_rfl) panic_any (by decide) (vo_assign rfl) (fun w hw => hw.hblk (.head _)) ?_
  refine JR_done (by kernel_rfl) ?_
  refine JX_then ?_
  refine JC_ret ?_
  refine ret1 rfl rfl ?_
  intro w1 hM; exact SC_end hM rfl

end Go.Eng
