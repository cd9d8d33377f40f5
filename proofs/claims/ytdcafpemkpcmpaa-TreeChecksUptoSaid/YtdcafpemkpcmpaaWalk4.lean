/-
  Part of the proofs over this seat: D6 W9 D7 W10 W11. Own work; imports the kit.
-/
import Derived.Test.YtdcafpemkpcmpaaWalk3
import Derived.Test.YtdcafpemkpcmpaaData1
set_option linter.unusedVariables false
set_option linter.unusedSimpArgs false
namespace Go.Eng
open Go Go.RowKit Go.Proofs
section
variable {cs : Array Value} {o : Nat} {v : Val} {m : Mk2} {nv kv : Value} {c d : Int}
theorem treeC_val : ∀ j u, (valC v)[j]? = some u → (treeC v m nv kv c d).toArray[0 + 0 + j]? = some u := fun j u h => by
  rw [Nat.zero_add, List.getElem?_toArray, treeC, List.getElem?_append_left (List.getElem?_eq_some_iff.1 h).1]; exact h
theorem pt_val : PartAt Try.prog 24 (treeC v m nv kv c d).toArray (0 + 0) (.agg (valC v).toArray) := .agg Try.underlying24 rfl sz24 treeC_val
end
def belowP (p n : ByteArray) : ByteArray := if beq p ⟨#[]⟩ then n else p ++ ⟨#[47]⟩ ++ n
theorem zr24 : (Try.prog.info? 24).bind (·.zero) = some (.agg (valC zeroVal).toArray) := by kernel_rfl
end Go.Eng

set_option linter.unusedVariables false
set_option linter.unusedSimpArgs false
namespace Go.Eng
open Go Go.RowKit Go.Proofs
theorem fo120_0 : fieldOff Try.prog 120 0 = some 0 := by kernel_rfl

set_option maxRecDepth 8000 in
set_option maxHeartbeats 1000000 in
theorem value_spec (T : Tr) (b : Nat) (w : World) (hT : RTree (fun b => b < w.heap.size) w T b) : SCalls Try.prog 28 #[ptrV b] w (fun u => u = .agg (valC T.val).toArray) := by
  obtain ⟨v, m, ns, ks⟩ := T
  obtain ⟨nv, kv, ps, hfb, hnk, hps, hnn, hkk, htt⟩ := hT.open_
  refine enter (N := 7) Try.func28 rfl Try.ntmps28 (Nat.le_of_ble_eq_true rfl) [(0, ptrV b)] (by repeat (first | exact trivial | refine ⟨rfl, ?_⟩)) (Mem.start w (fun _ => False) (fun b => b < w.heap.size) (fun _ h => h)) ?_
  refine JC_seq ?_
  refine JC_region ?_
  refine st_alloc zr24 (by decide) (fun b2 => ?_)
  refine JL_nil ?_
  refine JX_then ?_
  refine JC_seq ?_
  refine JC_region ?_
  refine JL_v (vo_move rfl) nofun (by decide) ?_
  refine JL_v ((by first | exact vo_nilCheck rfl | exact vo_nilCheckF rfl)) nofun (by decide) ?_
  refine JL_v (vo_fieldAddr rfl fo120_0) nofun (by decide) ?_
  refine JL_v (vo_load rfl (by first | exact .frz ‹_› | exact .own (by repeat (first | exact .head _ | refine .tail _ ?_))) (by first | exact PartAt.whole Try.underlying24 rfl sz24 | exact pt_val)) nofun (by decide) ?_
  refine st_storeW rfl rfl sz24 rfl (by repeat (first | exact .head _ _ _ | apply Turn.tail)) (by rfl) ?_
  refine JL_nil ?_
  refine JX_then ?_
  refine JC_ret ?_
  refine retL1 rfl (.cell rfl (by first | exact .frz ‹_› | exact .own (by repeat (first | exact .head _ | refine .tail _ ?_))) (by first | exact PartAt.whole Try.underlying24 rfl sz24 | exact pt_val) (.nil)) ?_
  intro w1 hM; exact SC_end hM rfl
set_option maxRecDepth 8000 in
set_option maxHeartbeats 1000000 in
theorem count_spec (T : Tr) (b : Nat) (w : World) (hT : RTree (fun b => b < w.heap.size) w T b) : SCalls Try.prog 29 #[ptrV b] w (fun u => u = .int .i64 T.count) := by
  obtain ⟨v, m, ns, ks⟩ := T
  obtain ⟨nv, kv, ps, hfb, hnk, hps, hnn, hkk, htt⟩ := hT.open_
  refine enter (N := 7) Try.func29 rfl Try.ntmps29 (Nat.le_of_ble_eq_true rfl) [(0, ptrV b)] (by repeat (first | exact trivial | refine ⟨rfl, ?_⟩)) (Mem.start w (fun _ => False) (fun b => b < w.heap.size) (fun _ h => h)) ?_
  refine JC_seq ?_
  refine JC_region ?_
  refine JL_v (vo_assign rfl) nofun (by decide) ?_
  refine JL_nil ?_
  refine JX_then ?_
  refine JC_seq ?_
  refine JC_region ?_
  refine JL_v (vo_move rfl) nofun (by decide) ?_
  refine JL_v ((by first | exact vo_nilCheck rfl | exact vo_nilCheckF rfl)) nofun (by decide) ?_
  refine JL_v (vo_fieldAddr rfl fo120_4) nofun (by decide) ?_
  refine JL_v (vo_load rfl (by first | exact .frz ‹_› | exact .own (by repeat (first | exact .head _ | refine .tail _ ?_))) (by first | exact .cell Try.underlying3 rfl rfl | exact pt_val)) nofun (by decide) ?_
  refine JL_v (vo_assign rfl) nofun (by decide) ?_
  refine JL_nil ?_
  refine JX_then ?_
  refine JC_ret ?_
  refine ret1 rfl rfl ?_
  intro w1 hM; exact SC_end hM rfl
set_option maxRecDepth 8000 in
set_option maxHeartbeats 1000000 in
theorem below_spec (p name : ByteArray) (hp : p.size ≤ 4611686018427387904) (hn : name.size ≤ 4611686018427387000) (w : World)  : SCalls Try.prog 108 #[.string p, .string name] w (fun u => u = .string (belowP p name)) := by
  refine enter (N := 12) Try.func108 rfl Try.ntmps108 (Nat.le_of_ble_eq_true rfl) [(0, .string p), (1, .string name)] (by repeat (first | exact trivial | refine ⟨rfl, ?_⟩)) (Mem.start w (fun _ => False) (fun b => b < w.heap.size) (fun _ h => h)) ?_
  refine JC_seq ?_
  refine JC_region ?_
  refine JL_v (vo_assign rfl) nofun (by decide) ?_
  refine JL_nil ?_
  refine JX_then ?_
  refine JC_seq ?_
  refine JC_seq ?_
  refine JC_region ?_
  refine JL_v (vo_move rfl) nofun (by decide) ?_
  refine JL_v (vo_scmp rfl rfl rfl) nofun (by decide) ?_
  refine JL_nil ?_
  refine JX_then ?_
  refine JC_cond _ rfl (fun hc6 => ?_) (fun hc6 => ?_)
  · refine JC_seq ?_
    refine JC_region ?_
    refine JL_v (vo_move rfl) nofun (by decide) ?_
    refine JL_v (vo_assign rfl) nofun (by decide) ?_
    refine JL_nil ?_
    refine JX_then ?_
    refine JC_ret ?_
    refine JX_then_ret ?_
    refine ret1 rfl rfl ?_
    intro w1 hM; exact SC_end hM (by simp_all [belowP])
  · refine JC_skip ?_
    refine JX_then ?_
    refine JC_seq ?_
    refine JC_region ?_
    refine JL_v (vo_move rfl) nofun (by decide) ?_
    refine JL_v (vo_concat rfl rfl (by first | omega | (simp only [ByteArray.size_append, size47]; omega))) nofun (by decide) ?_
    refine JL_v (vo_move rfl) nofun (by decide) ?_
    refine JL_v (vo_concat rfl rfl (by first | omega | (simp only [ByteArray.size_append, size47]; omega))) nofun (by decide) ?_
    refine JL_v (vo_assign rfl) nofun (by decide) ?_
    refine JL_nil ?_
    refine JX_then ?_
    refine JC_ret ?_
    refine ret1 rfl rfl ?_
    intro w1 hM; exact SC_end hM (by simp_all [belowP])
set_option maxRecDepth 8000 in
set_option maxHeartbeats 1000000 in
theorem children_spec {Z : Nat → Prop} (b : Nat) (w : World) (hz : ∀ b, Z b → b < w.heap.size) : PCalls Try.prog 19 #[ptrV b] w Z (fun Z' w' u => ∃ c, u = .func (.func 78) #[] #[.pointer (some ⟨c, 0, none⟩)] ∧ FB Z' w' c (.cells #[ptrV b] 55 (0, 0))) := by
  refine enter (N := 4) Try.func19 rfl Try.ntmps19 (Nat.le_of_ble_eq_true rfl) [(0, ptrV b)] (by repeat (first | exact trivial | refine ⟨rfl, ?_⟩)) (Mem.start w (fun _ => False) Z hz) ?_
  refine JC_seq ?_
  refine JC_region ?_
  refine st_box rfl (by decide) (fun b1 => ?_)
  refine JL_v (vo_assign rfl) nofun (by decide) ?_
  refine JL_nil ?_
  refine JX_then ?_
  refine JC_seq ?_
  refine JC_region ?_
  refine JL_v (vo_makeFunc rfl rfl) nofun (by decide) ?_
  refine JL_v (vo_assign rfl) nofun (by decide) ?_
  refine JL_nil ?_
  refine JX_then ?_
  refine JC_ret ?_
  refine ret1 rfl rfl ?_
  intro w1 hM
  obtain ⟨Z', h1, h2, h3⟩ := hM.freezeBlk (.head _ _)
  exact ⟨_, rfl, h1.below, _, rfl, h1.ext_end.fb _ _ h3⟩
set_option maxRecDepth 8000 in
set_option maxHeartbeats 1000000 in
theorem all_spec {Z : Nat → Prop} (b : Nat) (w : World) (hz : ∀ b, Z b → b < w.heap.size) : PCalls Try.prog 20 #[ptrV b] w Z (fun Z' w' u => ∃ c, u = .func (.func 79) #[] #[.pointer (some ⟨c, 0, none⟩)] ∧ FB Z' w' c (.cells #[ptrV b] 55 (0, 0))) := by
  refine enter (N := 4) Try.func20 rfl Try.ntmps20 (Nat.le_of_ble_eq_true rfl) [(0, ptrV b)] (by repeat (first | exact trivial | refine ⟨rfl, ?_⟩)) (Mem.start w (fun _ => False) Z hz) ?_
  refine JC_seq ?_
  refine JC_region ?_
  refine st_box rfl (by decide) (fun b1 => ?_)
  refine JL_v (vo_assign rfl) nofun (by decide) ?_
  refine JL_nil ?_
  refine JX_then ?_
  refine JC_seq ?_
  refine JC_region ?_
  refine JL_v (vo_makeFunc rfl rfl) nofun (by decide) ?_
  refine JL_v (vo_assign rfl) nofun (by decide) ?_
  refine JL_nil ?_
  refine JX_then ?_
  refine JC_ret ?_
  refine ret1 rfl rfl ?_
  intro w1 hM
  obtain ⟨Z', h1, h2, h3⟩ := hM.freezeBlk (.head _ _)
  exact ⟨_, rfl, h1.below, _, rfl, h1.ext_end.fb _ _ h3⟩

end Go.Eng

set_option linter.unusedVariables false
set_option linter.unusedSimpArgs false
namespace Go.Eng
open Go Go.RowKit Go.Proofs
mutual
def allT : Tr → ByteArray → List (ByteArray × Val)
  | .mk v _ ns ks, p => (p, v) :: allK ns ks p
def allK : List ByteArray → List Tr → ByteArray → List (ByteArray × Val)
  | _, [], _ => []
  | [], _ :: _, _ => []
  | n :: ns, k :: ks, p => allT k (belowP p n) ++ allK ns ks p
end
theorem allK_take : ∀ (ns : List ByteArray) (ks : List Tr) (p : ByteArray) (q : Nat) (n : ByteArray) (k : Tr), ns[q]? = some n → ks[q]? = some k →
    allK (ns.take (q + 1)) (ks.take (q + 1)) p = allK (ns.take q) (ks.take q) p ++ allT k (belowP p n)
  | [], ks, p, q, n, k, hn, hk => by simp at hn
  | _ :: ns, [], p, q, n, k, hn, hk => by simp at hk
  | n0 :: ns, k0 :: ks, p, 0, n, k, hn, hk => by
    simp at hn hk; subst hn hk; simp [allK]
  | n0 :: ns, k0 :: ks, p, q + 1, n, k, hn, hk => by
    have := allK_take ns ks p q n k (by simpa using hn) (by simpa using hk)
    simp only [List.take_succ_cons, allK, this, List.append_assoc]
theorem allK_drop : ∀ (ns : List ByteArray) (ks : List Tr) (p : ByteArray) (q : Nat) (h : ns.length = ks.length),
    allK ns ks p = allK (ns.take q) (ks.take q) p ++ allK (ns.drop q) (ks.drop q) p
  | [], [], p, q, h => by simp [allK]
  | [], _ :: ks, p, q, h => by simp at h
  | _ :: ns, [], p, q, h => by simp at h
  | n0 :: ns, k0 :: ks, p, 0, h => by simp [allK]
  | n0 :: ns, k0 :: ks, p, q + 1, h => by
    have := allK_drop ns ks p q (by simpa using h)
    simp only [List.take_succ_cons, List.drop_succ_cons, allK]
    rw [this, List.append_assoc]
theorem Tr.ind {C : Tr → Prop} (h : ∀ v m ns ks, (∀ k ∈ ks, C k) → C (.mk v m ns ks)) : ∀ n, C n
  | .mk v m ns ks => h v m ns ks (fun k hk => Tr.ind h k)
end Go.Eng

set_option linter.unusedVariables false
set_option linter.unusedSimpArgs false
namespace Go.Eng
open Go Go.RowKit Go.Proofs
theorem en108 : Enters Try.prog 108 := ⟨_, Try.func108, by kernel_rfl, by kernel_rfl⟩
theorem en80 : Enters Try.prog 80 := ⟨_, Try.func80, by kernel_rfl, by kernel_rfl⟩
theorem fo120_2 : fieldOff Try.prog 120 2 = some 39 := by kernel_rfl
theorem fo120_3 : fieldOff Try.prog 120 3 = some 40 := by kernel_rfl

/-- what a taker of paths and values is to do -/
def TakesPV (g : FuncId) (ca : Array Value) (xs : List (ByteArray × Val)) (cont : Nat → Bool) (H : Nat → List Res → Prop) (Zf : Nat → Prop) (wf : World) : Prop :=
  ∀ (i : Nat) (p : ByteArray) (v : Val) (L : List Res) (w : World), xs[i]? = some (p, v) → H i L → Holds L w → Ext Zf wf (ZL L w) w → MCalls Try.prog g (#[.string p, .agg (valC v).toArray] ++ ca) w L (fun u L' => u = .bool (cont i) ∧ H (i + 1) L')
def WALK80 (T : Tr) (g : FuncId) (ca : Array Value) (xs : List (ByteArray × Val)) (cont : Nat → Bool) (H : Nat → List Res → Prop) (Zf : Nat → Prop) (wf : World) : Prop :=
  ∀ (i : Nat) (p : ByteArray) (b : Nat) (L : List Res) (w : World), (∀ (j : Nat) (y : ByteArray × Val), (allT T p)[j]? = some y → xs[i + j]? = some y) → H i L → Holds L w → Ext Zf wf (ZL L w) w → RTree (ZL L w) w T b →
    MCalls Try.prog 80 #[ptrV b, .string p, .func (.func g) #[] ca] w L (fun u L' => u = .bool (feed cont i (allT T p).length).1 ∧ H (feed cont i (allT T p).length).2 L')
structure At80 (ns : List ByteArray) (ks : List Tr) (p : ByteArray) (cont : Nat → Bool) (i : Nat) (H : Nat → List Res → Prop) where
  q : Nat
  L : List Res
  hq : q ≤ ks.length
  hf : (feed cont i (1 + (allK (ns.take q) (ks.take q) p).length)).1 = true
  hH : H (i + (1 + (allK (ns.take q) (ks.take q) p).length)) L

set_option maxRecDepth 8000 in
set_option maxHeartbeats 1000000 in
theorem walk_of (g : FuncId) (heg : Enters Try.prog g) (ca : Array Value) (xs : List (ByteArray × Val)) (hxs : ∀ (j : Nat) (p : ByteArray) (v : Val), xs[j]? = some (p, v) → p.size ≤ 4611686018427387000) (cont : Nat → Bool) (H : Nat → List Res → Prop) (Zf : Nat → Prop) (wf : World) (hY : TakesPV g ca xs cont H Zf wf) (v : Val) (m : Mk2) (ns : List ByteArray) (ks : List Tr) (hks : ∀ k ∈ ks, WALK80 k g ca xs cont H Zf wf) : WALK80 (.mk v m ns ks) g ca xs cont H Zf wf := by
  intro i p b L w hsub hH hL hE hT
  obtain ⟨nv, kv, ps, hfb, hnk, hps, hnn, hkk, htt⟩ := hT.open_
  obtain ⟨An, cn, rfl, hln⟩ := hnn.slice
  obtain ⟨Ak, ck, rfl, hlk⟩ := hkk.slice
  simp only [List.length_map] at hln hlk
  have hm1 : (ns.map strV).length = ns.length := List.length_map _
  have hx0 : xs[i]? = some (p, v) := by simpa [allT] using hsub 0 (p, v) (by simp [allT])
  have hp0 := hxs _ _ _ hx0
  refine enter (N := 41) Try.func80 rfl Try.ntmps80 (Nat.le_of_ble_eq_true rfl) [(0, ptrV b), (1, .string p), (2, .func (.func g) #[] ca)] (by repeat (first | exact trivial | refine ⟨rfl, ?_⟩)) (Mem.startL hL) ?_
  refine JC_seq ?_
  refine JC_region ?_
  refine JL_v (vo_assign rfl) nofun (by decide) ?_
  refine JL_nil ?_
  refine JX_then ?_
  refine JC_seq ?_
  refine JC_seq ?_
  refine JC_region ?_
  refine JL_v (vo_move rfl) nofun (by decide) ?_
  refine JL_v (vo_move rfl) nofun (by decide) ?_
  refine JL_v (vo_move rfl) nofun (by decide) ?_
  refine JL_v ((by first | exact vo_nilCheck rfl | exact vo_nilCheckF rfl)) nofun (by decide) ?_
  refine JL_v (vo_fieldAddr rfl fo120_0) nofun (by decide) ?_
  refine JL_v (vo_load rfl (by first | exact .frz ‹_› | exact .own (by repeat (first | exact .head _ | refine .tail _ ?_))) (by first | exact PartAt.whole Try.underlying24 rfl sz24 | exact pt_val | exact .cell Try.underlying55 rfl (by simpa using hcell) | exact .cell Try.underlying9 rfl (by simpa using hcell9))) nofun (by decide) ?_
  refine st_mcallF0 rfl rfl heg (by decide) (fun w hw => hY i p v _ w hx0 hH hw.holds0 (hE.trans hw.ext_ZL0)) ?_
  rintro _ L' ⟨rfl, hL'⟩
  refine JL_v (vo_not rfl) nofun (by decide) ?_
  refine JL_nil ?_
  refine JX_then ?_
  refine JC_cond _ rfl (fun hc16 => ?_) (fun hc16 => ?_)
  · refine JC_seq ?_
    refine JC_region ?_
    refine JL_v (vo_assign rfl) nofun (by decide) ?_
    refine JL_nil ?_
    refine JX_then ?_
    refine JC_ret ?_
    refine JX_then_ret ?_
    refine ret1 rfl rfl ?_
    intro w1 hM
    have hci : cont i = false := by simpa using hc16
    refine MC_end hM ⟨?_, ?_⟩ <;> simp only [allT, List.length_cons, feed_succ, hci] <;> first | rfl | exact hL'
    
  · refine JC_skip ?_
    refine JX_then ?_
    refine JC_seq ?_
    refine JC_seq ?_
    refine JC_region ?_
    refine JL_v (vo_move rfl) nofun (by decide) ?_
    refine JL_v ((by first | exact vo_nilCheck rfl | exact vo_nilCheckF rfl)) nofun (by decide) ?_
    refine JL_v (vo_fieldAddr rfl fo120_3) nofun (by decide) ?_
    refine JL_v (vo_load rfl (by first | exact .frz ‹_› | exact .own (by repeat (first | exact .head _ | refine .tail _ ?_))) (by first | exact .cell Try.underlying89 rfl rfl | exact pt_val | exact .cell Try.underlying55 rfl (by simpa using hcell) | exact .cell Try.underlying9 rfl (by simpa using hcell9))) nofun (by decide) ?_
    refine JL_v (vo_len rfl Try.underlying89) nofun (by decide) ?_
    refine JL_v (vo_move rfl) nofun (by decide) ?_
    refine JL_nil ?_
    refine JX_then ?_
    refine JC_block ?_
    have hci : cont i = true := by simpa using hc16
    refine JC_loop (α := At80 ns ks p cont i H) (fun x => [(0, ptrV b), (1, .string p), (2, .func (.func g) #[] ca), (20, .slice Ak ps.length ck), (21, .int .i64 ps.length), (22, .int .i64 x.q)]) (fun x => Mem w (EL L) (ZL L w) (ZL L w) w x.L) (fun x => ks.length - x.q) ⟨0, L', by omega, by simp [allK, feed, hci], by simpa [allK] using hL'⟩ (by simpa using (by repeat (first | exact trivial | refine ⟨rfl, ?_⟩ | refine ⟨trivial, ?_⟩))) (fun w hw => hw) ?_
    intro x
    have hxq := x.hq
    refine JC_seq ?_
    refine JC_region ?_
    refine JL_v (vo_cmp rfl rfl rfl) nofun (by decide) ?_
    refine JL_nil ?_
    refine JX_then ?_
    refine JC_seq ?_
    refine JC_cond _ rfl (fun hc23 => ?_) (fun hc23 => ?_)
    · have hil : x.q < ks.length := by simp at hc23; omega
      obtain ⟨k, hki⟩ : ∃ k, ks[x.q]? = some k := ⟨_, List.getElem?_eq_getElem hil⟩
      obtain ⟨pk, hpi⟩ : ∃ p, ps[x.q]? = some p := ⟨_, List.getElem?_eq_getElem (by omega)⟩
      obtain ⟨n, hni⟩ : ∃ n, ns[x.q]? = some n := ⟨_, List.getElem?_eq_getElem (by omega)⟩
      obtain ⟨b', o', c', cs', te, fr, hv, hfbk, hcell⟩ := hkk.at_ (i := x.q) (u := ptrV pk) (by simp [hpi])
      simp only [List.length_map] at hv
      cases hv
      obtain ⟨b9, o9, c9, cs9, te9, fr9, hv9, hfb9, hcell9⟩ := hnn.at_ (i := x.q) (u := strV n) (by simp [hni])
      simp only [List.length_map] at hv9
      cases hv9
      have hsubk : ∀ (j : Nat) (y : ByteArray × Val), (allT k (belowP p n))[j]? = some y → xs[i + (1 + (allK (ns.take x.q) (ks.take x.q) p).length) + j]? = some y := by
        intro j y hj
        rw [show i + (1 + (allK (ns.take x.q) (ks.take x.q) p).length) + j = i + (((allK (ns.take x.q) (ks.take x.q) p).length + j) + 1) by omega]
        refine hsub _ y ?_
        rw [allT, List.getElem?_cons_succ, allK_drop ns ks p x.q hnk, List.getElem?_append_right (by omega), Nat.add_sub_cancel_left, drop_of_get hni, drop_of_get hki, allK, List.getElem?_append_left (List.getElem?_eq_some_iff.1 hj).1]
        exact hj
      have hnsz : n.size ≤ 4611686018427387000 := by
        obtain ⟨vk, mk, nk, kk⟩ := k
        have := hxs _ _ _ (hsubk 0 (belowP p n, vk) (by simp [allT]))
        unfold belowP at this
        split at this
        · exact this
        · simp only [ByteArray.size_append] at this; omega
      have hlen : (allK (ns.take (x.q + 1)) (ks.take (x.q + 1)) p).length = (allK (ns.take x.q) (ks.take x.q) p).length + (allT k (belowP p n)).length := by rw [allK_take ns ks p x.q n k hni hki, List.length_append]
      have hx1 := x.hf
      have hx2 := x.hH
      have hfa := feed_add cont i (1 + (allK (ns.take x.q) (ks.take x.q) p).length) (allT k (belowP p n)).length
      rw [hx1, if_pos rfl] at hfa
      refine JC_skip ?_
      refine JX_then ?_
      refine JC_seq ?_
      refine JC_block ?_
      refine JC_seq ?_
      refine JC_region ?_
      refine JL_v (vo_move rfl) nofun (by decide) ?_
      refine JL_v (vo_indexAddr rfl rfl Try.underlying89 sz55 (by omega) (by omega)) nofun (by decide) ?_
      refine JL_v (vo_load rfl (by first | exact .frz ‹_› | exact .own (by repeat (first | exact .head _ | refine .tail _ ?_))) (by first | exact .cell Try.underlying55 rfl rfl | exact pt_val | exact .cell Try.underlying55 rfl (by simpa using hcell) | exact .cell Try.underlying9 rfl (by simpa using hcell9))) nofun (by decide) ?_
      refine JL_v (vo_assign rfl) nofun (by decide) ?_
      refine JL_v (vo_assign rfl) nofun (by decide) ?_
      refine JL_nil ?_
      refine JX_then ?_
      refine JC_seq ?_
      refine JC_region ?_
      refine JL_v (vo_move rfl) nofun (by decide) ?_
      refine JL_v (vo_move rfl) nofun (by decide) ?_
      refine JL_v (vo_move rfl) nofun (by decide) ?_
      refine JL_v ((by first | exact vo_nilCheck rfl | exact vo_nilCheckF rfl)) nofun (by decide) ?_
      refine JL_v (vo_fieldAddr rfl fo120_2) nofun (by decide) ?_
      refine JL_v (vo_load rfl (by first | exact .frz ‹_› | exact .own (by repeat (first | exact .head _ | refine .tail _ ?_))) (by first | exact .cell Try.underlying71 rfl rfl | exact pt_val | exact .cell Try.underlying55 rfl (by simpa using hcell) | exact .cell Try.underlying9 rfl (by simpa using hcell9))) nofun (by decide) ?_
      refine JL_v (vo_move rfl) nofun (by decide) ?_
      refine JL_v (vo_indexAddr rfl rfl Try.underlying71 sz9 (by omega) (by omega)) nofun (by decide) ?_
      refine JL_v (vo_load rfl (by first | exact .frz ‹_› | exact .own (by repeat (first | exact .head _ | refine .tail _ ?_))) (by first | exact .cell Try.underlying9 rfl rfl | exact pt_val | exact .cell Try.underlying55 rfl (by simpa using hcell) | exact .cell Try.underlying9 rfl (by simpa using hcell9))) nofun (by decide) ?_
      refine st_scall rfl en108 (by decide) (fun w hw => below_spec _ _ (by omega) hnsz w) ?_
      rintro _ rfl
      refine JL_v (vo_move rfl) nofun (by decide) ?_
      refine st_mcall0 rfl en80 (by decide) (fun w1 hw => hks k (List.mem_of_getElem? hki) _ _ pk _ w1 (fun j y hj => ?_) x.hH hw.holds0 (hE.trans hw.ext_ZL0) ((htt _ _ _ hki hpi).ext hw.ext_ZL0)) ?_
      · exact hsubk j y hj
      rintro _ L' ⟨rfl, hL'⟩
      refine JL_v (vo_not rfl) nofun (by decide) ?_
      refine JL_nil ?_
      refine JX_then ?_
      refine JC_cond _ rfl (fun hc39 => ?_) (fun hc39 => ?_)
      · refine JC_seq ?_
        refine JC_region ?_
        refine JL_v (vo_assign rfl) nofun (by decide) ?_
        refine JL_nil ?_
        refine JX_then ?_
        refine JC_ret ?_
        refine JX_block_ret ?_
        refine JX_then_ret ?_
        refine JX_thenK_ret ?_
        refine JX_block_ret ?_
        refine JX_then_ret ?_
        refine ret1 rfl rfl ?_
        intro w1 hM
        have hff : (feed cont (i + (1 + (allK (ns.take x.q) (ks.take x.q) p).length)) (allT k (belowP p n)).length).1 = false := by simpa using hc39
        have htot : (allT (.mk v m ns ks) p).length = (1 + (allK (ns.take x.q) (ks.take x.q) p).length + (allT k (belowP p n)).length) + (allK (ns.drop (x.q + 1)) (ks.drop (x.q + 1)) p).length := by
          rw [allT, List.length_cons, allK_drop ns ks p (x.q + 1) hnk, List.length_append, hlen]; omega
        have hfin := feed_add cont i (1 + (allK (ns.take x.q) (ks.take x.q) p).length + (allT k (belowP p n)).length) (allK (ns.drop (x.q + 1)) (ks.drop (x.q + 1)) p).length
        rw [← htot, hfa, hff] at hfin
        simp only [Bool.false_eq_true, if_false] at hfin
        rw [hfin]
        exact MC_end hM ⟨by rw [hff], hL'⟩
      · refine JC_skip ?_
        refine JX_block ?_
        refine JX_then ?_
        refine JC_region ?_
        refine JL_v (vo_add rfl rfl (by omega) (by omega)) nofun (by decide) ?_
        refine JL_v (vo_move rfl) nofun (by decide) ?_
        refine JL_nil ?_
        have hft : (feed cont (i + (1 + (allK (ns.take x.q) (ks.take x.q) p).length)) (allT k (belowP p n)).length).1 = true := by simpa using hc39
        refine JX_loop ⟨x.q + 1, L', hil, by rw [hlen, ← Nat.add_assoc, hfa]; exact hft, by rw [hlen]; rw [feed_true hft] at hL'; simpa [Nat.add_assoc] using hL'⟩ (by show ks.length - (x.q + 1) < ks.length - x.q; omega) (by repeat (first | exact trivial | refine ⟨rfl, ?_⟩ | refine ⟨trivial, ?_⟩)) (fun w hw => hw)
    · refine JC_exit ?_
      refine JX_then_exit ?_
      refine JX_thenK_exit ?_
      refine JX_block_exit ?_
      refine JX_then ?_
      refine JC_seq ?_
      refine JC_region ?_
      refine JL_v (vo_assign rfl) nofun (by decide) ?_
      refine JL_nil ?_
      refine JX_then ?_
      refine JC_ret ?_
      refine ret1 rfl rfl ?_
      intro w1 hM
      have hq : x.q = ks.length := by simp at hc23; omega
      have hx1 := x.hf
      have hx2 := x.hH
      rw [hq, List.take_length, List.take_of_length_le (by omega)] at hx1 hx2
      have htot : (allT (.mk v m ns ks) p).length = 1 + (allK ns ks p).length := by rw [allT, List.length_cons]; omega
      rw [htot]
      refine MC_end hM ⟨by rw [hx1], by rw [feed_true hx1]; exact hx2⟩

end Go.Eng

set_option linter.unusedVariables false
set_option linter.unusedSimpArgs false
namespace Go.Eng
open Go Go.RowKit Go.Proofs


theorem walk_spec (g : FuncId) (heg : Enters Try.prog g) (ca : Array Value) (xs : List (ByteArray × Val)) (hxs : ∀ (j : Nat) (p : ByteArray) (v : Val), xs[j]? = some (p, v) → p.size ≤ 4611686018427387000) (cont : Nat → Bool) (H : Nat → List Res → Prop) (Zf : Nat → Prop) (wf : World) (hY : TakesPV g ca xs cont H Zf wf) : ∀ T, WALK80 T g ca xs cont H Zf wf :=
  Tr.ind fun v m ns ks ih => walk_of g heg ca xs hxs cont H Zf wf hY v m ns ks ih
/-- what a taker of names and kids is to do -/
def TakesNK (g : FuncId) (ca : Array Value) (ns : List ByteArray) (ks : List Tr) (cont : Nat → Bool) (H : Nat → List Res → Prop) (Zf : Nat → Prop) (wf : World) : Prop :=
  ∀ (i : Nat) (n : ByteArray) (k : Tr) (b : Nat) (L : List Res) (w : World), ns[i]? = some n → ks[i]? = some k → H i L → Holds L w → Ext Zf wf (ZL L w) w → RTree (ZL L w) w k b → MCalls Try.prog g (#[.string n, ptrV b] ++ ca) w L (fun u L' => u = .bool (cont i) ∧ H (i + 1) L')
structure At78 (ks : List Tr) (cont : Nat → Bool) (H : Nat → List Res → Prop) where
  q : Nat
  L : List Res
  hq : q ≤ ks.length
  hf : (feed cont 0 q).1 = true
  hH : H q L

set_option maxRecDepth 8000 in
set_option maxHeartbeats 1000000 in
theorem allseq_spec (g : FuncId) (heg : Enters Try.prog g) (ca : Array Value) (T : Tr) (b c : Nat) (cont : Nat → Bool) (H : Nat → List Res → Prop) (hxs : ∀ (j : Nat) (p : ByteArray) (v : Val), (allT T ⟨#[]⟩)[j]? = some (p, v) → p.size ≤ 4611686018427387000) (Zf : Nat → Prop) (wf : World) (hY : TakesPV g ca (allT T ⟨#[]⟩) cont H Zf wf) (L : List Res) (w : World) (hH : H 0 L) (hL : Holds L w) (hE : Ext Zf wf (ZL L w) w) (hT : RTree (ZL L w) w T b) (hfc : FB (ZL L w) w c (.cells #[ptrV b] 55 (0, 0))) : MCalls Try.prog 79 (#[.func (.func g) #[] ca] ++ #[.pointer (some ⟨c, 0, none⟩)]) w L (fun u L' => u = .tuple #[] ∧ H (feed cont 0 (allT T ⟨#[]⟩).length).2 L') := by
  refine enter (N := 6) Try.func79 rfl Try.ntmps79 (Nat.le_of_ble_eq_true rfl) [(0, .func (.func g) #[] ca), (1, .pointer (some ⟨c, 0, none⟩))] (by repeat (first | exact trivial | refine ⟨rfl, ?_⟩)) (Mem.startL hL) ?_
  refine JC_region ?_
  refine JL_v (vo_load rfl (by first | exact .frz ‹_› | exact .own (by repeat (first | exact .head _ | refine .tail _ ?_))) (by first | exact .cell Try.underlying55 rfl rfl)) nofun (by decide) ?_
  refine JL_v (vo_move rfl) nofun (by decide) ?_
  refine st_mcall0 rfl en80 (by decide) (fun w1 hw => walk_spec g heg ca _ hxs cont H Zf wf hY T 0 _ b _ w1 (fun j y hj => by simpa using hj) hH hw.holds0 (hE.trans hw.ext_ZL0) (hT.ext hw.ext_ZL0)) ?_
  rintro _ L' ⟨rfl, hL'⟩
  refine JL_nil ?_
  refine end0 rfl (fun w1 hM => MC_end hM ⟨rfl, hL'⟩)
set_option maxRecDepth 8000 in
set_option maxHeartbeats 1000000 in
theorem kidseq_spec (g : FuncId) (heg : Enters Try.prog g) (ca : Array Value) (v : Val) (m : Mk2) (ns : List ByteArray) (ks : List Tr) (b c : Nat) (cont : Nat → Bool) (H : Nat → List Res → Prop) (Zf : Nat → Prop) (wf : World) (hY : TakesNK g ca ns ks cont H Zf wf) (L : List Res) (w : World) (hH : H 0 L) (hL : Holds L w) (hE : Ext Zf wf (ZL L w) w) (hT : RTree (ZL L w) w (.mk v m ns ks) b) (hfc : FB (ZL L w) w c (.cells #[ptrV b] 55 (0, 0))) : MCalls Try.prog 78 (#[.func (.func g) #[] ca] ++ #[.pointer (some ⟨c, 0, none⟩)]) w L (fun u L' => u = .tuple #[] ∧ H (feed cont 0 ks.length).2 L') := by
  obtain ⟨nv, kv, ps, hfb, hnk, hps, hnn, hkk, htt⟩ := hT.open_
  obtain ⟨An, cn, rfl, hln⟩ := hnn.slice
  obtain ⟨Ak, ck, rfl, hlk⟩ := hkk.slice
  have hm1 : (ns.map strV).length = ns.length := List.length_map _
  have hm2 : (ps.map ptrV).length = ps.length := List.length_map _
  refine enter (N := 27) Try.func78 rfl Try.ntmps78 (Nat.le_of_ble_eq_true rfl) [(0, .func (.func g) #[] ca), (1, .pointer (some ⟨c, 0, none⟩))] (by repeat (first | exact trivial | refine ⟨rfl, ?_⟩)) (Mem.startL hL) ?_
  refine JC_seq ?_
  refine JC_region ?_
  refine JL_v (vo_load rfl (by first | exact .frz ‹_› | exact .own (by repeat (first | exact .head _ | refine .tail _ ?_))) (by first | exact .cell Try.underlying55 rfl rfl | exact .cell Try.underlying55 rfl (by simpa using hcell) | exact .cell Try.underlying9 rfl (by simpa using hcell9))) nofun (by decide) ?_
  refine JL_v ((by first | exact vo_nilCheck rfl | exact vo_nilCheckF rfl)) nofun (by decide) ?_
  refine JL_v (vo_fieldAddr rfl fo120_3) nofun (by decide) ?_
  refine JL_v (vo_load rfl (by first | exact .frz ‹_› | exact .own (by repeat (first | exact .head _ | refine .tail _ ?_))) (by first | exact .cell Try.underlying89 rfl rfl | exact .cell Try.underlying55 rfl (by simpa using hcell) | exact .cell Try.underlying9 rfl (by simpa using hcell9))) nofun (by decide) ?_
  refine JL_v (vo_len rfl Try.underlying89) nofun (by decide) ?_
  refine JL_v (vo_move rfl) nofun (by decide) ?_
  refine JL_nil ?_
  refine JX_then ?_
  refine JC_block ?_
  refine JC_loop (α := At78 ks cont H) (fun x => [(0, .func (.func g) #[] ca), (1, .pointer (some ⟨c, 0, none⟩)), (8, .slice Ak (ps.map ptrV).length ck), (9, .int .i64 (ps.map ptrV).length), (10, .int .i64 x.q)]) (fun x => Mem w (EL L) (ZL L w) (ZL L w) w x.L) (fun x => ks.length - x.q) ⟨0, L, by omega, rfl, hH⟩ (by repeat (first | exact trivial | refine ⟨rfl, ?_⟩ | refine ⟨trivial, ?_⟩)) (fun w hw => hw) ?_
  intro x
  have hxq := x.hq
  refine JC_seq ?_
  refine JC_region ?_
  refine JL_v (vo_cmp rfl rfl rfl) nofun (by decide) ?_
  refine JL_nil ?_
  refine JX_then ?_
  refine JC_seq ?_
  refine JC_cond _ rfl (fun hc11 => ?_) (fun hc11 => ?_)
  · have hil : x.q < ks.length := by simp at hc11; omega
    obtain ⟨k, hki⟩ : ∃ k, ks[x.q]? = some k := ⟨_, List.getElem?_eq_getElem hil⟩
    obtain ⟨pk, hpi⟩ : ∃ p, ps[x.q]? = some p := ⟨_, List.getElem?_eq_getElem (by omega)⟩
    obtain ⟨n, hni⟩ : ∃ n, ns[x.q]? = some n := ⟨_, List.getElem?_eq_getElem (by omega)⟩
    obtain ⟨b', o', c', cs', te, fr, hv, hfbk, hcell⟩ := hkk.at_ (i := x.q) (u := ptrV pk) (by simp [hpi])
    cases hv
    obtain ⟨b9, o9, c9, cs9, te9, fr9, hv9, hfb9, hcell9⟩ := hnn.at_ (i := x.q) (u := strV n) (by simp [hni])
    cases hv9
    have hx1 := x.hf
    have hx2 := x.hH
    have hfa := feed_add cont 0 x.q 1
    rw [hx1, if_pos rfl, Nat.zero_add, show feed cont x.q 1 = if cont x.q then (true, x.q + 1) else (false, x.q + 1) from rfl] at hfa
    refine JC_skip ?_
    refine JX_then ?_
    refine JC_seq ?_
    refine JC_block ?_
    refine JC_seq ?_
    refine JC_region ?_
    refine JL_v (vo_move rfl) nofun (by decide) ?_
    refine JL_v (vo_indexAddr rfl rfl Try.underlying89 sz55 (by omega) (by omega)) nofun (by decide) ?_
    refine JL_v (vo_load rfl (by first | exact .frz ‹_› | exact .own (by repeat (first | exact .head _ | refine .tail _ ?_))) (by first | exact .cell Try.underlying55 rfl rfl | exact .cell Try.underlying55 rfl (by simpa using hcell) | exact .cell Try.underlying9 rfl (by simpa using hcell9))) nofun (by decide) ?_
    refine JL_v (vo_assign rfl) nofun (by decide) ?_
    refine JL_v (vo_assign rfl) nofun (by decide) ?_
    refine JL_nil ?_
    refine JX_then ?_
    refine JC_seq ?_
    refine JC_region ?_
    refine JL_v (vo_move rfl) nofun (by decide) ?_
    refine JL_v (vo_load rfl (by first | exact .frz ‹_› | exact .own (by repeat (first | exact .head _ | refine .tail _ ?_))) (by first | exact .cell Try.underlying55 rfl rfl | exact .cell Try.underlying55 rfl (by simpa using hcell) | exact .cell Try.underlying9 rfl (by simpa using hcell9))) nofun (by decide) ?_
    refine JL_v ((by first | exact vo_nilCheck rfl | exact vo_nilCheckF rfl)) nofun (by decide) ?_
    refine JL_v (vo_fieldAddr rfl fo120_2) nofun (by decide) ?_
    refine JL_v (vo_load rfl (by first | exact .frz ‹_› | exact .own (by repeat (first | exact .head _ | refine .tail _ ?_))) (by first | exact .cell Try.underlying71 rfl rfl | exact .cell Try.underlying55 rfl (by simpa using hcell) | exact .cell Try.underlying9 rfl (by simpa using hcell9))) nofun (by decide) ?_
    refine JL_v (vo_move rfl) nofun (by decide) ?_
    refine JL_v (vo_indexAddr rfl rfl Try.underlying71 sz9 (by omega) (by omega)) nofun (by decide) ?_
    refine JL_v (vo_load rfl (by first | exact .frz ‹_› | exact .own (by repeat (first | exact .head _ | refine .tail _ ?_))) (by first | exact .cell Try.underlying9 rfl rfl | exact .cell Try.underlying55 rfl (by simpa using hcell) | exact .cell Try.underlying9 rfl (by simpa using hcell9))) nofun (by decide) ?_
    refine JL_v (vo_move rfl) nofun (by decide) ?_
    refine st_mcallF0 rfl rfl heg (by decide) (fun w hw => hY x.q n k pk _ w hni hki x.hH hw.holds0 (hE.trans hw.ext_ZL0) ((htt _ _ _ hki hpi).ext hw.ext_ZL0)) ?_
    rintro _ L' ⟨rfl, hL'⟩
    refine JL_v (vo_not rfl) nofun (by decide) ?_
    refine JL_nil ?_
    refine JX_then ?_
    refine JC_cond _ rfl (fun hc25 => ?_) (fun hc25 => ?_)
    · refine JC_ret ?_
      refine JX_block_ret ?_
      refine JX_then_ret ?_
      refine JX_thenK_ret ?_
      refine JX_block_ret ?_
      refine ret0 rfl ?_
      intro w1 hM
      have hci : cont x.q = false := by simpa using hc25
      have htot : ks.length = x.q + 1 + (ks.length - (x.q + 1)) := by omega
      rw [hci] at hfa
      simp only [Bool.false_eq_true, if_false] at hfa
      have hfin := feed_add cont 0 (x.q + 1) (ks.length - (x.q + 1))
      rw [← htot, hfa] at hfin
      refine MC_end hM ⟨rfl, ?_⟩
      rw [hfin]
      exact hL'
    · refine JC_skip ?_
      refine JX_block ?_
      refine JX_then ?_
      refine JC_region ?_
      refine JL_v (vo_add rfl rfl (by omega) (by omega)) nofun (by decide) ?_
      refine JL_v (vo_move rfl) nofun (by decide) ?_
      refine JL_nil ?_
      have hci : cont x.q = true := by simpa using hc25
      refine JX_loop ⟨x.q + 1, L', hil, by rw [hfa, hci]; rfl, hL'⟩ (by show ks.length - (x.q + 1) < ks.length - x.q; omega) (by repeat (first | exact trivial | refine ⟨rfl, ?_⟩ | refine ⟨trivial, ?_⟩)) (fun w hw => hw)
  · refine JC_exit ?_
    refine JX_then_exit ?_
    refine JX_thenK_exit ?_
    refine JX_block_exit ?_
    refine end0 rfl (fun w1 hM => MC_end hM ⟨rfl, ?_⟩)
    have hq : x.q = ks.length := by simp at hc11; omega
    have hx1 := x.hf
    have hx2 := x.hH
    rw [hq] at hx1 hx2
    rw [feed_true hx1, Nat.zero_add]; exact hx2

end Go.Eng
