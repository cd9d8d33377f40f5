/-
  Part of the proofs over this seat: H5 M5 M6 M7. Own work; imports the kit.
-/
import Derived.Test.YtdeelajgigglgaaMovWalk1
set_option linter.unusedVariables false
set_option linter.unusedSimpArgs false
namespace Go.Eng
open Go Go.RowKit Go.Proofs
instance : DecidableEq Chg := fun a b => decidable_of_iff (chEq a b = true) chEq_iff
theorem chEq_dec (a b : Chg) : chEq a b = decide (a = b) := by
  rw [Bool.eq_iff_iff]; simp [chEq_iff]
theorem mvEq_dec (a b : ByteArray × ByteArray) : mvEq a b = decide (a = b) := by
  rw [Bool.eq_iff_iff]; simp [mvEq_iff]
/-! a room -/
def spareC (i : Nat) : Chg := ⟨wordP i, zeroVal, zeroVal⟩
/-- spare places -/
def sparesC (n : Nat) : List Chg := (List.range n).map spareC
theorem sparesC_succ (n : Nat) : sparesC (n + 1) = sparesC n ++ [spareC n] := by simp [sparesC, List.range_succ]
theorem sparesC_length (n : Nat) : (sparesC n).length = n := by simp [sparesC]
theorem sparesC_get {n j : Nat} (h : j < n) : (sparesC n)[j]? = some (spareC j) := by simp [sparesC, h]
def nilS : Value := .slice none 0 0
/-- a room with changes laid in it -/
def roomL (v6 v7 : Value) : List Value := [nilS, nilS, nilS, nilS, nilS, nilS, v6, v7, nilS, nilS, nilS, nilS, nilS, nilS, nilS, nilS, nilS, nilS, nilS, nilS, nilS, nilS, nilS, nilS, nilS, nilS]
def roomO (v6 v7 : Value) : Obj := .cells (roomL v6 v7).toArray 40 (0, 0)
theorem bl40 : Try.prog.built 40 [] = some (roomL nilS nilS).toArray := by kernel_rfl
theorem bl53 (s : ByteArray) : Try.prog.built 53 [(0, .string s)] = some (chC ⟨s, zeroVal, zeroVal⟩).toArray := by kernel_rfl
theorem chC_one (c : Chg) : ∀ u ∈ chC c, u.oneCell' = true := List.all_eq_true.1 rfl
theorem ap53 : (Try.prog.info? 53).map (fun i => (i.zero, i.size, i.bytes)) = some (some (.agg (chC ⟨⟨#[]⟩, zeroVal, zeroVal⟩).toArray), 71, 128) := by kernel_rfl
theorem zero53 : (Value.agg (chC ⟨⟨#[]⟩, zeroVal, zeroVal⟩).toArray).cells.size = 71 := rfl
section
variable {P : Program} {N : Nat} {ds : List Deferred} {t : Fm} {M : World → Prop} {ty : TypeId} {pos : String} {aft : Array Edge} {d : Nat}
theorem vo_sliceHM0 {xt e : TypeId} {x hi mx : Operand} {b o n c sz : Nat} {k k' : IntKind} {h m : Int} (hx : ev t x = some (.slice (some ⟨b, o, none⟩) n c)) (hhi : ev t hi = some (.int k h)) (hmx : ev t mx = some (.int k' m)) (hu : P.underlying xt = some (.slice e)) (hz : (P.info? e).map (·.size) = some sz)
    (h0 : 0 ≤ h) (h1 : h ≤ m) (h2 : m ≤ c) : ValOf P N ds t M ⟨some d, .slice xt x none (some hi) (some mx), ty, pos, aft, none⟩ (.slice (some ⟨b, o, none⟩) h.toNat m.toNat) := by
  have := vo_sliceHM (P := P) (N := N) (ds := ds) (M := M) (ty := ty) (pos := pos) (aft := aft) (d := d) hx hhi hmx hu hz h0 h1 h2
  rwa [sliced_zero] at this
end
section
variable {P : Program} {r : Option Nat} {N : Nat} {ds : List Deferred} {ops : Array Oper} {Q : Post} {t : Fm}
variable {w0 : World} {E Z0 Z : Nat → Prop} {wz : World} {L : List Res}
/-- a row that is not empty, with what its room allows -/
theorem JL_rowSome2 {v : Value} {e : TypeId} {sz n : Nat} {xs : List Value} {l : List Oper} (hm : Res.row v e sz n xs ∈ L) (hn : 0 < n) (h : ∀ g c, v = .slice (some ⟨g, 0, none⟩) n c → n ≤ c → c ≤ 9223372036854775807 → JL P r N ds ops Q l t (Mem w0 E Z0 Z wz L)) : JL P r N ds ops Q l t (Mem w0 E Z0 Z wz L) := fun a w ha hw => by
  rcases (hw.own _ hm).2 with ⟨rfl, h0⟩ | ⟨g, cap, cur, rfl, _, _, hc, hm, _⟩
  · omega
  · exact h _ _ rfl hc hm a w ha hw
end
end Go.Eng

set_option linter.unusedVariables false
set_option linter.unusedSimpArgs false
namespace Go.Eng
open Go Go.RowKit Go.Proofs
theorem ap22 : (Try.prog.info? 22).map (fun i => (i.zero, i.size, i.bytes)) = some (some (.slice none 0 0), 1, 24) := by kernel_rfl
theorem ap3 : (Try.prog.info? 3).map (fun i => (i.zero, i.size, i.bytes)) = some (some (.int .i64 0), 1, 8) := by kernel_rfl
theorem en72 : Enters Try.prog 72 := ⟨_, Try.func72, by kernel_rfl, by kernel_rfl⟩
theorem fo40_6 : fieldOff Try.prog 40 6 = some 6 := by kernel_rfl
theorem fo40_7 : fieldOff Try.prog 40 7 = some 7 := by kernel_rfl
theorem sz22 : (Try.prog.info? 22).map (·.size) = some 1 := by kernel_rfl
theorem sz26 : (Try.prog.info? 26).map (·.size) = some 1 := by kernel_rfl
theorem sz29 : (Try.prog.info? 29).map (·.size) = some 1 := by kernel_rfl
theorem zr22 : (Try.prog.info? 22).bind (·.zero) = some (.slice none 0 0) := by kernel_rfl
theorem zr3 : (Try.prog.info? 3).bind (·.zero) = some (.int .i64 0) := by kernel_rfl

set_option maxRecDepth 8000 in
set_option maxHeartbeats 1000000 in
theorem samemoves_spec (l1 l2 : List (ByteArray × ByteArray)) (v1 v2 : Value) (w : World) (hr1 : RItems (fun b => b < w.heap.size) w 2 mvC l1 v1) (hr2 : RItems (fun b => b < w.heap.size) w 2 mvC l2 v2) : SCalls Try.prog 10 #[v1, v2] w (fun u => u = .bool (decide (l1 = l2))) := by
  obtain ⟨A1, c1, rfl, hn1⟩ := hr1.slice
  obtain ⟨A2, c2, rfl, hn2⟩ := hr2.slice
  refine enter (N := 26) Try.func10 rfl Try.ntmps10 (Nat.le_of_ble_eq_true rfl) [(0, .slice A1 l1.length c1), (1, .slice A2 l2.length c2)] (by repeat (first | exact trivial | refine ⟨rfl, ?_⟩)) (Mem.start w (fun _ => False) (fun b => b < w.heap.size) (fun _ h => h)) ?_
  refine JC_seq ?_
  refine JC_region ?_
  refine JL_v (vo_assign rfl) nofun (by decide) ?_
  refine JL_nil ?_
  refine JX_then ?_
  refine JC_seq ?_
  refine JC_seq ?_
  refine JC_region ?_
  refine JL_v (vo_move rfl) nofun (by decide) ?_
  refine JL_v (vo_len rfl Try.underlying42) nofun (by decide) ?_
  refine JL_v (vo_move rfl) nofun (by decide) ?_
  refine JL_v (vo_len rfl Try.underlying42) nofun (by decide) ?_
  refine JL_v (vo_cmp rfl rfl rfl) nofun (by decide) ?_
  refine JL_nil ?_
  refine JX_then ?_
  refine JC_cond _ rfl (fun hc10 => ?_) (fun hc10 => ?_)
  · refine JC_seq ?_
    refine JC_region ?_
    refine JL_v (vo_assign rfl) nofun (by decide) ?_
    refine JL_nil ?_
    refine JX_then ?_
    refine JC_ret ?_
    refine JX_then_ret ?_
    refine ret1 rfl rfl ?_
    intro w1 hM
    refine SC_end hM ?_
    rw [decide_eq_false]
    intro e
    subst e
    simp at hc10
  · refine JC_skip ?_
    refine JX_then ?_
    refine JC_seq ?_
    refine JC_seq ?_
    refine JC_region ?_
    refine JL_v (vo_assign rfl) nofun (by decide) ?_
    refine JL_nil ?_
    refine JX_then ?_
    refine JC_block ?_
    have hlen : l1.length = l2.length := by simp at hc10; omega
    refine JC_loop (α := { i : Nat // i ≤ l1.length ∧ l1.take i = l2.take i }) (fun i => [(0, .slice A1 l1.length c1), (1, .slice A2 l2.length c2), (5, .int .i64 i.1)]) (fun i => Mem w (fun _ => False) (fun b => b < w.heap.size) (fun b => b < w.heap.size) w []) (fun i => l1.length - i.1) ⟨0, by omega, by simp⟩ (by repeat (first | exact trivial | refine ⟨rfl, ?_⟩ | refine ⟨trivial, ?_⟩)) (fun w hw => hw) ?_
    rintro ⟨i, hile, hinv⟩
    dsimp only
    refine JC_seq ?_
    refine JC_seq ?_
    refine JC_region ?_
    refine JL_v (vo_move rfl) nofun (by decide) ?_
    refine JL_v (vo_move rfl) nofun (by decide) ?_
    refine JL_v (vo_len rfl Try.underlying42) nofun (by decide) ?_
    refine JL_v (vo_cmp rfl rfl rfl) nofun (by decide) ?_
    refine JL_nil ?_
    refine JX_then ?_
    refine JC_cond _ rfl (fun hc14 => ?_) (fun hc14 => ?_)
    · have hil : i < l1.length := by simp at hc14; omega
      obtain ⟨x, hx⟩ : ∃ x, l1[i]? = some x := ⟨_, List.getElem?_eq_getElem hil⟩
      obtain ⟨y, hy⟩ : ∃ y, l2[i]? = some y := ⟨_, List.getElem?_eq_getElem (by omega)⟩
      obtain ⟨b1', o1', c1', cs1, te1, fr1, hv1, hfb1, hseg1⟩ := hr1.at_ hx
      cases hv1
      obtain ⟨b2', o2', c2', cs2, te2, fr2, hv2, hfb2, hseg2⟩ := hr2.at_ hy
      cases hv2
      refine JC_skip ?_
      refine JX_then ?_
      refine JC_seq ?_
      refine JC_block ?_
      refine JC_seq ?_
      refine JC_drawM 9 (by kernel_rfl) (fun w hw => Mem.drew hw) ?_
      refine JR_v (i := 0) rfl (by kernel_rfl) (by kernel_rfl) rfl (by kernel_rfl) (by kernel_rfl) (panic_Then (panic_block (panic_Then (panic_then (panic_block (panic_Then panic_body)))))) (by decide) (vo_move rfl) (fun w hw => hw) ?_
      refine JR_v (i := 1) rfl (by kernel_rfl) (by kernel_rfl) rfl (by kernel_rfl) (by kernel_rfl) (panic_Then (panic_block (panic_Then (panic_then (panic_block (panic_Then panic_body)))))) (by decide) (vo_move rfl) (fun w hw => hw) ?_
      refine JR_v (i := 2) rfl (by kernel_rfl) (by kernel_rfl) rfl (by kernel_rfl) (by kernel_rfl) (panic_Then (panic_block (panic_Then (panic_then (panic_block (panic_Then panic_body)))))) (by decide) (vo_indexAddr rfl rfl Try.underlying42 sz48 (by omega) (by omega)) (fun w hw => hw) ?_
      refine JR_v (i := 3) rfl (by kernel_rfl) (by kernel_rfl) rfl (by kernel_rfl) (by kernel_rfl) (panic_Then (panic_block (panic_Then (panic_then (panic_block (panic_Then panic_body)))))) (by decide) (vo_load rfl (by first | exact .frz ‹_› | exact .own (by repeat (first | exact .head _ | refine .tail _ ?_))) (by first | exact PartAt.whole Try.underlying48 rfl sz48 | exact .seg (l := mvC x) hseg1 Try.underlying48 rfl sz48 | exact .seg (l := mvC y) hseg2 Try.underlying48 rfl sz48)) (fun w hw => hw) ?_
      refine JR_v (i := 4) rfl (by kernel_rfl) (by kernel_rfl) rfl (by kernel_rfl) (by kernel_rfl) (panic_Then (panic_block (panic_Then (panic_then (panic_block (panic_Then panic_body)))))) (by decide) (vo_move rfl) (fun w hw => hw) ?_
      refine JR_v (i := 5) rfl (by kernel_rfl) (by kernel_rfl) rfl (by kernel_rfl) (by kernel_rfl) (panic_Then (panic_block (panic_Then (panic_then (panic_block (panic_Then panic_body)))))) (by decide) (vo_move rfl) (fun w hw => hw) ?_
      refine JR_v (i := 6) rfl (by kernel_rfl) (by kernel_rfl) rfl (by kernel_rfl) (by kernel_rfl) (panic_Then (panic_block (panic_Then (panic_then (panic_block (panic_Then panic_body)))))) (by decide) (vo_indexAddr rfl rfl Try.underlying42 sz48 (by omega) (by omega)) (fun w hw => hw) ?_
      refine JR_v (i := 7) rfl (by kernel_rfl) (by kernel_rfl) rfl (by kernel_rfl) (by kernel_rfl) (panic_Then (panic_block (panic_Then (panic_then (panic_block (panic_Then panic_body)))))) (by decide) (vo_load rfl (by first | exact .frz ‹_› | exact .own (by repeat (first | exact .head _ | refine .tail _ ?_))) (by first | exact PartAt.whole Try.underlying48 rfl sz48 | exact .seg (l := mvC x) hseg1 Try.underlying48 rfl sz48 | exact .seg (l := mvC y) hseg2 Try.underlying48 rfl sz48)) (fun w hw => hw) ?_
      refine JR_v (i := 8) rfl (by kernel_rfl) (by kernel_rfl) rfl (by kernel_rfl) (by kernel_rfl) (panic_Then (panic_block (panic_Then (panic_then (panic_block (panic_Then panic_body)))))) (by decide) (vo_eqS rfl rfl rfl eg48 (eqv48 _ _)) (fun w hw => hw) ?_
      refine JR_done (by kernel_rfl) ?_
      refine JX_then ?_
      refine JC_cond _ rfl (fun hc25 => ?_) (fun hc25 => ?_)
      · refine JC_seq ?_
        refine JC_region ?_
        refine JL_v (vo_assign rfl) nofun (by decide) ?_
        refine JL_nil ?_
        refine JX_then ?_
        refine JC_ret ?_
        refine JX_block_ret ?_
        refine JX_then_ret ?_
        refine JX_thenK_ret ?_
        refine JX_block_ret ?_
        refine JX_then_ret ?_
        refine ret1 rfl rfl ?_
        intro w1 hM
        refine SC_end hM ?_
        have hxy : ¬ x = y := by simpa [mvEq_dec] using hc25
        rw [decide_eq_false]
        intro e
        subst e
        rw [hx] at hy
        cases hy
        exact hxy rfl
      · refine JC_skip ?_
        refine JX_block ?_
        refine JX_then ?_
        refine JC_region ?_
        refine JL_v (vo_move rfl) nofun (by decide) ?_
        refine JL_v (vo_add rfl rfl (by omega) (by omega)) nofun (by decide) ?_
        refine JL_v (vo_assign rfl) nofun (by decide) ?_
        refine JL_nil ?_
        have hxy : x = y := by simpa [mvEq_dec] using hc25
        subst hxy
        refine JX_loop ⟨i + 1, hil, by rw [take_snoc_get hx, take_snoc_get hy, hinv]⟩ (by show l1.length - (i + 1) < l1.length - i; omega) (by repeat (first | exact trivial | refine ⟨rfl, ?_⟩ | refine ⟨trivial, ?_⟩)) (fun w hw => hw)
    · refine JC_exit ?_
      refine JX_then_exit ?_
      refine JX_thenK_exit ?_
      refine JX_block_exit ?_
      refine JX_then ?_
      refine JC_seq ?_
      refine JC_region ?_
      refine JL_v (vo_assign rfl) nofun (by decide) ?_
      refine JL_nil ?_
      refine JX_then ?_
      refine JC_ret ?_
      refine ret1 rfl rfl ?_
      intro w1 hM
      have hi : i = l1.length := by simp at hc14; omega
      subst hi
      refine SC_end hM ?_
      rw [decide_eq_true]
      rw [List.take_length, hlen, List.take_length] at hinv
      exact hinv
set_option maxRecDepth 8000 in
set_option maxHeartbeats 1000000 in
theorem same_spec (l1 l2 : List Chg) (v1 v2 : Value) (w : World) (hr1 : RItems (fun b => b < w.heap.size) w 71 chC l1 v1) (hr2 : RItems (fun b => b < w.heap.size) w 71 chC l2 v2) : SCalls Try.prog 11 #[v1, v2] w (fun u => u = .bool (decide (l1 = l2))) := by
  obtain ⟨A1, c1, rfl, hn1⟩ := hr1.slice
  obtain ⟨A2, c2, rfl, hn2⟩ := hr2.slice
  refine enter (N := 26) Try.func11 rfl Try.ntmps11 (Nat.le_of_ble_eq_true rfl) [(0, .slice A1 l1.length c1), (1, .slice A2 l2.length c2)] (by repeat (first | exact trivial | refine ⟨rfl, ?_⟩)) (Mem.start w (fun _ => False) (fun b => b < w.heap.size) (fun _ h => h)) ?_
  refine JC_seq ?_
  refine JC_region ?_
  refine JL_v (vo_assign rfl) nofun (by decide) ?_
  refine JL_nil ?_
  refine JX_then ?_
  refine JC_seq ?_
  refine JC_seq ?_
  refine JC_region ?_
  refine JL_v (vo_move rfl) nofun (by decide) ?_
  refine JL_v (vo_len rfl Try.underlying22) nofun (by decide) ?_
  refine JL_v (vo_move rfl) nofun (by decide) ?_
  refine JL_v (vo_len rfl Try.underlying22) nofun (by decide) ?_
  refine JL_v (vo_cmp rfl rfl rfl) nofun (by decide) ?_
  refine JL_nil ?_
  refine JX_then ?_
  refine JC_cond _ rfl (fun hc10 => ?_) (fun hc10 => ?_)
  · refine JC_seq ?_
    refine JC_region ?_
    refine JL_v (vo_assign rfl) nofun (by decide) ?_
    refine JL_nil ?_
    refine JX_then ?_
    refine JC_ret ?_
    refine JX_then_ret ?_
    refine ret1 rfl rfl ?_
    intro w1 hM
    refine SC_end hM ?_
    rw [decide_eq_false]
    intro e
    subst e
    simp at hc10
  · refine JC_skip ?_
    refine JX_then ?_
    refine JC_seq ?_
    refine JC_seq ?_
    refine JC_region ?_
    refine JL_v (vo_assign rfl) nofun (by decide) ?_
    refine JL_nil ?_
    refine JX_then ?_
    refine JC_block ?_
    have hlen : l1.length = l2.length := by simp at hc10; omega
    refine JC_loop (α := { i : Nat // i ≤ l1.length ∧ l1.take i = l2.take i }) (fun i => [(0, .slice A1 l1.length c1), (1, .slice A2 l2.length c2), (5, .int .i64 i.1)]) (fun i => Mem w (fun _ => False) (fun b => b < w.heap.size) (fun b => b < w.heap.size) w []) (fun i => l1.length - i.1) ⟨0, by omega, by simp⟩ (by repeat (first | exact trivial | refine ⟨rfl, ?_⟩ | refine ⟨trivial, ?_⟩)) (fun w hw => hw) ?_
    rintro ⟨i, hile, hinv⟩
    dsimp only
    refine JC_seq ?_
    refine JC_seq ?_
    refine JC_region ?_
    refine JL_v (vo_move rfl) nofun (by decide) ?_
    refine JL_v (vo_move rfl) nofun (by decide) ?_
    refine JL_v (vo_len rfl Try.underlying22) nofun (by decide) ?_
    refine JL_v (vo_cmp rfl rfl rfl) nofun (by decide) ?_
    refine JL_nil ?_
    refine JX_then ?_
    refine JC_cond _ rfl (fun hc14 => ?_) (fun hc14 => ?_)
    · have hil : i < l1.length := by simp at hc14; omega
      obtain ⟨x, hx⟩ : ∃ x, l1[i]? = some x := ⟨_, List.getElem?_eq_getElem hil⟩
      obtain ⟨y, hy⟩ : ∃ y, l2[i]? = some y := ⟨_, List.getElem?_eq_getElem (by omega)⟩
      obtain ⟨b1', o1', c1', cs1, te1, fr1, hv1, hfb1, hseg1⟩ := hr1.at_ hx
      cases hv1
      obtain ⟨b2', o2', c2', cs2, te2, fr2, hv2, hfb2, hseg2⟩ := hr2.at_ hy
      cases hv2
      refine JC_skip ?_
      refine JX_then ?_
      refine JC_seq ?_
      refine JC_block ?_
      refine JC_seq ?_
      refine JC_drawM 9 (by kernel_rfl) (fun w hw => Mem.drew hw) ?_
      refine JR_v (i := 0) rfl (by kernel_rfl) (by kernel_rfl) rfl (by kernel_rfl) (by kernel_rfl) (panic_Then (panic_block (panic_Then (panic_then (panic_block (panic_Then panic_body)))))) (by decide) (vo_move rfl) (fun w hw => hw) ?_
      refine JR_v (i := 1) rfl (by kernel_rfl) (by kernel_rfl) rfl (by kernel_rfl) (by kernel_rfl) (panic_Then (panic_block (panic_Then (panic_then (panic_block (panic_Then panic_body)))))) (by decide) (vo_move rfl) (fun w hw => hw) ?_
      refine JR_v (i := 2) rfl (by kernel_rfl) (by kernel_rfl) rfl (by kernel_rfl) (by kernel_rfl) (panic_Then (panic_block (panic_Then (panic_then (panic_block (panic_Then panic_body)))))) (by decide) (vo_indexAddr rfl rfl Try.underlying22 sz53 (by omega) (by omega)) (fun w hw => hw) ?_
      refine JR_v (i := 3) rfl (by kernel_rfl) (by kernel_rfl) rfl (by kernel_rfl) (by kernel_rfl) (panic_Then (panic_block (panic_Then (panic_then (panic_block (panic_Then panic_body)))))) (by decide) (vo_load rfl (by first | exact .frz ‹_› | exact .own (by repeat (first | exact .head _ | refine .tail _ ?_))) (by first | exact PartAt.whole Try.underlying53 rfl sz53 | exact .seg (l := chC x) hseg1 Try.underlying53 rfl sz53 | exact .seg (l := chC y) hseg2 Try.underlying53 rfl sz53)) (fun w hw => hw) ?_
      refine JR_v (i := 4) rfl (by kernel_rfl) (by kernel_rfl) rfl (by kernel_rfl) (by kernel_rfl) (panic_Then (panic_block (panic_Then (panic_then (panic_block (panic_Then panic_body)))))) (by decide) (vo_move rfl) (fun w hw => hw) ?_
      refine JR_v (i := 5) rfl (by kernel_rfl) (by kernel_rfl) rfl (by kernel_rfl) (by kernel_rfl) (panic_Then (panic_block (panic_Then (panic_then (panic_block (panic_Then panic_body)))))) (by decide) (vo_move rfl) (fun w hw => hw) ?_
      refine JR_v (i := 6) rfl (by kernel_rfl) (by kernel_rfl) rfl (by kernel_rfl) (by kernel_rfl) (panic_Then (panic_block (panic_Then (panic_then (panic_block (panic_Then panic_body)))))) (by decide) (vo_indexAddr rfl rfl Try.underlying22 sz53 (by omega) (by omega)) (fun w hw => hw) ?_
      refine JR_v (i := 7) rfl (by kernel_rfl) (by kernel_rfl) rfl (by kernel_rfl) (by kernel_rfl) (panic_Then (panic_block (panic_Then (panic_then (panic_block (panic_Then panic_body)))))) (by decide) (vo_load rfl (by first | exact .frz ‹_› | exact .own (by repeat (first | exact .head _ | refine .tail _ ?_))) (by first | exact PartAt.whole Try.underlying53 rfl sz53 | exact .seg (l := chC x) hseg1 Try.underlying53 rfl sz53 | exact .seg (l := chC y) hseg2 Try.underlying53 rfl sz53)) (fun w hw => hw) ?_
      refine JR_v (i := 8) rfl (by kernel_rfl) (by kernel_rfl) rfl (by kernel_rfl) (by kernel_rfl) (panic_Then (panic_block (panic_Then (panic_then (panic_block (panic_Then panic_body)))))) (by decide) (vo_eqS rfl rfl rfl eg53 (eqv53 _ _)) (fun w hw => hw) ?_
      refine JR_done (by kernel_rfl) ?_
      refine JX_then ?_
      refine JC_cond _ rfl (fun hc25 => ?_) (fun hc25 => ?_)
      · refine JC_seq ?_
        refine JC_region ?_
        refine JL_v (vo_assign rfl) nofun (by decide) ?_
        refine JL_nil ?_
        refine JX_then ?_
        refine JC_ret ?_
        refine JX_block_ret ?_
        refine JX_then_ret ?_
        refine JX_thenK_ret ?_
        refine JX_block_ret ?_
        refine JX_then_ret ?_
        refine ret1 rfl rfl ?_
        intro w1 hM
        refine SC_end hM ?_
        have hxy : ¬ x = y := by simpa [chEq_dec] using hc25
        rw [decide_eq_false]
        intro e
        subst e
        rw [hx] at hy
        cases hy
        exact hxy rfl
      · refine JC_skip ?_
        refine JX_block ?_
        refine JX_then ?_
        refine JC_region ?_
        refine JL_v (vo_move rfl) nofun (by decide) ?_
        refine JL_v (vo_add rfl rfl (by omega) (by omega)) nofun (by decide) ?_
        refine JL_v (vo_assign rfl) nofun (by decide) ?_
        refine JL_nil ?_
        have hxy : x = y := by simpa [chEq_dec] using hc25
        subst hxy
        refine JX_loop ⟨i + 1, hil, by rw [take_snoc_get hx, take_snoc_get hy, hinv]⟩ (by show l1.length - (i + 1) < l1.length - i; omega) (by repeat (first | exact trivial | refine ⟨rfl, ?_⟩ | refine ⟨trivial, ?_⟩)) (fun w hw => hw)
    · refine JC_exit ?_
      refine JX_then_exit ?_
      refine JX_thenK_exit ?_
      refine JX_block_exit ?_
      refine JX_then ?_
      refine JC_seq ?_
      refine JC_region ?_
      refine JL_v (vo_assign rfl) nofun (by decide) ?_
      refine JL_nil ?_
      refine JX_then ?_
      refine JC_ret ?_
      refine ret1 rfl rfl ?_
      intro w1 hM
      have hi : i = l1.length := by simp at hc14; omega
      subst hi
      refine SC_end hM ?_
      rw [decide_eq_true]
      rw [List.take_length, hlen, List.take_length] at hinv
      exact hinv
set_option maxRecDepth 8000 in
set_option maxHeartbeats 1000000 in
theorem lay_spec (rm : Nat) (v6 v7 : Value) (n6 n7 : Nat) (xs6 xs7 : List Value) (l : List Chg) (v : Value) (hl : l.length ≤ 1000000) (hn6 : n6 ≤ 1000000) (hn7 : n7 ≤ 1000000) (w : World) (hL : Holds [.blk rm (roomO v6 v7), .row v6 22 1 n6 xs6, .row v7 3 1 n7 xs7] w) (hr : RItems (ZL [.blk rm (roomO v6 v7), .row v6 22 1 n6 xs6, .row v7 3 1 n7 xs7] w) w 71 chC l v) : MCalls Try.prog 29 #[.pointer (some ⟨rm, 0, none⟩), v, .int .i64 40] w [.blk rm (roomO v6 v7), .row v6 22 1 n6 xs6, .row v7 3 1 n7 xs7] (fun u L' => ∃ g cap v6' v7', u = .slice (some ⟨g, 0, none⟩) l.length (l.length + 40) ∧ l.length + 40 ≤ cap ∧ cap ≤ 9223372036854775807 ∧ L' = [.row (.slice (some ⟨g, 0, none⟩) (l.length + 40) cap) 53 71 (l.length + 40) ((l ++ sparesC 40).flatMap chC), .blk rm (roomO v6' v7'), .row v6' 22 1 (n6 + 1) (xs6 ++ [.slice (some ⟨g, 0, none⟩) (l.length + 40) cap]), .row v7' 3 1 (n7 + 1) (xs7 ++ [.int .i64 l.length])]) := by
  obtain ⟨A, c, rfl, hlen⟩ := hr.slice
  obtain ⟨L, hLe⟩ : ∃ L : List Res, L = [.blk rm (roomO v6 v7), .row v6 22 1 n6 xs6, .row v7 3 1 n7 xs7] := ⟨_, rfl⟩
  have hM0 : Mem w (EL L) (ZL L w) (ZL L w) w [.blk rm (roomO v6 v7), .row v6 22 1 n6 xs6, .row v7 3 1 n7 xs7] w := by
    have := Mem.startL (hLe ▸ hL)
    rw [hLe] at this ⊢
    exact this
  rw [← hLe] at hr ⊢
  refine enter (N := 51) Try.func29 rfl Try.ntmps29 (Nat.le_of_ble_eq_true rfl) [(0, .pointer (some ⟨rm, 0, none⟩)), (1, .slice A l.length c), (2, .int .i64 40)] (by repeat (first | exact trivial | refine ⟨rfl, ?_⟩)) (hM0) ?_
  refine JC_seq ?_
  refine JC_region ?_
  refine JL_v (vo_assign rfl) nofun (by decide) ?_
  refine JL_nil ?_
  refine JX_then ?_
  refine JC_seq ?_
  refine JC_region ?_
  refine st_bslice0 Try.underlying22 zr53 sz53 (by decide) (by decide) (fun v9 => ?_)
  refine JL_v (vo_assign rfl) nofun (by decide) ?_
  refine JL_nil ?_
  refine JX_then ?_
  refine JC_seq ?_
  refine JC_region ?_
  refine JL_v (vo_move rfl) nofun (by decide) ?_
  refine JL_v (vo_move rfl) nofun (by decide) ?_
  refine st_of_do rfl nofun rfl (by decide) (do_appendItems chC_length (by decide) chC_one rfl rfl hr Try.underlying22 ap53 zero53 (by repeat (first | exact .head _ | apply TurnF.tail)) (by omega) (by decide)) (fun v12 => ?_)
  simp only [Nat.zero_add, List.nil_append]
  refine JL_v (vo_assign rfl) nofun (by decide) ?_
  refine JL_nil ?_
  refine JX_then ?_
  refine JC_seq ?_
  refine JC_seq ?_
  refine JC_region ?_
  refine JL_v (vo_assign rfl) nofun (by decide) ?_
  refine JL_nil ?_
  refine JX_then ?_
  refine JC_block ?_
  refine JC_loop (α := { x : Nat × Value // x.1 ≤ 40 }) (fun x => [(0, .pointer (some ⟨rm, 0, none⟩)), (1, .slice A l.length c), (2, .int .i64 40), (7, x.1.2), (8, .int .i64 x.1.1)]) (fun x => Mem w (EL L) (ZL L w) (ZL L w) w  [.row x.1.2 53 71 (l.length + x.1.1) ((l ++ sparesC x.1.1).flatMap chC), .blk rm (roomO v6 v7), .row v6 22 1 n6 xs6, .row v7 3 1 n7 xs7]) (fun x => 40 - x.1.1) ⟨(0, v12), by simp⟩ (by repeat (first | exact trivial | refine ⟨rfl, ?_⟩ | refine ⟨trivial, ?_⟩)) (fun w hw => by simpa [sparesC] using hw) ?_
  rintro ⟨⟨i, vf⟩, hi⟩
  dsimp only at hi ⊢
  refine JC_seq ?_
  refine JC_seq ?_
  refine JC_region ?_
  refine JL_v (vo_move rfl) nofun (by decide) ?_
  refine JL_v (vo_move rfl) nofun (by decide) ?_
  refine JL_v (vo_cmp rfl rfl rfl) nofun (by decide) ?_
  refine JL_nil ?_
  refine JX_then ?_
  refine JC_cond _ rfl (fun hc15 => ?_) (fun hc15 => ?_)
  · have hi40 : i < 40 := by simp at hc15; omega
    refine JC_skip ?_
    refine JX_then ?_
    refine JC_seq ?_
    refine JC_block ?_
    refine JC_region ?_
    refine JL_v (vo_move rfl) nofun (by decide) ?_
    refine JL_v (vo_move rfl) nofun (by decide) ?_
    refine st_scall rfl en72 (by decide) (fun w hw => word_spec i (by omega) w) ?_
    rintro _ rfl
    refine JL_v (vo_build rfl (by first | exact bl53 _)) nofun (by decide) ?_
    refine st_bslice1 rfl Try.underlying22 (by first | exact zr53) sz53 (by exact Nat.le_of_ble_eq_true rfl) (by exact Nat.ne_of_gt (Nat.le_of_ble_eq_true rfl)) (by decide) (fun b22 => ?_)
    refine st_appendB rfl rfl Try.underlying22 ap53 (by rfl) (by decide) (by first | exact .frz ‹_› | exact .own (by repeat (first | exact .head _ | refine .tail _ ?_))) (by repeat (first | exact .head _ | apply TurnF.tail)) (by rfl) (by first | exact one_of_all rfl | assumption) (by omega) (by decide) (by decide) (fun v23 => ?_)
    refine JL_v (vo_assign rfl) nofun (by decide) ?_
    refine JL_nil ?_
    refine JX_block ?_
    refine JX_then ?_
    refine JC_region ?_
    refine JL_v (vo_move rfl) nofun (by decide) ?_
    refine JL_v (vo_add rfl rfl (by omega) (by omega)) nofun (by decide) ?_
    refine JL_v (vo_assign rfl) nofun (by decide) ?_
    refine JL_nil ?_
    refine JX_loop ⟨(i + 1, v23), hi40⟩ (by show 40 - (i + 1) < 40 - i; omega) (by repeat (first | exact trivial | refine ⟨rfl, ?_⟩ | refine ⟨trivial, ?_⟩)) (fun w hw => ?_)
    have e1 : (l ++ sparesC (i + 1)).flatMap chC = (l ++ sparesC i).flatMap chC ++ (Value.cells (.agg (chC ⟨wordP i, zeroVal, zeroVal⟩).toArray)).toList := by rw [sparesC_succ, ← List.append_assoc, List.flatMap_append]; simp [spareC, Value.cells]
    dsimp only
    rw [e1]
    exact hw.sub (.cons _ (List.Sublist.refl _))
  · refine JC_exit ?_
    refine JX_then_exit ?_
    refine JX_thenK_exit ?_
    refine JX_block_exit ?_
    refine JX_then ?_
    refine JC_seq ?_
    refine JC_region ?_
    have hie : i = 40 := by simp at hc15; omega
    subst hie
    refine JL_rowSome2 (v := vf) (e := 53) (sz := 71) (n := l.length + 40) (xs := (l ++ sparesC 40).flatMap chC) (.head _) (by omega) (fun g cap hvf hgc hgm => ?_)
    subst hvf
    refine JL_v (vo_move rfl) nofun (by decide) ?_
    refine JL_v (vo_move rfl) nofun (by decide) ?_
    refine JL_v ((by first | exact vo_nilCheck rfl | exact vo_nilCheckF rfl)) nofun (by decide) ?_
    refine JL_v (vo_fieldAddr rfl fo40_6) nofun (by decide) ?_
    refine JL_v (vo_load rfl (by first | exact .frz ‹_› | exact .own (by repeat (first | exact .head _ | refine .tail _ ?_))) (by first | exact .cell Try.underlying29 rfl rfl)) nofun (by decide) ?_
    refine JL_v (vo_move rfl) nofun (by decide) ?_
    refine st_bslice1 rfl Try.underlying29 (by first | exact zr22) sz22 (by exact Nat.le_of_ble_eq_true rfl) (by exact Nat.ne_of_gt (Nat.le_of_ble_eq_true rfl)) (by decide) (fun b30 => ?_)
    refine st_appendB rfl rfl Try.underlying29 ap22 (by rfl) (by decide) (by first | exact .frz ‹_› | exact .own (by repeat (first | exact .head _ | refine .tail _ ?_))) (by repeat (first | exact .head _ | apply TurnF.tail)) (by rfl) (by first | exact one_of_all rfl | assumption) (by omega) (by decide) (by decide) (fun v31 => ?_)
    refine JL_rowSome2 (v := v31) (e := 22) (sz := 1) (n := n6 + 1) (xs := xs6 ++ [.slice (some ⟨g, 0, none⟩) (l.length + 40) cap]) (by repeat (first | exact .head _ | apply List.Mem.tail)) (by omega) (fun g6 cap6 hv6 _ _ => ?_)
    subst hv6
    refine JL_v ((by first | exact vo_nilCheck rfl | exact vo_nilCheckF rfl)) nofun (by decide) ?_
    refine JL_v (vo_fieldAddr rfl fo40_6) nofun (by decide) ?_
    refine st_store rfl rfl sz29 (by exact one_of_all rfl) (cs' := (roomL (.slice (some ⟨g6, 0, none⟩) (n6 + 1) cap6) v7).toArray) (cs := (roomL v6 v7).toArray) (te := 40) (by repeat (first | exact .head _ _ _ | apply Turn.tail)) (by exact Nat.le_of_ble_eq_true rfl) (by rfl) ?_
    refine JL_nil ?_
    refine JX_then ?_
    refine JC_seq ?_
    refine JC_region ?_
    refine JL_v (vo_move rfl) nofun (by decide) ?_
    refine JL_v (vo_move rfl) nofun (by decide) ?_
    refine JL_v ((by first | exact vo_nilCheck rfl | exact vo_nilCheckF rfl)) nofun (by decide) ?_
    refine JL_v (vo_fieldAddr rfl fo40_7) nofun (by decide) ?_
    refine JL_v (vo_load rfl (by first | exact .frz ‹_› | exact .own (by repeat (first | exact .head _ | refine .tail _ ?_))) (by first | exact .cell Try.underlying26 rfl rfl)) nofun (by decide) ?_
    refine JL_v (vo_move rfl) nofun (by decide) ?_
    refine JL_v (vo_len rfl Try.underlying22) nofun (by decide) ?_
    refine st_bslice1 rfl Try.underlying26 (by first | exact zr3) sz3 (by exact Nat.le_of_ble_eq_true rfl) (by exact Nat.ne_of_gt (Nat.le_of_ble_eq_true rfl)) (by decide) (fun b41 => ?_)
    refine st_appendB rfl rfl Try.underlying26 ap3 (by rfl) (by decide) (by first | exact .frz ‹_› | exact .own (by repeat (first | exact .head _ | refine .tail _ ?_))) (by repeat (first | exact .head _ | apply TurnF.tail)) (by rfl) (by first | exact one_of_all rfl | assumption) (by omega) (by decide) (by decide) (fun v42 => ?_)
    refine JL_rowSome2 (v := v42) (e := 3) (sz := 1) (n := n7 + 1) (xs := xs7 ++ [.int .i64 l.length]) (by repeat (first | exact .head _ | apply List.Mem.tail)) (by omega) (fun g7 cap7 hv7 _ _ => ?_)
    subst hv7
    refine JL_v ((by first | exact vo_nilCheck rfl | exact vo_nilCheckF rfl)) nofun (by decide) ?_
    refine JL_v (vo_fieldAddr rfl fo40_7) nofun (by decide) ?_
    refine st_store rfl rfl sz26 (by exact one_of_all rfl) (cs' := (roomL (.slice (some ⟨g6, 0, none⟩) (n6 + 1) cap6) (.slice (some ⟨g7, 0, none⟩) (n7 + 1) cap7)).toArray) (cs := (roomL (.slice (some ⟨g6, 0, none⟩) (n6 + 1) cap6) v7).toArray) (te := 40) (by repeat (first | exact .head _ _ _ | apply Turn.tail)) (by exact Nat.le_of_ble_eq_true rfl) (by rfl) ?_
    refine JL_nil ?_
    refine JX_then ?_
    refine JC_seq ?_
    refine JC_region ?_
    refine JL_v (vo_move rfl) nofun (by decide) ?_
    refine JL_v (vo_move rfl) nofun (by decide) ?_
    refine JL_v (vo_len rfl Try.underlying22) nofun (by decide) ?_
    refine JL_v (vo_move rfl) nofun (by decide) ?_
    refine JL_v (vo_len rfl Try.underlying22) nofun (by decide) ?_
    refine JL_v (vo_sliceHM0 rfl rfl rfl Try.underlying22 sz53 (by omega) (by omega) (by omega)) nofun (by decide) ?_
    refine JL_v (vo_assign rfl) nofun (by decide) ?_
    refine JL_nil ?_
    refine JX_then ?_
    refine JC_ret ?_
    refine ret1 rfl rfl ?_
    intro w1 hM
    have := hM.sub (L' := _) (.cons _ (.cons _ (List.Sublist.refl _)))
    exact MC_end this ⟨g, cap, _, _, rfl, hgc, hgm, rfl⟩

end Go.Eng

set_option linter.unusedVariables false
set_option linter.unusedSimpArgs false
namespace Go.Eng
open Go Go.RowKit Go.Proofs
theorem en29 : Enters Try.prog 29 := ⟨_, Try.func29, by kernel_rfl, by kernel_rfl⟩
theorem fo40_0 : fieldOff Try.prog 40 0 = some 0 := by kernel_rfl
theorem fo40_10 : fieldOff Try.prog 40 10 = some 10 := by kernel_rfl
theorem fo40_12 : fieldOff Try.prog 40 12 = some 12 := by kernel_rfl
theorem fo40_14 : fieldOff Try.prog 40 14 = some 14 := by kernel_rfl
theorem fo40_16 : fieldOff Try.prog 40 16 = some 16 := by kernel_rfl
theorem fo40_18 : fieldOff Try.prog 40 18 = some 18 := by kernel_rfl
theorem fo40_2 : fieldOff Try.prog 40 2 = some 2 := by kernel_rfl
theorem fo40_20 : fieldOff Try.prog 40 20 = some 20 := by kernel_rfl
theorem fo40_22 : fieldOff Try.prog 40 22 = some 22 := by kernel_rfl
theorem fo40_24 : fieldOff Try.prog 40 24 = some 24 := by kernel_rfl
theorem fo40_4 : fieldOff Try.prog 40 4 = some 4 := by kernel_rfl
theorem fo40_8 : fieldOff Try.prog 40 8 = some 8 := by kernel_rfl

set_option maxRecDepth 8000 in
set_option maxHeartbeats 1000000 in
theorem lent_spec (rm : Nat) (v6 v7 : Value) (n6 n7 : Nat) (xs6 xs7 : List Value) (l : List Chg) (v : Value) (hl : l.length ≤ 1000000) (hn6 : n6 ≤ 1000000) (hn7 : n7 ≤ 1000000) (w : World) (hL : Holds [.blk rm (roomO v6 v7), .row v6 22 1 n6 xs6, .row v7 3 1 n7 xs7] w) (hr : RItems (ZL [.blk rm (roomO v6 v7), .row v6 22 1 n6 xs6, .row v7 3 1 n7 xs7] w) w 71 chC l v) : MCalls Try.prog 7 #[.pointer (some ⟨rm, 0, none⟩), v] w [.blk rm (roomO v6 v7), .row v6 22 1 n6 xs6, .row v7 3 1 n7 xs7] (fun u L' => ∃ g cap v6' v7', u = .slice (some ⟨g, 0, none⟩) l.length (l.length + 40) ∧ l.length + 40 ≤ cap ∧ cap ≤ 9223372036854775807 ∧ L' = [.row (.slice (some ⟨g, 0, none⟩) (l.length + 40) cap) 53 71 (l.length + 40) ((l ++ sparesC 40).flatMap chC), .blk rm (roomO v6' v7'), .row v6' 22 1 (n6 + 1) (xs6 ++ [.slice (some ⟨g, 0, none⟩) (l.length + 40) cap]), .row v7' 3 1 (n7 + 1) (xs7 ++ [.int .i64 l.length])]) := by
  obtain ⟨A, c, rfl, hlen⟩ := hr.slice
  obtain ⟨L, hLe⟩ : ∃ L : List Res, L = [.blk rm (roomO v6 v7), .row v6 22 1 n6 xs6, .row v7 3 1 n7 xs7] := ⟨_, rfl⟩
  have hM0 : Mem w (EL L) (ZL L w) (ZL L w) w [.blk rm (roomO v6 v7), .row v6 22 1 n6 xs6, .row v7 3 1 n7 xs7] w := by
    have := Mem.startL (hLe ▸ hL)
    rw [hLe] at this ⊢
    exact this
  rw [← hLe] at hr ⊢
  refine enter (N := 8) Try.func7 rfl Try.ntmps7 (Nat.le_of_ble_eq_true rfl) [(0, .pointer (some ⟨rm, 0, none⟩)), (1, .slice A l.length c)] (by repeat (first | exact trivial | refine ⟨rfl, ?_⟩)) (hM0) ?_
  refine JC_seq ?_
  refine JC_region ?_
  refine JL_v (vo_assign rfl) nofun (by decide) ?_
  refine JL_nil ?_
  refine JX_then ?_
  refine JC_seq ?_
  refine JC_region ?_
  refine JL_v (vo_move rfl) nofun (by decide) ?_
  refine JL_v (vo_move rfl) nofun (by decide) ?_
  refine st_mcall [.blk rm (roomO v6 v7), .row v6 22 1 n6 xs6, .row v7 3 1 n7 xs7] [] rfl rfl en29 (by decide) (fun w1 hw => lay_spec rm v6 v7 n6 n7 xs6 xs7 l _ hl hn6 hn7 w1 hw.holds (hr.ext hw.ext_ZL)) ?_
  rintro _ L' ⟨g, cap, v6', v7', rfl, hgc, hgm, rfl⟩
  rw [List.append_nil]
  refine JL_v (vo_assign rfl) nofun (by decide) ?_
  refine JL_nil ?_
  refine JX_then ?_
  refine JC_ret ?_
  refine ret1 rfl rfl ?_
  intro w1 hM; exact MC_end hM ⟨g, cap, _, _, rfl, hgc, hgm, rfl⟩
set_option maxRecDepth 8000 in
set_option maxHeartbeats 1000000 in
theorem hold39_spec (rm : Nat) (v6 v7 : Value) (w : World) (hb : FB (fun b => b < w.heap.size) w rm (roomO v6 v7)) : SCalls Try.prog 39 #[.pointer (some ⟨rm, 0, none⟩)] w (fun u => u = .bool true) := by
  unfold roomO at hb
  refine enter (N := 53) Try.func39 rfl Try.ntmps39 (Nat.le_of_ble_eq_true rfl) [(0, .pointer (some ⟨rm, 0, none⟩))] (by repeat (first | exact trivial | refine ⟨rfl, ?_⟩)) (Mem.start w (fun _ => False) (fun b => b < w.heap.size) (fun _ h => h)) ?_
  refine JC_seq ?_
  refine JC_region ?_
  refine JL_v (vo_assign rfl) nofun (by decide) ?_
  refine JL_nil ?_
  refine JX_then ?_
  refine JC_seq ?_
  refine JC_seq ?_
  refine JC_region ?_
  refine JL_v (vo_assign rfl) nofun (by decide) ?_
  refine JL_nil ?_
  refine JX_then ?_
  refine JC_block ?_
  refine JC_loop (α := Unit) (fun _ => [(0, .pointer (some ⟨rm, 0, none⟩)), (3, .int .i64 0)]) (fun _ => Mem w (fun _ => False) (fun b => b < w.heap.size) (fun b => b < w.heap.size) w  []) (fun _ => 0) () (by repeat (first | exact trivial | refine ⟨rfl, ?_⟩ | refine ⟨trivial, ?_⟩)) (fun w hw => hw) ?_
  rintro _
  refine JC_seq ?_
  refine JC_seq ?_
  refine JC_region ?_
  refine JL_v (vo_move rfl) nofun (by decide) ?_
  refine JL_v (vo_move rfl) nofun (by decide) ?_
  refine JL_v ((by first | exact vo_nilCheck rfl | exact vo_nilCheckF rfl)) nofun (by decide) ?_
  refine JL_v (vo_fieldAddr rfl fo40_0) nofun (by decide) ?_
  refine JL_v (vo_load rfl (by first | exact .frz ‹_› | exact .own (by repeat (first | exact .head _ | refine .tail _ ?_))) (by first | exact .cell Try.underlying25 rfl rfl)) nofun (by decide) ?_
  refine JL_v (vo_len rfl Try.underlying25) nofun (by decide) ?_
  refine JL_v (vo_cmp rfl rfl rfl) nofun (by decide) ?_
  refine JL_nil ?_
  refine JX_then ?_
  refine JC_cond _ rfl (fun hc13 => ?_) (fun hc13 => ?_)
  · exact absurd hc13 (by decide)
  · refine JC_exit ?_
    refine JX_then_exit ?_
    refine JX_thenK_exit ?_
    refine JX_block_exit ?_
    refine JX_then ?_
    refine JC_seq ?_
    refine JC_region ?_
    refine JL_v (vo_assign rfl) nofun (by decide) ?_
    refine JL_nil ?_
    refine JX_then ?_
    refine JC_ret ?_
    refine ret1 rfl rfl ?_
    intro w1 hM; exact SC_end hM rfl
set_option maxRecDepth 8000 in
set_option maxHeartbeats 1000000 in
theorem hold40_spec (rm : Nat) (v6 v7 : Value) (w : World) (hb : FB (fun b => b < w.heap.size) w rm (roomO v6 v7)) : SCalls Try.prog 40 #[.pointer (some ⟨rm, 0, none⟩)] w (fun u => u = .bool true) := by
  unfold roomO at hb
  refine enter (N := 52) Try.func40 rfl Try.ntmps40 (Nat.le_of_ble_eq_true rfl) [(0, .pointer (some ⟨rm, 0, none⟩))] (by repeat (first | exact trivial | refine ⟨rfl, ?_⟩)) (Mem.start w (fun _ => False) (fun b => b < w.heap.size) (fun _ h => h)) ?_
  refine JC_seq ?_
  refine JC_region ?_
  refine JL_v (vo_assign rfl) nofun (by decide) ?_
  refine JL_nil ?_
  refine JX_then ?_
  refine JC_seq ?_
  refine JC_seq ?_
  refine JC_region ?_
  refine JL_v (vo_assign rfl) nofun (by decide) ?_
  refine JL_nil ?_
  refine JX_then ?_
  refine JC_block ?_
  refine JC_loop (α := Unit) (fun _ => [(0, .pointer (some ⟨rm, 0, none⟩)), (3, .int .i64 0)]) (fun _ => Mem w (fun _ => False) (fun b => b < w.heap.size) (fun b => b < w.heap.size) w  []) (fun _ => 0) () (by repeat (first | exact trivial | refine ⟨rfl, ?_⟩ | refine ⟨trivial, ?_⟩)) (fun w hw => hw) ?_
  rintro _
  refine JC_seq ?_
  refine JC_seq ?_
  refine JC_region ?_
  refine JL_v (vo_move rfl) nofun (by decide) ?_
  refine JL_v (vo_move rfl) nofun (by decide) ?_
  refine JL_v ((by first | exact vo_nilCheck rfl | exact vo_nilCheckF rfl)) nofun (by decide) ?_
  refine JL_v (vo_fieldAddr rfl fo40_2) nofun (by decide) ?_
  refine JL_v (vo_load rfl (by first | exact .frz ‹_› | exact .own (by repeat (first | exact .head _ | refine .tail _ ?_))) (by first | exact .cell Try.underlying27 rfl rfl)) nofun (by decide) ?_
  refine JL_v (vo_len rfl Try.underlying27) nofun (by decide) ?_
  refine JL_v (vo_cmp rfl rfl rfl) nofun (by decide) ?_
  refine JL_nil ?_
  refine JX_then ?_
  refine JC_cond _ rfl (fun hc13 => ?_) (fun hc13 => ?_)
  · exact absurd hc13 (by decide)
  · refine JC_exit ?_
    refine JX_then_exit ?_
    refine JX_thenK_exit ?_
    refine JX_block_exit ?_
    refine JX_then ?_
    refine JC_seq ?_
    refine JC_region ?_
    refine JL_v (vo_assign rfl) nofun (by decide) ?_
    refine JL_nil ?_
    refine JX_then ?_
    refine JC_ret ?_
    refine ret1 rfl rfl ?_
    intro w1 hM; exact SC_end hM rfl
set_option maxRecDepth 8000 in
set_option maxHeartbeats 1000000 in
theorem hold41_spec (rm : Nat) (v6 v7 : Value) (w : World) (hb : FB (fun b => b < w.heap.size) w rm (roomO v6 v7)) : SCalls Try.prog 41 #[.pointer (some ⟨rm, 0, none⟩)] w (fun u => u = .bool true) := by
  unfold roomO at hb
  refine enter (N := 52) Try.func41 rfl Try.ntmps41 (Nat.le_of_ble_eq_true rfl) [(0, .pointer (some ⟨rm, 0, none⟩))] (by repeat (first | exact trivial | refine ⟨rfl, ?_⟩)) (Mem.start w (fun _ => False) (fun b => b < w.heap.size) (fun _ h => h)) ?_
  refine JC_seq ?_
  refine JC_region ?_
  refine JL_v (vo_assign rfl) nofun (by decide) ?_
  refine JL_nil ?_
  refine JX_then ?_
  refine JC_seq ?_
  refine JC_seq ?_
  refine JC_region ?_
  refine JL_v (vo_assign rfl) nofun (by decide) ?_
  refine JL_nil ?_
  refine JX_then ?_
  refine JC_block ?_
  refine JC_loop (α := Unit) (fun _ => [(0, .pointer (some ⟨rm, 0, none⟩)), (3, .int .i64 0)]) (fun _ => Mem w (fun _ => False) (fun b => b < w.heap.size) (fun b => b < w.heap.size) w  []) (fun _ => 0) () (by repeat (first | exact trivial | refine ⟨rfl, ?_⟩ | refine ⟨trivial, ?_⟩)) (fun w hw => hw) ?_
  rintro _
  refine JC_seq ?_
  refine JC_seq ?_
  refine JC_region ?_
  refine JL_v (vo_move rfl) nofun (by decide) ?_
  refine JL_v (vo_move rfl) nofun (by decide) ?_
  refine JL_v ((by first | exact vo_nilCheck rfl | exact vo_nilCheckF rfl)) nofun (by decide) ?_
  refine JL_v (vo_fieldAddr rfl fo40_4) nofun (by decide) ?_
  refine JL_v (vo_load rfl (by first | exact .frz ‹_› | exact .own (by repeat (first | exact .head _ | refine .tail _ ?_))) (by first | exact .cell Try.underlying28 rfl rfl)) nofun (by decide) ?_
  refine JL_v (vo_len rfl Try.underlying28) nofun (by decide) ?_
  refine JL_v (vo_cmp rfl rfl rfl) nofun (by decide) ?_
  refine JL_nil ?_
  refine JX_then ?_
  refine JC_cond _ rfl (fun hc13 => ?_) (fun hc13 => ?_)
  · exact absurd hc13 (by decide)
  · refine JC_exit ?_
    refine JX_then_exit ?_
    refine JX_thenK_exit ?_
    refine JX_block_exit ?_
    refine JX_then ?_
    refine JC_seq ?_
    refine JC_region ?_
    refine JL_v (vo_assign rfl) nofun (by decide) ?_
    refine JL_nil ?_
    refine JX_then ?_
    refine JC_ret ?_
    refine ret1 rfl rfl ?_
    intro w1 hM; exact SC_end hM rfl
set_option maxRecDepth 8000 in
set_option maxHeartbeats 1000000 in
theorem hold43_spec (rm : Nat) (v6 v7 : Value) (w : World) (hb : FB (fun b => b < w.heap.size) w rm (roomO v6 v7)) : SCalls Try.prog 43 #[.pointer (some ⟨rm, 0, none⟩)] w (fun u => u = .bool true) := by
  unfold roomO at hb
  refine enter (N := 53) Try.func43 rfl Try.ntmps43 (Nat.le_of_ble_eq_true rfl) [(0, .pointer (some ⟨rm, 0, none⟩))] (by repeat (first | exact trivial | refine ⟨rfl, ?_⟩)) (Mem.start w (fun _ => False) (fun b => b < w.heap.size) (fun _ h => h)) ?_
  refine JC_seq ?_
  refine JC_region ?_
  refine JL_v (vo_assign rfl) nofun (by decide) ?_
  refine JL_nil ?_
  refine JX_then ?_
  refine JC_seq ?_
  refine JC_seq ?_
  refine JC_region ?_
  refine JL_v (vo_assign rfl) nofun (by decide) ?_
  refine JL_nil ?_
  refine JX_then ?_
  refine JC_block ?_
  refine JC_loop (α := Unit) (fun _ => [(0, .pointer (some ⟨rm, 0, none⟩)), (3, .int .i64 0)]) (fun _ => Mem w (fun _ => False) (fun b => b < w.heap.size) (fun b => b < w.heap.size) w  []) (fun _ => 0) () (by repeat (first | exact trivial | refine ⟨rfl, ?_⟩ | refine ⟨trivial, ?_⟩)) (fun w hw => hw) ?_
  rintro _
  refine JC_seq ?_
  refine JC_seq ?_
  refine JC_region ?_
  refine JL_v (vo_move rfl) nofun (by decide) ?_
  refine JL_v (vo_move rfl) nofun (by decide) ?_
  refine JL_v ((by first | exact vo_nilCheck rfl | exact vo_nilCheckF rfl)) nofun (by decide) ?_
  refine JL_v (vo_fieldAddr rfl fo40_8) nofun (by decide) ?_
  refine JL_v (vo_load rfl (by first | exact .frz ‹_› | exact .own (by repeat (first | exact .head _ | refine .tail _ ?_))) (by first | exact .cell Try.underlying30 rfl rfl)) nofun (by decide) ?_
  refine JL_v (vo_len rfl Try.underlying30) nofun (by decide) ?_
  refine JL_v (vo_cmp rfl rfl rfl) nofun (by decide) ?_
  refine JL_nil ?_
  refine JX_then ?_
  refine JC_cond _ rfl (fun hc13 => ?_) (fun hc13 => ?_)
  · exact absurd hc13 (by decide)
  · refine JC_exit ?_
    refine JX_then_exit ?_
    refine JX_thenK_exit ?_
    refine JX_block_exit ?_
    refine JX_then ?_
    refine JC_seq ?_
    refine JC_region ?_
    refine JL_v (vo_assign rfl) nofun (by decide) ?_
    refine JL_nil ?_
    refine JX_then ?_
    refine JC_ret ?_
    refine ret1 rfl rfl ?_
    intro w1 hM; exact SC_end hM rfl
set_option maxRecDepth 8000 in
set_option maxHeartbeats 1000000 in
theorem hold44_spec (rm : Nat) (v6 v7 : Value) (w : World) (hb : FB (fun b => b < w.heap.size) w rm (roomO v6 v7)) : SCalls Try.prog 44 #[.pointer (some ⟨rm, 0, none⟩)] w (fun u => u = .bool true) := by
  unfold roomO at hb
  refine enter (N := 53) Try.func44 rfl Try.ntmps44 (Nat.le_of_ble_eq_true rfl) [(0, .pointer (some ⟨rm, 0, none⟩))] (by repeat (first | exact trivial | refine ⟨rfl, ?_⟩)) (Mem.start w (fun _ => False) (fun b => b < w.heap.size) (fun _ h => h)) ?_
  refine JC_seq ?_
  refine JC_region ?_
  refine JL_v (vo_assign rfl) nofun (by decide) ?_
  refine JL_nil ?_
  refine JX_then ?_
  refine JC_seq ?_
  refine JC_seq ?_
  refine JC_region ?_
  refine JL_v (vo_assign rfl) nofun (by decide) ?_
  refine JL_nil ?_
  refine JX_then ?_
  refine JC_block ?_
  refine JC_loop (α := Unit) (fun _ => [(0, .pointer (some ⟨rm, 0, none⟩)), (3, .int .i64 0)]) (fun _ => Mem w (fun _ => False) (fun b => b < w.heap.size) (fun b => b < w.heap.size) w  []) (fun _ => 0) () (by repeat (first | exact trivial | refine ⟨rfl, ?_⟩ | refine ⟨trivial, ?_⟩)) (fun w hw => hw) ?_
  rintro _
  refine JC_seq ?_
  refine JC_seq ?_
  refine JC_region ?_
  refine JL_v (vo_move rfl) nofun (by decide) ?_
  refine JL_v (vo_move rfl) nofun (by decide) ?_
  refine JL_v ((by first | exact vo_nilCheck rfl | exact vo_nilCheckF rfl)) nofun (by decide) ?_
  refine JL_v (vo_fieldAddr rfl fo40_10) nofun (by decide) ?_
  refine JL_v (vo_load rfl (by first | exact .frz ‹_› | exact .own (by repeat (first | exact .head _ | refine .tail _ ?_))) (by first | exact .cell Try.underlying31 rfl rfl)) nofun (by decide) ?_
  refine JL_v (vo_len rfl Try.underlying31) nofun (by decide) ?_
  refine JL_v (vo_cmp rfl rfl rfl) nofun (by decide) ?_
  refine JL_nil ?_
  refine JX_then ?_
  refine JC_cond _ rfl (fun hc13 => ?_) (fun hc13 => ?_)
  · exact absurd hc13 (by decide)
  · refine JC_exit ?_
    refine JX_then_exit ?_
    refine JX_thenK_exit ?_
    refine JX_block_exit ?_
    refine JX_then ?_
    refine JC_seq ?_
    refine JC_region ?_
    refine JL_v (vo_assign rfl) nofun (by decide) ?_
    refine JL_nil ?_
    refine JX_then ?_
    refine JC_ret ?_
    refine ret1 rfl rfl ?_
    intro w1 hM; exact SC_end hM rfl
set_option maxRecDepth 8000 in
set_option maxHeartbeats 1000000 in
theorem hold45_spec (rm : Nat) (v6 v7 : Value) (w : World) (hb : FB (fun b => b < w.heap.size) w rm (roomO v6 v7)) : SCalls Try.prog 45 #[.pointer (some ⟨rm, 0, none⟩)] w (fun u => u = .bool true) := by
  unfold roomO at hb
  refine enter (N := 53) Try.func45 rfl Try.ntmps45 (Nat.le_of_ble_eq_true rfl) [(0, .pointer (some ⟨rm, 0, none⟩))] (by repeat (first | exact trivial | refine ⟨rfl, ?_⟩)) (Mem.start w (fun _ => False) (fun b => b < w.heap.size) (fun _ h => h)) ?_
  refine JC_seq ?_
  refine JC_region ?_
  refine JL_v (vo_assign rfl) nofun (by decide) ?_
  refine JL_nil ?_
  refine JX_then ?_
  refine JC_seq ?_
  refine JC_seq ?_
  refine JC_region ?_
  refine JL_v (vo_assign rfl) nofun (by decide) ?_
  refine JL_nil ?_
  refine JX_then ?_
  refine JC_block ?_
  refine JC_loop (α := Unit) (fun _ => [(0, .pointer (some ⟨rm, 0, none⟩)), (3, .int .i64 0)]) (fun _ => Mem w (fun _ => False) (fun b => b < w.heap.size) (fun b => b < w.heap.size) w  []) (fun _ => 0) () (by repeat (first | exact trivial | refine ⟨rfl, ?_⟩ | refine ⟨trivial, ?_⟩)) (fun w hw => hw) ?_
  rintro _
  refine JC_seq ?_
  refine JC_seq ?_
  refine JC_region ?_
  refine JL_v (vo_move rfl) nofun (by decide) ?_
  refine JL_v (vo_move rfl) nofun (by decide) ?_
  refine JL_v ((by first | exact vo_nilCheck rfl | exact vo_nilCheckF rfl)) nofun (by decide) ?_
  refine JL_v (vo_fieldAddr rfl fo40_12) nofun (by decide) ?_
  refine JL_v (vo_load rfl (by first | exact .frz ‹_› | exact .own (by repeat (first | exact .head _ | refine .tail _ ?_))) (by first | exact .cell Try.underlying32 rfl rfl)) nofun (by decide) ?_
  refine JL_v (vo_len rfl Try.underlying32) nofun (by decide) ?_
  refine JL_v (vo_cmp rfl rfl rfl) nofun (by decide) ?_
  refine JL_nil ?_
  refine JX_then ?_
  refine JC_cond _ rfl (fun hc13 => ?_) (fun hc13 => ?_)
  · exact absurd hc13 (by decide)
  · refine JC_exit ?_
    refine JX_then_exit ?_
    refine JX_thenK_exit ?_
    refine JX_block_exit ?_
    refine JX_then ?_
    refine JC_seq ?_
    refine JC_region ?_
    refine JL_v (vo_assign rfl) nofun (by decide) ?_
    refine JL_nil ?_
    refine JX_then ?_
    refine JC_ret ?_
    refine ret1 rfl rfl ?_
    intro w1 hM; exact SC_end hM rfl
set_option maxRecDepth 8000 in
set_option maxHeartbeats 1000000 in
theorem hold46_spec (rm : Nat) (v6 v7 : Value) (w : World) (hb : FB (fun b => b < w.heap.size) w rm (roomO v6 v7)) : SCalls Try.prog 46 #[.pointer (some ⟨rm, 0, none⟩)] w (fun u => u = .bool true) := by
  unfold roomO at hb
  refine enter (N := 53) Try.func46 rfl Try.ntmps46 (Nat.le_of_ble_eq_true rfl) [(0, .pointer (some ⟨rm, 0, none⟩))] (by repeat (first | exact trivial | refine ⟨rfl, ?_⟩)) (Mem.start w (fun _ => False) (fun b => b < w.heap.size) (fun _ h => h)) ?_
  refine JC_seq ?_
  refine JC_region ?_
  refine JL_v (vo_assign rfl) nofun (by decide) ?_
  refine JL_nil ?_
  refine JX_then ?_
  refine JC_seq ?_
  refine JC_seq ?_
  refine JC_region ?_
  refine JL_v (vo_assign rfl) nofun (by decide) ?_
  refine JL_nil ?_
  refine JX_then ?_
  refine JC_block ?_
  refine JC_loop (α := Unit) (fun _ => [(0, .pointer (some ⟨rm, 0, none⟩)), (3, .int .i64 0)]) (fun _ => Mem w (fun _ => False) (fun b => b < w.heap.size) (fun b => b < w.heap.size) w  []) (fun _ => 0) () (by repeat (first | exact trivial | refine ⟨rfl, ?_⟩ | refine ⟨trivial, ?_⟩)) (fun w hw => hw) ?_
  rintro _
  refine JC_seq ?_
  refine JC_seq ?_
  refine JC_region ?_
  refine JL_v (vo_move rfl) nofun (by decide) ?_
  refine JL_v (vo_move rfl) nofun (by decide) ?_
  refine JL_v ((by first | exact vo_nilCheck rfl | exact vo_nilCheckF rfl)) nofun (by decide) ?_
  refine JL_v (vo_fieldAddr rfl fo40_14) nofun (by decide) ?_
  refine JL_v (vo_load rfl (by first | exact .frz ‹_› | exact .own (by repeat (first | exact .head _ | refine .tail _ ?_))) (by first | exact .cell Try.underlying33 rfl rfl)) nofun (by decide) ?_
  refine JL_v (vo_len rfl Try.underlying33) nofun (by decide) ?_
  refine JL_v (vo_cmp rfl rfl rfl) nofun (by decide) ?_
  refine JL_nil ?_
  refine JX_then ?_
  refine JC_cond _ rfl (fun hc13 => ?_) (fun hc13 => ?_)
  · exact absurd hc13 (by decide)
  · refine JC_exit ?_
    refine JX_then_exit ?_
    refine JX_thenK_exit ?_
    refine JX_block_exit ?_
    refine JX_then ?_
    refine JC_seq ?_
    refine JC_region ?_
    refine JL_v (vo_assign rfl) nofun (by decide) ?_
    refine JL_nil ?_
    refine JX_then ?_
    refine JC_ret ?_
    refine ret1 rfl rfl ?_
    intro w1 hM; exact SC_end hM rfl
set_option maxRecDepth 8000 in
set_option maxHeartbeats 1000000 in
theorem hold47_spec (rm : Nat) (v6 v7 : Value) (w : World) (hb : FB (fun b => b < w.heap.size) w rm (roomO v6 v7)) : SCalls Try.prog 47 #[.pointer (some ⟨rm, 0, none⟩)] w (fun u => u = .bool true) := by
  unfold roomO at hb
  refine enter (N := 60) Try.func47 rfl Try.ntmps47 (Nat.le_of_ble_eq_true rfl) [(0, .pointer (some ⟨rm, 0, none⟩))] (by repeat (first | exact trivial | refine ⟨rfl, ?_⟩)) (Mem.start w (fun _ => False) (fun b => b < w.heap.size) (fun _ h => h)) ?_
  refine JC_seq ?_
  refine JC_region ?_
  refine JL_v (vo_assign rfl) nofun (by decide) ?_
  refine JL_nil ?_
  refine JX_then ?_
  refine JC_seq ?_
  refine JC_seq ?_
  refine JC_region ?_
  refine JL_v (vo_assign rfl) nofun (by decide) ?_
  refine JL_nil ?_
  refine JX_then ?_
  refine JC_block ?_
  refine JC_loop (α := Unit) (fun _ => [(0, .pointer (some ⟨rm, 0, none⟩)), (3, .int .i64 0)]) (fun _ => Mem w (fun _ => False) (fun b => b < w.heap.size) (fun b => b < w.heap.size) w  []) (fun _ => 0) () (by repeat (first | exact trivial | refine ⟨rfl, ?_⟩ | refine ⟨trivial, ?_⟩)) (fun w hw => hw) ?_
  rintro _
  refine JC_seq ?_
  refine JC_seq ?_
  refine JC_region ?_
  refine JL_v (vo_move rfl) nofun (by decide) ?_
  refine JL_v (vo_move rfl) nofun (by decide) ?_
  refine JL_v ((by first | exact vo_nilCheck rfl | exact vo_nilCheckF rfl)) nofun (by decide) ?_
  refine JL_v (vo_fieldAddr rfl fo40_16) nofun (by decide) ?_
  refine JL_v (vo_load rfl (by first | exact .frz ‹_› | exact .own (by repeat (first | exact .head _ | refine .tail _ ?_))) (by first | exact .cell Try.underlying34 rfl rfl)) nofun (by decide) ?_
  refine JL_v (vo_len rfl Try.underlying34) nofun (by decide) ?_
  refine JL_v (vo_cmp rfl rfl rfl) nofun (by decide) ?_
  refine JL_nil ?_
  refine JX_then ?_
  refine JC_cond _ rfl (fun hc13 => ?_) (fun hc13 => ?_)
  · exact absurd hc13 (by decide)
  · refine JC_exit ?_
    refine JX_then_exit ?_
    refine JX_thenK_exit ?_
    refine JX_block_exit ?_
    refine JX_then ?_
    refine JC_seq ?_
    refine JC_region ?_
    refine JL_v (vo_assign rfl) nofun (by decide) ?_
    refine JL_nil ?_
    refine JX_then ?_
    refine JC_ret ?_
    refine ret1 rfl rfl ?_
    intro w1 hM; exact SC_end hM rfl
set_option maxRecDepth 8000 in
set_option maxHeartbeats 1000000 in
theorem hold48_spec (rm : Nat) (v6 v7 : Value) (w : World) (hb : FB (fun b => b < w.heap.size) w rm (roomO v6 v7)) : SCalls Try.prog 48 #[.pointer (some ⟨rm, 0, none⟩)] w (fun u => u = .bool true) := by
  unfold roomO at hb
  refine enter (N := 64) Try.func48 rfl Try.ntmps48 (Nat.le_of_ble_eq_true rfl) [(0, .pointer (some ⟨rm, 0, none⟩))] (by repeat (first | exact trivial | refine ⟨rfl, ?_⟩)) (Mem.start w (fun _ => False) (fun b => b < w.heap.size) (fun _ h => h)) ?_
  refine JC_seq ?_
  refine JC_region ?_
  refine JL_v (vo_assign rfl) nofun (by decide) ?_
  refine JL_nil ?_
  refine JX_then ?_
  refine JC_seq ?_
  refine JC_seq ?_
  refine JC_region ?_
  refine JL_v (vo_assign rfl) nofun (by decide) ?_
  refine JL_nil ?_
  refine JX_then ?_
  refine JC_block ?_
  refine JC_loop (α := Unit) (fun _ => [(0, .pointer (some ⟨rm, 0, none⟩)), (3, .int .i64 0)]) (fun _ => Mem w (fun _ => False) (fun b => b < w.heap.size) (fun b => b < w.heap.size) w  []) (fun _ => 0) () (by repeat (first | exact trivial | refine ⟨rfl, ?_⟩ | refine ⟨trivial, ?_⟩)) (fun w hw => hw) ?_
  rintro _
  refine JC_seq ?_
  refine JC_seq ?_
  refine JC_region ?_
  refine JL_v (vo_move rfl) nofun (by decide) ?_
  refine JL_v (vo_move rfl) nofun (by decide) ?_
  refine JL_v ((by first | exact vo_nilCheck rfl | exact vo_nilCheckF rfl)) nofun (by decide) ?_
  refine JL_v (vo_fieldAddr rfl fo40_18) nofun (by decide) ?_
  refine JL_v (vo_load rfl (by first | exact .frz ‹_› | exact .own (by repeat (first | exact .head _ | refine .tail _ ?_))) (by first | exact .cell Try.underlying35 rfl rfl)) nofun (by decide) ?_
  refine JL_v (vo_len rfl Try.underlying35) nofun (by decide) ?_
  refine JL_v (vo_cmp rfl rfl rfl) nofun (by decide) ?_
  refine JL_nil ?_
  refine JX_then ?_
  refine JC_cond _ rfl (fun hc13 => ?_) (fun hc13 => ?_)
  · exact absurd hc13 (by decide)
  · refine JC_exit ?_
    refine JX_then_exit ?_
    refine JX_thenK_exit ?_
    refine JX_block_exit ?_
    refine JX_then ?_
    refine JC_seq ?_
    refine JC_region ?_
    refine JL_v (vo_assign rfl) nofun (by decide) ?_
    refine JL_nil ?_
    refine JX_then ?_
    refine JC_ret ?_
    refine ret1 rfl rfl ?_
    intro w1 hM; exact SC_end hM rfl
set_option maxRecDepth 8000 in
set_option maxHeartbeats 1000000 in
theorem hold49_spec (rm : Nat) (v6 v7 : Value) (w : World) (hb : FB (fun b => b < w.heap.size) w rm (roomO v6 v7)) : SCalls Try.prog 49 #[.pointer (some ⟨rm, 0, none⟩)] w (fun u => u = .bool true) := by
  unfold roomO at hb
  refine enter (N := 59) Try.func49 rfl Try.ntmps49 (Nat.le_of_ble_eq_true rfl) [(0, .pointer (some ⟨rm, 0, none⟩))] (by repeat (first | exact trivial | refine ⟨rfl, ?_⟩)) (Mem.start w (fun _ => False) (fun b => b < w.heap.size) (fun _ h => h)) ?_
  refine JC_seq ?_
  refine JC_region ?_
  refine JL_v (vo_assign rfl) nofun (by decide) ?_
  refine JL_nil ?_
  refine JX_then ?_
  refine JC_seq ?_
  refine JC_seq ?_
  refine JC_region ?_
  refine JL_v (vo_assign rfl) nofun (by decide) ?_
  refine JL_nil ?_
  refine JX_then ?_
  refine JC_block ?_
  refine JC_loop (α := Unit) (fun _ => [(0, .pointer (some ⟨rm, 0, none⟩)), (3, .int .i64 0)]) (fun _ => Mem w (fun _ => False) (fun b => b < w.heap.size) (fun b => b < w.heap.size) w  []) (fun _ => 0) () (by repeat (first | exact trivial | refine ⟨rfl, ?_⟩ | refine ⟨trivial, ?_⟩)) (fun w hw => hw) ?_
  rintro _
  refine JC_seq ?_
  refine JC_seq ?_
  refine JC_region ?_
  refine JL_v (vo_move rfl) nofun (by decide) ?_
  refine JL_v (vo_move rfl) nofun (by decide) ?_
  refine JL_v ((by first | exact vo_nilCheck rfl | exact vo_nilCheckF rfl)) nofun (by decide) ?_
  refine JL_v (vo_fieldAddr rfl fo40_20) nofun (by decide) ?_
  refine JL_v (vo_load rfl (by first | exact .frz ‹_› | exact .own (by repeat (first | exact .head _ | refine .tail _ ?_))) (by first | exact .cell Try.underlying36 rfl rfl)) nofun (by decide) ?_
  refine JL_v (vo_len rfl Try.underlying36) nofun (by decide) ?_
  refine JL_v (vo_cmp rfl rfl rfl) nofun (by decide) ?_
  refine JL_nil ?_
  refine JX_then ?_
  refine JC_cond _ rfl (fun hc13 => ?_) (fun hc13 => ?_)
  · exact absurd hc13 (by decide)
  · refine JC_exit ?_
    refine JX_then_exit ?_
    refine JX_thenK_exit ?_
    refine JX_block_exit ?_
    refine JX_then ?_
    refine JC_seq ?_
    refine JC_region ?_
    refine JL_v (vo_assign rfl) nofun (by decide) ?_
    refine JL_nil ?_
    refine JX_then ?_
    refine JC_ret ?_
    refine ret1 rfl rfl ?_
    intro w1 hM; exact SC_end hM rfl
set_option maxRecDepth 8000 in
set_option maxHeartbeats 1000000 in
theorem hold50_spec (rm : Nat) (v6 v7 : Value) (w : World) (hb : FB (fun b => b < w.heap.size) w rm (roomO v6 v7)) : SCalls Try.prog 50 #[.pointer (some ⟨rm, 0, none⟩)] w (fun u => u = .bool true) := by
  unfold roomO at hb
  refine enter (N := 59) Try.func50 rfl Try.ntmps50 (Nat.le_of_ble_eq_true rfl) [(0, .pointer (some ⟨rm, 0, none⟩))] (by repeat (first | exact trivial | refine ⟨rfl, ?_⟩)) (Mem.start w (fun _ => False) (fun b => b < w.heap.size) (fun _ h => h)) ?_
  refine JC_seq ?_
  refine JC_region ?_
  refine JL_v (vo_assign rfl) nofun (by decide) ?_
  refine JL_nil ?_
  refine JX_then ?_
  refine JC_seq ?_
  refine JC_seq ?_
  refine JC_region ?_
  refine JL_v (vo_assign rfl) nofun (by decide) ?_
  refine JL_nil ?_
  refine JX_then ?_
  refine JC_block ?_
  refine JC_loop (α := Unit) (fun _ => [(0, .pointer (some ⟨rm, 0, none⟩)), (3, .int .i64 0)]) (fun _ => Mem w (fun _ => False) (fun b => b < w.heap.size) (fun b => b < w.heap.size) w  []) (fun _ => 0) () (by repeat (first | exact trivial | refine ⟨rfl, ?_⟩ | refine ⟨trivial, ?_⟩)) (fun w hw => hw) ?_
  rintro _
  refine JC_seq ?_
  refine JC_seq ?_
  refine JC_region ?_
  refine JL_v (vo_move rfl) nofun (by decide) ?_
  refine JL_v (vo_move rfl) nofun (by decide) ?_
  refine JL_v ((by first | exact vo_nilCheck rfl | exact vo_nilCheckF rfl)) nofun (by decide) ?_
  refine JL_v (vo_fieldAddr rfl fo40_22) nofun (by decide) ?_
  refine JL_v (vo_load rfl (by first | exact .frz ‹_› | exact .own (by repeat (first | exact .head _ | refine .tail _ ?_))) (by first | exact .cell Try.underlying37 rfl rfl)) nofun (by decide) ?_
  refine JL_v (vo_len rfl Try.underlying37) nofun (by decide) ?_
  refine JL_v (vo_cmp rfl rfl rfl) nofun (by decide) ?_
  refine JL_nil ?_
  refine JX_then ?_
  refine JC_cond _ rfl (fun hc13 => ?_) (fun hc13 => ?_)
  · exact absurd hc13 (by decide)
  · refine JC_exit ?_
    refine JX_then_exit ?_
    refine JX_thenK_exit ?_
    refine JX_block_exit ?_
    refine JX_then ?_
    refine JC_seq ?_
    refine JC_region ?_
    refine JL_v (vo_assign rfl) nofun (by decide) ?_
    refine JL_nil ?_
    refine JX_then ?_
    refine JC_ret ?_
    refine ret1 rfl rfl ?_
    intro w1 hM; exact SC_end hM rfl
set_option maxRecDepth 8000 in
set_option maxHeartbeats 1000000 in
theorem hold51_spec (rm : Nat) (v6 v7 : Value) (w : World) (hb : FB (fun b => b < w.heap.size) w rm (roomO v6 v7)) : SCalls Try.prog 51 #[.pointer (some ⟨rm, 0, none⟩)] w (fun u => u = .bool true) := by
  unfold roomO at hb
  refine enter (N := 65) Try.func51 rfl Try.ntmps51 (Nat.le_of_ble_eq_true rfl) [(0, .pointer (some ⟨rm, 0, none⟩))] (by repeat (first | exact trivial | refine ⟨rfl, ?_⟩)) (Mem.start w (fun _ => False) (fun b => b < w.heap.size) (fun _ h => h)) ?_
  refine JC_seq ?_
  refine JC_region ?_
  refine JL_v (vo_assign rfl) nofun (by decide) ?_
  refine JL_nil ?_
  refine JX_then ?_
  refine JC_seq ?_
  refine JC_seq ?_
  refine JC_region ?_
  refine JL_v (vo_assign rfl) nofun (by decide) ?_
  refine JL_nil ?_
  refine JX_then ?_
  refine JC_block ?_
  refine JC_loop (α := Unit) (fun _ => [(0, .pointer (some ⟨rm, 0, none⟩)), (3, .int .i64 0)]) (fun _ => Mem w (fun _ => False) (fun b => b < w.heap.size) (fun b => b < w.heap.size) w  []) (fun _ => 0) () (by repeat (first | exact trivial | refine ⟨rfl, ?_⟩ | refine ⟨trivial, ?_⟩)) (fun w hw => hw) ?_
  rintro _
  refine JC_seq ?_
  refine JC_seq ?_
  refine JC_region ?_
  refine JL_v (vo_move rfl) nofun (by decide) ?_
  refine JL_v (vo_move rfl) nofun (by decide) ?_
  refine JL_v ((by first | exact vo_nilCheck rfl | exact vo_nilCheckF rfl)) nofun (by decide) ?_
  refine JL_v (vo_fieldAddr rfl fo40_24) nofun (by decide) ?_
  refine JL_v (vo_load rfl (by first | exact .frz ‹_› | exact .own (by repeat (first | exact .head _ | refine .tail _ ?_))) (by first | exact .cell Try.underlying38 rfl rfl)) nofun (by decide) ?_
  refine JL_v (vo_len rfl Try.underlying38) nofun (by decide) ?_
  refine JL_v (vo_cmp rfl rfl rfl) nofun (by decide) ?_
  refine JL_nil ?_
  refine JX_then ?_
  refine JC_cond _ rfl (fun hc13 => ?_) (fun hc13 => ?_)
  · exact absurd hc13 (by decide)
  · refine JC_exit ?_
    refine JX_then_exit ?_
    refine JX_thenK_exit ?_
    refine JX_block_exit ?_
    refine JX_then ?_
    refine JC_seq ?_
    refine JC_region ?_
    refine JL_v (vo_assign rfl) nofun (by decide) ?_
    refine JL_nil ?_
    refine JX_then ?_
    refine JC_ret ?_
    refine ret1 rfl rfl ?_
    intro w1 hM; exact SC_end hM rfl
set_option maxRecDepth 8000 in
set_option maxHeartbeats 1000000 in
theorem hold42_spec (rm : Nat) (v6 v7 : Value) (ents : List (List Chg × Value)) (w : World) (hb : FB (fun b => b < w.heap.size) w rm (roomO v6 v7)) (hr6 : RVals (fun b => b < w.heap.size) w (ents.map (·.2)) v6) (hr7 : RVals (fun b => b < w.heap.size) w (ents.map fun e => .int .i64 e.1.length) v7) (hE : ∀ e ∈ ents, e.1.length ≤ 1000000 ∧ RItems (fun b => b < w.heap.size) w 71 chC (e.1 ++ sparesC 40) e.2) : SCalls Try.prog 42 #[.pointer (some ⟨rm, 0, none⟩)] w (fun u => u = .bool true) := by
  unfold roomO at hb
  obtain ⟨A6, c6, rfl, hl6⟩ := hr6.slice
  obtain ⟨A7, c7, rfl, hl7⟩ := hr7.slice
  have hm6 : (ents.map (·.2)).length = ents.length := by simp
  have hm7 : (ents.map fun e => Value.int .i64 e.1.length).length = ents.length := by simp
  have hsl := sparesC_length 40
  refine enter (N := 53) Try.func42 rfl Try.ntmps42 (Nat.le_of_ble_eq_true rfl) [(0, .pointer (some ⟨rm, 0, none⟩))] (by repeat (first | exact trivial | refine ⟨rfl, ?_⟩)) (Mem.start w (fun _ => False) (fun b => b < w.heap.size) (fun _ h => h)) ?_
  refine JC_seq ?_
  refine JC_region ?_
  refine JL_v (vo_assign rfl) nofun (by decide) ?_
  refine JL_nil ?_
  refine JX_then ?_
  refine JC_seq ?_
  refine JC_seq ?_
  refine JC_region ?_
  refine JL_v (vo_assign rfl) nofun (by decide) ?_
  refine JL_nil ?_
  refine JX_then ?_
  refine JC_block ?_
  refine JC_loop (α := { i : Nat // i ≤ ents.length }) (fun i => [(0, .pointer (some ⟨rm, 0, none⟩)), (3, .int .i64 i.1)]) (fun _ => Mem w (fun _ => False) (fun b => b < w.heap.size) (fun b => b < w.heap.size) w  []) (fun i => ents.length - i.1) ⟨0, by omega⟩ (by repeat (first | exact trivial | refine ⟨rfl, ?_⟩ | refine ⟨trivial, ?_⟩)) (fun w hw => hw) ?_
  rintro ⟨i, hi⟩
  dsimp only
  refine JC_seq ?_
  refine JC_seq ?_
  refine JC_region ?_
  refine JL_v (vo_move rfl) nofun (by decide) ?_
  refine JL_v (vo_move rfl) nofun (by decide) ?_
  refine JL_v ((by first | exact vo_nilCheck rfl | exact vo_nilCheckF rfl)) nofun (by decide) ?_
  refine JL_v (vo_fieldAddr rfl fo40_6) nofun (by decide) ?_
  refine JL_v (vo_load rfl (by first | exact .frz ‹_› | exact .own (by repeat (first | exact .head _ | refine .tail _ ?_))) (by first | exact .cell Try.underlying29 rfl rfl | exact .cell Try.underlying22 rfl (by simpa using hcell6) | exact .cell Try.underlying3 rfl (by simpa using hcell7) | exact pc_all hseg | (exact .cell Try.underlying29 rfl rfl) | (exact .cell Try.underlying26 rfl rfl))) nofun (by decide) ?_
  refine JL_v (vo_len rfl Try.underlying29) nofun (by decide) ?_
  refine JL_v (vo_cmp rfl rfl rfl) nofun (by decide) ?_
  refine JL_nil ?_
  refine JX_then ?_
  refine JC_cond _ rfl (fun hc13 => ?_) (fun hc13 => ?_)
  · have hil : i < ents.length := by simp at hc13; omega
    obtain ⟨en, hen⟩ : ∃ en, ents[i]? = some en := ⟨_, List.getElem?_eq_getElem hil⟩
    obtain ⟨b6, o6, c6', cs6, te6, fr6, hv6, hfb6, hcell6⟩ := hr6.at_ (i := i) (u := en.2) (by simp [hen])
    cases hv6
    obtain ⟨b7, o7, c7', cs7, te7, fr7, hv7, hfb7, hcell7⟩ := hr7.at_ (i := i) (u := .int .i64 en.1.length) (by simp [hen])
    cases hv7
    obtain ⟨hel, hE'⟩ := hE en (List.mem_of_getElem? hen)
    obtain ⟨en1, en2⟩ := en
    dsimp only at hcell6 hcell7 hE' hel
    obtain ⟨Ae, ce, rfl, hle⟩ := hE'.slice
    have hlen : (en1 ++ sparesC 40).length = en1.length + 40 := by rw [List.length_append, hsl]
    refine JC_skip ?_
    refine JX_then ?_
    refine JC_seq ?_
    refine JC_block ?_
    refine JC_seq ?_
    refine JC_region ?_
    refine JL_v (vo_move rfl) nofun (by decide) ?_
    refine JL_v ((by first | exact vo_nilCheck rfl | exact vo_nilCheckF rfl)) nofun (by decide) ?_
    refine JL_v (vo_fieldAddr rfl fo40_7) nofun (by decide) ?_
    refine JL_v (vo_load rfl (by first | exact .frz ‹_› | exact .own (by repeat (first | exact .head _ | refine .tail _ ?_))) (by first | exact .cell Try.underlying26 rfl rfl | exact .cell Try.underlying22 rfl (by simpa using hcell6) | exact .cell Try.underlying3 rfl (by simpa using hcell7) | exact pc_all hseg | (exact .cell Try.underlying29 rfl rfl) | (exact .cell Try.underlying26 rfl rfl))) nofun (by decide) ?_
    refine JL_v (vo_move rfl) nofun (by decide) ?_
    refine JL_v (vo_indexAddr rfl rfl Try.underlying26 sz3 (by omega) (by omega)) nofun (by decide) ?_
    refine JL_v (vo_load rfl (by first | exact .frz ‹_› | exact .own (by repeat (first | exact .head _ | refine .tail _ ?_))) (by first | exact .cell Try.underlying3 rfl rfl | exact .cell Try.underlying22 rfl (by simpa using hcell6) | exact .cell Try.underlying3 rfl (by simpa using hcell7) | exact pc_all hseg | (exact .cell Try.underlying29 rfl rfl) | (exact .cell Try.underlying26 rfl rfl))) nofun (by decide) ?_
    refine JL_v (vo_assign rfl) nofun (by decide) ?_
    refine JL_nil ?_
    refine JX_then ?_
    refine JC_seq ?_
    refine JC_region ?_
    refine JL_v (vo_move rfl) nofun (by decide) ?_
    refine JL_v (vo_assign rfl) nofun (by decide) ?_
    refine JL_nil ?_
    refine JX_then ?_
    refine JC_block ?_
    refine JC_loop (α := { k : Nat // en1.length ≤ k ∧ k ≤ en1.length + 40 }) (fun k => [(0, .pointer (some ⟨rm, 0, none⟩)), (3, .int .i64 i), (4, .int .i64 en1.length), (5, .int .i64 k.1)]) (fun _ => Mem w (fun _ => False) (fun b => b < w.heap.size) (fun b => b < w.heap.size) w  []) (fun k => en1.length + 40 - k.1) ⟨en1.length, by omega, by omega⟩ (by repeat (first | exact trivial | refine ⟨rfl, ?_⟩ | refine ⟨trivial, ?_⟩)) (fun w hw => hw) ?_
    rintro ⟨k, hk1, hk2⟩
    dsimp only
    refine JC_seq ?_
    refine JC_seq ?_
    refine JC_region ?_
    refine JL_v (vo_move rfl) nofun (by decide) ?_
    refine JL_v (vo_move rfl) nofun (by decide) ?_
    refine JL_v ((by first | exact vo_nilCheck rfl | exact vo_nilCheckF rfl)) nofun (by decide) ?_
    refine JL_v (vo_fieldAddr rfl fo40_6) nofun (by decide) ?_
    refine JL_v (vo_load rfl (by first | exact .frz ‹_› | exact .own (by repeat (first | exact .head _ | refine .tail _ ?_))) (by first | exact .cell Try.underlying29 rfl rfl | exact .cell Try.underlying22 rfl (by simpa using hcell6) | exact .cell Try.underlying3 rfl (by simpa using hcell7) | exact pc_all hseg | (exact .cell Try.underlying29 rfl rfl) | (exact .cell Try.underlying26 rfl rfl))) nofun (by decide) ?_
    refine JL_v (vo_move rfl) nofun (by decide) ?_
    refine JL_v (vo_indexAddr rfl rfl Try.underlying29 sz22 (by omega) (by omega)) nofun (by decide) ?_
    refine JL_v (vo_load rfl (by first | exact .frz ‹_› | exact .own (by repeat (first | exact .head _ | refine .tail _ ?_))) (by first | exact .cell Try.underlying22 rfl rfl | exact .cell Try.underlying22 rfl (by simpa using hcell6) | exact .cell Try.underlying3 rfl (by simpa using hcell7) | exact pc_all hseg | (exact .cell Try.underlying29 rfl rfl) | (exact .cell Try.underlying26 rfl rfl))) nofun (by decide) ?_
    refine JL_v (vo_len rfl Try.underlying22) nofun (by decide) ?_
    refine JL_v (vo_cmp rfl rfl rfl) nofun (by decide) ?_
    refine JL_nil ?_
    refine JX_then ?_
    refine JC_cond _ rfl (fun hc33 => ?_) (fun hc33 => ?_)
    · have hkl : k < en1.length + 40 := by rw [← hlen]; simp at hc33; omega
      have hsp : (en1 ++ sparesC 40)[k]? = some (spareC (k - en1.length)) := by
        rw [List.getElem?_append_right hk1]
        exact sparesC_get (by omega)
      obtain ⟨be, oe, ce', cse, tee, fre, hve, hfbe, hseg⟩ := hE'.at_ hsp
      cases hve
      refine JC_skip ?_
      refine JX_then ?_
      refine JC_seq ?_
      refine JC_block ?_
      refine JC_seq ?_
      refine JC_region ?_
      refine JL_v (vo_move rfl) nofun (by decide) ?_
      refine JL_v ((by first | exact vo_nilCheck rfl | exact vo_nilCheckF rfl)) nofun (by decide) ?_
      refine JL_v (vo_fieldAddr rfl fo40_6) nofun (by decide) ?_
      refine JL_v (vo_load rfl (by first | exact .frz ‹_› | exact .own (by repeat (first | exact .head _ | refine .tail _ ?_))) (by first | exact .cell Try.underlying29 rfl rfl | exact .cell Try.underlying22 rfl (by simpa using hcell6) | exact .cell Try.underlying3 rfl (by simpa using hcell7) | exact pc_all hseg | (exact .cell Try.underlying29 rfl rfl) | (exact .cell Try.underlying26 rfl rfl))) nofun (by decide) ?_
      refine JL_v (vo_move rfl) nofun (by decide) ?_
      refine JL_v (vo_indexAddr rfl rfl Try.underlying29 sz22 (by omega) (by omega)) nofun (by decide) ?_
      refine JL_v (vo_load rfl (by first | exact .frz ‹_› | exact .own (by repeat (first | exact .head _ | refine .tail _ ?_))) (by first | exact .cell Try.underlying22 rfl rfl | exact .cell Try.underlying22 rfl (by simpa using hcell6) | exact .cell Try.underlying3 rfl (by simpa using hcell7) | exact pc_all hseg | (exact .cell Try.underlying29 rfl rfl) | (exact .cell Try.underlying26 rfl rfl))) nofun (by decide) ?_
      refine JL_v (vo_move rfl) nofun (by decide) ?_
      refine JL_v (vo_indexAddr rfl rfl Try.underlying22 sz53 (by omega) (by omega)) nofun (by decide) ?_
      refine JL_v (vo_load rfl (by first | exact .frz ‹_› | exact .own (by repeat (first | exact .head _ | refine .tail _ ?_))) (by first | exact PartAt.whole Try.underlying53 rfl sz53 | exact .cell Try.underlying22 rfl (by simpa using hcell6) | exact .cell Try.underlying3 rfl (by simpa using hcell7) | exact pc_all hseg | (exact .cell Try.underlying29 rfl rfl) | (exact .cell Try.underlying26 rfl rfl))) nofun (by decide) ?_
      refine st_alloc zr53 (by decide) (fun b6 => ?_)
      refine st_storeW rfl rfl sz53 rfl (by repeat (first | exact .head _ _ _ | apply Turn.tail)) (by rfl) ?_
      refine JL_nil ?_
      refine JX_then ?_
      refine JC_seq ?_
      refine JC_drawM 7 (by kernel_rfl) (fun w hw => Mem.drew hw) ?_
      refine JR_v (i := 0) rfl (by kernel_rfl) (by kernel_rfl) rfl (by kernel_rfl) (by kernel_rfl) (panic_Then (panic_block (panic_Then (panic_then (panic_block (panic_block (panic_Then (panic_then (panic_block (panic_Then panic_body)))))))))) (by decide) (vo_load rfl (by first | exact .frz ‹_› | exact .own (by repeat (first | exact .head _ | refine .tail _ ?_))) (by first | exact PartAt.whole Try.underlying53 rfl sz53 | exact .cell Try.underlying22 rfl (by simpa using hcell6) | exact .cell Try.underlying3 rfl (by simpa using hcell7) | exact pc_all hseg | (exact .cell Try.underlying29 rfl rfl) | (exact .cell Try.underlying26 rfl rfl))) (fun w hw => hw) ?_
      refine JR_v (i := 1) rfl (by kernel_rfl) (by kernel_rfl) rfl (by kernel_rfl) (by kernel_rfl) (panic_Then (panic_block (panic_Then (panic_then (panic_block (panic_block (panic_Then (panic_then (panic_block (panic_Then panic_body)))))))))) (by decide) (vo_move rfl) (fun w hw => hw) ?_
      refine JR_v (i := 2) rfl (by kernel_rfl) (by kernel_rfl) rfl (by kernel_rfl) (by kernel_rfl) (panic_Then (panic_block (panic_Then (panic_then (panic_block (panic_block (panic_Then (panic_then (panic_block (panic_Then panic_body)))))))))) (by decide) (vo_move rfl) (fun w hw => hw) ?_
      refine JR_v (i := 3) rfl (by kernel_rfl) (by kernel_rfl) rfl (by kernel_rfl) (by kernel_rfl) (panic_Then (panic_block (panic_Then (panic_then (panic_block (panic_block (panic_Then (panic_then (panic_block (panic_Then panic_body)))))))))) (by decide) (vo_sub rfl rfl (by omega) (by omega)) (fun w hw => hw) ?_
      refine JR_split [4] (by kernel_rfl) rfl (all1 ?_)
      refine JK_scall rfl trivial rfl en72 (by decide) (fun w hw => word_spec ((k : Int) - (en1.length : Int)) (by omega) w) (fun w hw => hw) ?_
      rintro _ rfl
      refine JR_v (i := 5) rfl (by kernel_rfl) (by kernel_rfl) rfl (by kernel_rfl) (by kernel_rfl) (panic_Then (panic_block (panic_Then (panic_then (panic_block (panic_block (panic_Then (panic_then (panic_block (panic_Then panic_body)))))))))) (by decide) (vo_build rfl (by first | exact bl53 _)) (fun w hw => hw) ?_
      refine JR_v (i := 6) rfl (by kernel_rfl) (by kernel_rfl) rfl (by kernel_rfl) (by kernel_rfl) (panic_Then (panic_block (panic_Then (panic_then (panic_block (panic_block (panic_Then (panic_then (panic_block (panic_Then panic_body)))))))))) (by decide) (vo_eqS rfl rfl rfl eg53 (eqv53 _ _)) (fun w hw => hw) ?_
      refine JR_done (by kernel_rfl) ?_
      refine JX_then ?_
      refine JC_cond _ rfl (fun hc52 => ?_) (fun hc52 => ?_)
      · have h9 : (⟨wordP ((k : Int) - en1.length), zeroVal, zeroVal⟩ : Chg) = spareC (k - en1.length) := by unfold spareC; congr 2; omega
        exfalso
        rw [h9, chEq_iff.2 rfl] at hc52
        simp at hc52
      · refine JC_skip ?_
        refine JX_block ?_
        refine JX_then ?_
        refine JC_region ?_
        refine JL_v (vo_move rfl) nofun (by decide) ?_
        refine JL_v (vo_add rfl rfl (by omega) (by omega)) nofun (by decide) ?_
        refine JL_v (vo_assign rfl) nofun (by decide) ?_
        refine JL_nil ?_
        refine JX_loop ⟨k + 1, by omega, by omega⟩ (by show en1.length + 40 - (k + 1) < en1.length + 40 - k; omega) (by repeat (first | exact trivial | refine ⟨rfl, ?_⟩ | refine ⟨trivial, ?_⟩)) (fun w hw => hw.sub (List.nil_sublist _))
    · refine JC_exit ?_
      refine JX_then_exit ?_
      refine JX_thenK_exit ?_
      refine JX_block_exit ?_
      refine JX_block ?_
      refine JX_then ?_
      refine JC_region ?_
      refine JL_v (vo_move rfl) nofun (by decide) ?_
      refine JL_v (vo_add rfl rfl (by omega) (by omega)) nofun (by decide) ?_
      refine JL_v (vo_assign rfl) nofun (by decide) ?_
      refine JL_nil ?_
      refine JX_loop ⟨i + 1, by omega⟩ (by show ents.length - (i + 1) < ents.length - i; omega) (by repeat (first | exact trivial | refine ⟨rfl, ?_⟩ | refine ⟨trivial, ?_⟩)) (fun w hw => hw.sub (List.nil_sublist _))
  · refine JC_exit ?_
    refine JX_then_exit ?_
    refine JX_thenK_exit ?_
    refine JX_block_exit ?_
    refine JX_then ?_
    refine JC_seq ?_
    refine JC_region ?_
    refine JL_v (vo_assign rfl) nofun (by decide) ?_
    refine JL_nil ?_
    refine JX_then ?_
    refine JC_ret ?_
    refine ret1 rfl rfl ?_
    intro w1 hM; exact SC_end hM rfl

end Go.Eng

set_option linter.unusedVariables false
set_option linter.unusedSimpArgs false
namespace Go.Eng
open Go Go.RowKit Go.Proofs
theorem en39 : Enters Try.prog 39 := ⟨_, Try.func39, by kernel_rfl, by kernel_rfl⟩
theorem en40 : Enters Try.prog 40 := ⟨_, Try.func40, by kernel_rfl, by kernel_rfl⟩
theorem en41 : Enters Try.prog 41 := ⟨_, Try.func41, by kernel_rfl, by kernel_rfl⟩
theorem en42 : Enters Try.prog 42 := ⟨_, Try.func42, by kernel_rfl, by kernel_rfl⟩
theorem en43 : Enters Try.prog 43 := ⟨_, Try.func43, by kernel_rfl, by kernel_rfl⟩
theorem en44 : Enters Try.prog 44 := ⟨_, Try.func44, by kernel_rfl, by kernel_rfl⟩
theorem en45 : Enters Try.prog 45 := ⟨_, Try.func45, by kernel_rfl, by kernel_rfl⟩
theorem en46 : Enters Try.prog 46 := ⟨_, Try.func46, by kernel_rfl, by kernel_rfl⟩
theorem en47 : Enters Try.prog 47 := ⟨_, Try.func47, by kernel_rfl, by kernel_rfl⟩
theorem en48 : Enters Try.prog 48 := ⟨_, Try.func48, by kernel_rfl, by kernel_rfl⟩
theorem en49 : Enters Try.prog 49 := ⟨_, Try.func49, by kernel_rfl, by kernel_rfl⟩
theorem en50 : Enters Try.prog 50 := ⟨_, Try.func50, by kernel_rfl, by kernel_rfl⟩
theorem en51 : Enters Try.prog 51 := ⟨_, Try.func51, by kernel_rfl, by kernel_rfl⟩

set_option maxRecDepth 8000 in
set_option maxHeartbeats 1000000 in
theorem hold_spec (rm : Nat) (v6 v7 : Value) (ents : List (List Chg × Value)) (w : World) (hb : FB (fun b => b < w.heap.size) w rm (roomO v6 v7)) (hr6 : RVals (fun b => b < w.heap.size) w (ents.map (·.2)) v6) (hr7 : RVals (fun b => b < w.heap.size) w (ents.map fun e => .int .i64 e.1.length) v7) (hE : ∀ e ∈ ents, e.1.length ≤ 1000000 ∧ RItems (fun b => b < w.heap.size) w 71 chC (e.1 ++ sparesC 40) e.2) : SCalls Try.prog 12 #[.pointer (some ⟨rm, 0, none⟩)] w (fun u => u = .bool true) := by
  refine enter (N := 70) Try.func12 rfl Try.ntmps12 (Nat.le_of_ble_eq_true rfl) [(0, .pointer (some ⟨rm, 0, none⟩))] (by repeat (first | exact trivial | refine ⟨rfl, ?_⟩)) (Mem.start w (fun _ => False) (fun b => b < w.heap.size) (fun _ h => h)) ?_
  refine JC_seq ?_
  refine JC_region ?_
  refine JL_v (vo_assign rfl) nofun (by decide) ?_
  refine JL_nil ?_
  refine JX_then ?_
  refine JC_seq ?_
  refine JC_region ?_
  refine JL_v (vo_assign rfl) nofun (by decide) ?_
  refine JL_nil ?_
  refine JX_then ?_
  refine JC_seq ?_
  refine JC_region ?_
  refine JL_v (vo_move rfl) nofun (by decide) ?_
  refine JL_v (vo_move rfl) nofun (by decide) ?_
  refine JL_case 5 rfl (fun hg5 => ?_) (fun hg5 => absurd hg5 (by simp))
  refine JL_yes rfl rfl ?_
  refine JL_v (vo_move rfl) nofun (by decide) ?_
  refine JL_yes rfl rfl ?_
  refine st_scall rfl en39 (by decide) (fun w hw => hold39_spec rm v6 v7 w (hw.ext_all.fb _ _ hb)) ?_
  rintro _ rfl
  refine JL_v (vo_pick rfl rfl) nofun (by decide) ?_
  refine JL_v (vo_assign rfl) nofun (by decide) ?_
  refine JL_nil ?_
  refine JX_then ?_
  refine JC_seq ?_
  refine JC_region ?_
  refine JL_v (vo_move rfl) nofun (by decide) ?_
  refine JL_v (vo_move rfl) nofun (by decide) ?_
  refine JL_case 10 rfl (fun hg10 => ?_) (fun hg10 => absurd hg10 (by simp))
  refine JL_yes rfl rfl ?_
  refine JL_v (vo_move rfl) nofun (by decide) ?_
  refine JL_yes rfl rfl ?_
  refine st_scall rfl en40 (by decide) (fun w hw => hold40_spec rm v6 v7 w (hw.ext_all.fb _ _ hb)) ?_
  rintro _ rfl
  refine JL_v (vo_pick rfl rfl) nofun (by decide) ?_
  refine JL_v (vo_assign rfl) nofun (by decide) ?_
  refine JL_nil ?_
  refine JX_then ?_
  refine JC_seq ?_
  refine JC_region ?_
  refine JL_v (vo_move rfl) nofun (by decide) ?_
  refine JL_v (vo_move rfl) nofun (by decide) ?_
  refine JL_case 15 rfl (fun hg15 => ?_) (fun hg15 => absurd hg15 (by simp))
  refine JL_yes rfl rfl ?_
  refine JL_v (vo_move rfl) nofun (by decide) ?_
  refine JL_yes rfl rfl ?_
  refine st_scall rfl en41 (by decide) (fun w hw => hold41_spec rm v6 v7 w (hw.ext_all.fb _ _ hb)) ?_
  rintro _ rfl
  refine JL_v (vo_pick rfl rfl) nofun (by decide) ?_
  refine JL_v (vo_assign rfl) nofun (by decide) ?_
  refine JL_nil ?_
  refine JX_then ?_
  refine JC_seq ?_
  refine JC_region ?_
  refine JL_v (vo_move rfl) nofun (by decide) ?_
  refine JL_v (vo_move rfl) nofun (by decide) ?_
  refine JL_case 20 rfl (fun hg20 => ?_) (fun hg20 => absurd hg20 (by simp))
  refine JL_yes rfl rfl ?_
  refine JL_v (vo_move rfl) nofun (by decide) ?_
  refine JL_yes rfl rfl ?_
  refine st_scall rfl en42 (by decide) (fun w hw => hold42_spec rm v6 v7 ents w (hw.ext_all.fb _ _ hb) (hr6.ext hw.ext_all) (hr7.ext hw.ext_all) (fun e he => ⟨(hE e he).1, (hE e he).2.ext hw.ext_all⟩)) ?_
  rintro _ rfl
  refine JL_v (vo_pick rfl rfl) nofun (by decide) ?_
  refine JL_v (vo_assign rfl) nofun (by decide) ?_
  refine JL_nil ?_
  refine JX_then ?_
  refine JC_seq ?_
  refine JC_region ?_
  refine JL_v (vo_move rfl) nofun (by decide) ?_
  refine JL_v (vo_move rfl) nofun (by decide) ?_
  refine JL_case 25 rfl (fun hg25 => ?_) (fun hg25 => absurd hg25 (by simp))
  refine JL_yes rfl rfl ?_
  refine JL_v (vo_move rfl) nofun (by decide) ?_
  refine JL_yes rfl rfl ?_
  refine st_scall rfl en43 (by decide) (fun w hw => hold43_spec rm v6 v7 w (hw.ext_all.fb _ _ hb)) ?_
  rintro _ rfl
  refine JL_v (vo_pick rfl rfl) nofun (by decide) ?_
  refine JL_v (vo_assign rfl) nofun (by decide) ?_
  refine JL_nil ?_
  refine JX_then ?_
  refine JC_seq ?_
  refine JC_region ?_
  refine JL_v (vo_move rfl) nofun (by decide) ?_
  refine JL_v (vo_move rfl) nofun (by decide) ?_
  refine JL_case 30 rfl (fun hg30 => ?_) (fun hg30 => absurd hg30 (by simp))
  refine JL_yes rfl rfl ?_
  refine JL_v (vo_move rfl) nofun (by decide) ?_
  refine JL_yes rfl rfl ?_
  refine st_scall rfl en44 (by decide) (fun w hw => hold44_spec rm v6 v7 w (hw.ext_all.fb _ _ hb)) ?_
  rintro _ rfl
  refine JL_v (vo_pick rfl rfl) nofun (by decide) ?_
  refine JL_v (vo_assign rfl) nofun (by decide) ?_
  refine JL_nil ?_
  refine JX_then ?_
  refine JC_seq ?_
  refine JC_region ?_
  refine JL_v (vo_move rfl) nofun (by decide) ?_
  refine JL_v (vo_move rfl) nofun (by decide) ?_
  refine JL_case 35 rfl (fun hg35 => ?_) (fun hg35 => absurd hg35 (by simp))
  refine JL_yes rfl rfl ?_
  refine JL_v (vo_move rfl) nofun (by decide) ?_
  refine JL_yes rfl rfl ?_
  refine st_scall rfl en45 (by decide) (fun w hw => hold45_spec rm v6 v7 w (hw.ext_all.fb _ _ hb)) ?_
  rintro _ rfl
  refine JL_v (vo_pick rfl rfl) nofun (by decide) ?_
  refine JL_v (vo_assign rfl) nofun (by decide) ?_
  refine JL_nil ?_
  refine JX_then ?_
  refine JC_seq ?_
  refine JC_region ?_
  refine JL_v (vo_move rfl) nofun (by decide) ?_
  refine JL_v (vo_move rfl) nofun (by decide) ?_
  refine JL_case 40 rfl (fun hg40 => ?_) (fun hg40 => absurd hg40 (by simp))
  refine JL_yes rfl rfl ?_
  refine JL_v (vo_move rfl) nofun (by decide) ?_
  refine JL_yes rfl rfl ?_
  refine st_scall rfl en46 (by decide) (fun w hw => hold46_spec rm v6 v7 w (hw.ext_all.fb _ _ hb)) ?_
  rintro _ rfl
  refine JL_v (vo_pick rfl rfl) nofun (by decide) ?_
  refine JL_v (vo_assign rfl) nofun (by decide) ?_
  refine JL_nil ?_
  refine JX_then ?_
  refine JC_seq ?_
  refine JC_region ?_
  refine JL_v (vo_move rfl) nofun (by decide) ?_
  refine JL_v (vo_move rfl) nofun (by decide) ?_
  refine JL_case 45 rfl (fun hg45 => ?_) (fun hg45 => absurd hg45 (by simp))
  refine JL_yes rfl rfl ?_
  refine JL_v (vo_move rfl) nofun (by decide) ?_
  refine JL_yes rfl rfl ?_
  refine st_scall rfl en47 (by decide) (fun w hw => hold47_spec rm v6 v7 w (hw.ext_all.fb _ _ hb)) ?_
  rintro _ rfl
  refine JL_v (vo_pick rfl rfl) nofun (by decide) ?_
  refine JL_v (vo_assign rfl) nofun (by decide) ?_
  refine JL_nil ?_
  refine JX_then ?_
  refine JC_seq ?_
  refine JC_region ?_
  refine JL_v (vo_move rfl) nofun (by decide) ?_
  refine JL_v (vo_move rfl) nofun (by decide) ?_
  refine JL_case 50 rfl (fun hg50 => ?_) (fun hg50 => absurd hg50 (by simp))
  refine JL_yes rfl rfl ?_
  refine JL_v (vo_move rfl) nofun (by decide) ?_
  refine JL_yes rfl rfl ?_
  refine st_scall rfl en48 (by decide) (fun w hw => hold48_spec rm v6 v7 w (hw.ext_all.fb _ _ hb)) ?_
  rintro _ rfl
  refine JL_v (vo_pick rfl rfl) nofun (by decide) ?_
  refine JL_v (vo_assign rfl) nofun (by decide) ?_
  refine JL_nil ?_
  refine JX_then ?_
  refine JC_seq ?_
  refine JC_region ?_
  refine JL_v (vo_move rfl) nofun (by decide) ?_
  refine JL_v (vo_move rfl) nofun (by decide) ?_
  refine JL_case 55 rfl (fun hg55 => ?_) (fun hg55 => absurd hg55 (by simp))
  refine JL_yes rfl rfl ?_
  refine JL_v (vo_move rfl) nofun (by decide) ?_
  refine JL_yes rfl rfl ?_
  refine st_scall rfl en49 (by decide) (fun w hw => hold49_spec rm v6 v7 w (hw.ext_all.fb _ _ hb)) ?_
  rintro _ rfl
  refine JL_v (vo_pick rfl rfl) nofun (by decide) ?_
  refine JL_v (vo_assign rfl) nofun (by decide) ?_
  refine JL_nil ?_
  refine JX_then ?_
  refine JC_seq ?_
  refine JC_region ?_
  refine JL_v (vo_move rfl) nofun (by decide) ?_
  refine JL_v (vo_move rfl) nofun (by decide) ?_
  refine JL_case 60 rfl (fun hg60 => ?_) (fun hg60 => absurd hg60 (by simp))
  refine JL_yes rfl rfl ?_
  refine JL_v (vo_move rfl) nofun (by decide) ?_
  refine JL_yes rfl rfl ?_
  refine st_scall rfl en50 (by decide) (fun w hw => hold50_spec rm v6 v7 w (hw.ext_all.fb _ _ hb)) ?_
  rintro _ rfl
  refine JL_v (vo_pick rfl rfl) nofun (by decide) ?_
  refine JL_v (vo_assign rfl) nofun (by decide) ?_
  refine JL_nil ?_
  refine JX_then ?_
  refine JC_seq ?_
  refine JC_region ?_
  refine JL_v (vo_move rfl) nofun (by decide) ?_
  refine JL_v (vo_move rfl) nofun (by decide) ?_
  refine JL_case 65 rfl (fun hg65 => ?_) (fun hg65 => absurd hg65 (by simp))
  refine JL_yes rfl rfl ?_
  refine JL_v (vo_move rfl) nofun (by decide) ?_
  refine JL_yes rfl rfl ?_
  refine st_scall rfl en51 (by decide) (fun w hw => hold51_spec rm v6 v7 w (hw.ext_all.fb _ _ hb)) ?_
  rintro _ rfl
  refine JL_v (vo_pick rfl rfl) nofun (by decide) ?_
  refine JL_v (vo_assign rfl) nofun (by decide) ?_
  refine JL_nil ?_
  refine JX_then ?_
  refine JC_seq ?_
  refine JC_region ?_
  refine JL_v (vo_move rfl) nofun (by decide) ?_
  refine JL_v (vo_assign rfl) nofun (by decide) ?_
  refine JL_nil ?_
  refine JX_then ?_
  refine JC_ret ?_
  refine ret1 rfl rfl ?_
  intro w1 hM; exact SC_end hM rfl

end Go.Eng
