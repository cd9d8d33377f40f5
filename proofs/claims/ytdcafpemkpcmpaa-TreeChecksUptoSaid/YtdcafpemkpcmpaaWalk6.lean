/-
  Part of the proofs over this seat: W14 W15. Own work; imports the kit.
-/
import Derived.Test.YtdcafpemkpcmpaaWalk5
set_option linter.unusedVariables false
set_option linter.unusedSimpArgs false
namespace Go.Eng
open Go Go.RowKit Go.Proofs
theorem ap124 : (Try.prog.info? 124).map (fun i => (i.zero, i.size, i.bytes)) = some (some (.agg (pvC (⟨#[]⟩, zeroVal)).toArray), 36, 72) := by kernel_rfl
theorem sz124 : (Try.prog.info? 124).map (·.size) = some 36 := by kernel_rfl
theorem sz4 : (Try.prog.info? 4).map (·.size) = some 1 := by kernel_rfl
theorem sz73 : (Try.prog.info? 73).map (·.size) = some 1 := by kernel_rfl

set_option maxRecDepth 8000 in
set_option maxHeartbeats 1000000 in
theorem takes82 (xs : List (ByteArray × Val)) (hlen : xs.length ≤ 100000000) (n : Int) (bw bn bl : Nat) (Zf : Nat → Prop) (wf : World) (hfb0 : FB Zf wf bn (.cells #[.int .i64 n] 3 (0, 0))) : TakesPV 82 #[.pointer (some ⟨bw, 0, none⟩), .pointer (some ⟨bn, 0, none⟩), .pointer (some ⟨bl, 0, none⟩)] xs (cont82 n) (H82 n xs bw bl) Zf wf := by
  intro i p v L w hx hH hL hE
  obtain ⟨vl, hLe⟩ := hH
  obtain ⟨A, c, rfl⟩ := hold_slice (sz := 36) (e := 124) (v := vl) hL (by rw [hLe]; exact .head _)
  obtain ⟨L2, hL2, hM0⟩ : ∃ L2, L2 = L ∧ Mem w (EL L) (ZL L w) (ZL L w) w L2 w := ⟨L, rfl, Mem.startL hL⟩
  rw [hLe] at hL2
  subst hL2
  have hfb := hE.fb _ _ hfb0
  have hix := (List.getElem?_eq_some_iff.1 hx).1
  refine enter (N := 33) Try.func82 rfl Try.ntmps82 (Nat.le_of_ble_eq_true rfl) [(0, .string p), (1, .agg (valC v).toArray), (2, .pointer (some ⟨bw, 0, none⟩)), (3, .pointer (some ⟨bn, 0, none⟩)), (4, .pointer (some ⟨bl, 0, none⟩))] (by repeat (first | exact trivial | refine ⟨rfl, ?_⟩)) (hM0) ?_
  refine JC_seq ?_
  refine JC_region ?_
  refine st_box rfl (by decide) (fun b6 => ?_)
  refine JL_v (vo_assign rfl) nofun (by decide) ?_
  refine JL_nil ?_
  refine JX_then ?_
  refine JC_seq ?_
  refine JC_join (α := { c : Bool // c = well82 n (i + 1) }) (fun _ => []) (fun y => Mem w (EL L) (ZL L w) (ZL L w) w  [.blk b6 (.cells (valC v).toArray 24 (0, 0)), .row (.slice A i c) 124 36 i ((xs.take i).flatMap pvC), .blk bw (.cells #[.bool y.1] 4 (0, 0)), .blk bl (.cells #[.slice A i c] 73 (0, 0))]) ?_ (fun y => ?_)
  · refine JC_region ?_
    refine JL_v (vo_load rfl (by first | exact .frz ‹_› | exact .own (by repeat (first | exact .head _ | refine .tail _ ?_))) (by first | exact .cell Try.underlying4 rfl rfl)) nofun (by decide) ?_
    refine JL_v (vo_move rfl) nofun (by decide) ?_
    refine JL_case 9 rfl (fun hg9 => ?_) (fun hg9 => ?_)
    · refine JL_yes rfl rfl ?_
      refine JL_v (vo_load rfl (by first | exact .frz ‹_› | exact .own (by repeat (first | exact .head _ | refine .tail _ ?_))) (by first | exact .cell Try.underlying3 rfl rfl)) nofun (by decide) ?_
      refine JL_yes rfl rfl ?_
      refine JL_v (vo_cmp rfl rfl rfl) nofun (by decide) ?_
      refine JL_yes rfl rfl ?_
      refine JL_v (vo_move rfl) nofun (by decide) ?_
      refine JL_case 12 rfl (fun hg12 => ?_) (fun hg12 => ?_)
      · refine JL_no rfl rfl (by decide) ?_
        refine JL_no rfl rfl (by decide) ?_
        refine JL_no rfl rfl (by decide) ?_
        refine JL_no rfl rfl (by decide) ?_
        refine JL_yes rfl rfl ?_
        refine JL_v (vo_pick rfl rfl) nofun (by decide) ?_
        refine JL_v (vo_pick rfl rfl) nofun (by decide) ?_
        refine st_store rfl rfl sz4 (by first | exact one_of_all rfl | assumption) (by repeat (first | exact .head _ _ _ | apply Turn.tail)) (by exact Nat.le_of_ble_eq_true rfl) (by rfl) ?_
        refine JL_nil ?_
        refine JX_join ⟨_, ?_⟩ (by repeat (first | exact trivial | refine ⟨rfl, ?_⟩ | refine ⟨trivial, ?_⟩)) (fun w hw => hw)
        rw [Bool.eq_iff_iff]; clear hM0 hL hE hfb hLe; simp_all [well82] <;> first | omega | (cases hq : Int.decLt (i : Int) n <;> simp_all <;> omega)
      · refine JL_yes rfl rfl ?_
        refine JL_v (vo_load rfl (by first | exact .frz ‹_› | exact .own (by repeat (first | exact .head _ | refine .tail _ ?_))) (by first | exact .cell Try.underlying73 rfl rfl)) nofun (by decide) ?_
        refine JL_yes rfl rfl ?_
        refine JL_v (vo_len rfl Try.underlying73) nofun (by decide) ?_
        refine JL_yes rfl rfl ?_
        refine JL_v (vo_load rfl (by first | exact .frz ‹_› | exact .own (by repeat (first | exact .head _ | refine .tail _ ?_))) (by first | exact .cell Try.underlying3 rfl rfl)) nofun (by decide) ?_
        refine JL_yes rfl rfl ?_
        refine JL_v (vo_cmp rfl rfl rfl) nofun (by decide) ?_
        refine JL_yes rfl rfl ?_
        refine JL_v (vo_pick rfl rfl) nofun (by decide) ?_
        refine JL_v (vo_pick rfl rfl) nofun (by decide) ?_
        refine st_store rfl rfl sz4 (by first | exact one_of_all rfl | assumption) (by repeat (first | exact .head _ _ _ | apply Turn.tail)) (by exact Nat.le_of_ble_eq_true rfl) (by rfl) ?_
        refine JL_nil ?_
        refine JX_join ⟨_, ?_⟩ (by repeat (first | exact trivial | refine ⟨rfl, ?_⟩ | refine ⟨trivial, ?_⟩)) (fun w hw => hw)
        rw [Bool.eq_iff_iff]; clear hM0 hL hE hfb hLe; simp_all [well82] <;> first | omega | (cases hq : Int.decLt (i : Int) n <;> simp_all <;> omega)
    · refine JL_no rfl rfl (by decide) ?_
      refine JL_no rfl rfl (by decide) ?_
      refine JL_no rfl rfl (by decide) ?_
      refine JL_nou rfl rfl (by decide) ?_
      refine JL_nou rfl rfl (by decide) ?_
      refine JL_nou rfl rfl (by decide) ?_
      refine JL_nou rfl rfl (by decide) ?_
      refine JL_no rfl rfl (by decide) ?_
      refine JL_v (vo_pick rfl rfl) nofun (by decide) ?_
      refine st_store rfl rfl sz4 (by first | exact one_of_all rfl | assumption) (by repeat (first | exact .head _ _ _ | apply Turn.tail)) (by exact Nat.le_of_ble_eq_true rfl) (by rfl) ?_
      refine JL_nil ?_
      refine JX_join ⟨_, ?_⟩ (by repeat (first | exact trivial | refine ⟨rfl, ?_⟩ | refine ⟨trivial, ?_⟩)) (fun w hw => hw)
      rw [Bool.eq_iff_iff]; clear hM0 hL hE hfb hLe; simp_all [well82] <;> first | omega | (cases hq : Int.decLt (i : Int) n <;> simp_all <;> omega)
  · obtain ⟨_, rfl⟩ := y
    refine JX_then ?_
    refine JC_seq ?_
    refine JC_region ?_
    refine JL_v (vo_load rfl (by first | exact .frz ‹_› | exact .own (by repeat (first | exact .head _ | refine .tail _ ?_))) (by first | exact .cell Try.underlying73 rfl rfl)) nofun (by decide) ?_
    refine JL_v (vo_move rfl) nofun (by decide) ?_
    refine JL_v (vo_load rfl (by first | exact .frz ‹_› | exact .own (by repeat (first | exact .head _ | refine .tail _ ?_))) (by first | exact PartAt.whole Try.underlying24 rfl sz24)) nofun (by decide) ?_
    refine JL_v (vo_build rfl (by first | exact bl124 _ _)) nofun (by decide) ?_
    refine st_bslice1 rfl Try.underlying73 (by first | exact zr124) sz124 (by exact Nat.le_of_ble_eq_true rfl) (by exact Nat.ne_of_gt (Nat.le_of_ble_eq_true rfl)) (by decide) (fun b23 => ?_)
    refine st_appendB rfl rfl Try.underlying73 ap124 (by rfl) (by decide) (by first | exact .frz ‹_› | exact .own (by repeat (first | exact .head _ | refine .tail _ ?_))) (by repeat (first | exact .head _ | apply TurnF.tail)) (by rfl) (by first | exact one_of_all rfl | assumption) (by omega) (by decide) (by decide) (fun v24 => ?_)
    refine JL_rowSlice (v := v24) (e := 124) (sz := 36) (by repeat (first | exact .head _ | apply List.Mem.tail)) (fun A24 c24 h24 => ?_)
    subst h24
    refine st_store rfl rfl sz73 (by first | exact one_of_all rfl | assumption) (by repeat (first | exact .head _ _ _ | apply Turn.tail)) (by exact Nat.le_of_ble_eq_true rfl) (by rfl) ?_
    refine JL_nil ?_
    refine JX_then ?_
    refine JC_seq ?_
    refine JC_region ?_
    refine JL_v (vo_load rfl (by first | exact .frz ‹_› | exact .own (by repeat (first | exact .head _ | refine .tail _ ?_))) (by first | exact .cell Try.underlying3 rfl rfl)) nofun (by decide) ?_
    refine JL_v (vo_cmp rfl rfl rfl) nofun (by decide) ?_
    refine JL_v (vo_move rfl) nofun (by decide) ?_
    refine JL_case 27 rfl (fun hg27 => ?_) (fun hg27 => ?_)
    · refine JL_no rfl rfl (by decide) ?_
      refine JL_no rfl rfl (by decide) ?_
      refine JL_no rfl rfl (by decide) ?_
      refine JL_no rfl rfl (by decide) ?_
      refine JL_v (vo_pick rfl rfl) nofun (by decide) ?_
      refine JL_v (vo_assign rfl) nofun (by decide) ?_
      refine JL_nil ?_
      refine JX_then ?_
      refine JC_ret ?_
      refine ret1 rfl rfl ?_
      intro w1 hM
      refine MC_end (hM.sub (.cons _ (.cons _ (List.Sublist.refl _)))) ⟨?_, .slice A24 (i + 1) c24, ?_⟩
      · simp_all [cont82] <;> omega
      · rw [take_snoc_get hx, List.flatMap_append]; simp; exact ⟨rfl, rfl⟩
    · refine JL_yes rfl rfl ?_
      refine JL_v (vo_load rfl (by first | exact .frz ‹_› | exact .own (by repeat (first | exact .head _ | refine .tail _ ?_))) (by first | exact .cell Try.underlying73 rfl rfl)) nofun (by decide) ?_
      refine JL_yes rfl rfl ?_
      refine JL_v (vo_len rfl Try.underlying73) nofun (by decide) ?_
      refine JL_yes rfl rfl ?_
      refine JL_v (vo_load rfl (by first | exact .frz ‹_› | exact .own (by repeat (first | exact .head _ | refine .tail _ ?_))) (by first | exact .cell Try.underlying3 rfl rfl)) nofun (by decide) ?_
      refine JL_yes rfl rfl ?_
      refine JL_v (vo_cmp rfl rfl rfl) nofun (by decide) ?_
      refine JL_v (vo_pick rfl rfl) nofun (by decide) ?_
      refine JL_v (vo_assign rfl) nofun (by decide) ?_
      refine JL_nil ?_
      refine JX_then ?_
      refine JC_ret ?_
      refine ret1 rfl rfl ?_
      intro w1 hM
      refine MC_end (hM.sub (.cons _ (.cons _ (List.Sublist.refl _)))) ⟨?_, .slice A24 (i + 1) c24, ?_⟩
      · simp_all [cont82] <;> omega
      · rw [take_snoc_get hx, List.flatMap_append]; simp; exact ⟨rfl, rfl⟩

end Go.Eng

set_option linter.unusedVariables false
set_option linter.unusedSimpArgs false
namespace Go.Eng
open Go Go.RowKit Go.Proofs
theorem fo124_0 : fieldOff Try.prog 124 0 = some 0 := by kernel_rfl
theorem fo124_1 : fieldOff Try.prog 124 1 = some 1 := by kernel_rfl
theorem fo78_0 : fieldOff Try.prog 78 0 = some 0 := by kernel_rfl
theorem fo78_1 : fieldOff Try.prog 78 1 = some 1 := by kernel_rfl
theorem zr4 : (Try.prog.info? 4).bind (·.zero) = some (.bool false) := by kernel_rfl
theorem zr73 : (Try.prog.info? 73).bind (·.zero) = some (.slice none 0 0) := by kernel_rfl

theorem en82 : Enters Try.prog 82 := ⟨_, Try.func82, by kernel_rfl, by kernel_rfl⟩
theorem en79 : Enters Try.prog 79 := ⟨_, Try.func79, by kernel_rfl, by kernel_rfl⟩

set_option maxRecDepth 8000 in
set_option maxHeartbeats 1000000 in
theorem spots_spec {Z : Nat → Prop} (T : Tr) (b c : Nat) (n : Int) (hlen : (allT T ⟨#[]⟩).length ≤ 100000000) (hxs : ∀ (j : Nat) (p : ByteArray) (v : Val), (allT T ⟨#[]⟩)[j]? = some (p, v) → p.size ≤ 4611686018427387000) (w : World) (hz : ∀ b, Z b → b < w.heap.size) (hT : RTree Z w T b) (hfc : FB Z w c (.cells #[ptrV b] 55 (0, 0))) : PCalls Try.prog 23 #[.func (.func 79) #[] #[.pointer (some ⟨c, 0, none⟩)], .int .i64 n] w Z (fun Z' w' u => ∃ v, u = .tuple #[v, .bool true] ∧ RItems Z' w' 36 pvC ((allT T ⟨#[]⟩).take (taken n (allT T ⟨#[]⟩).length)) v) := by
  refine enter (N := 13) Try.func23 rfl Try.ntmps23 (Nat.le_of_ble_eq_true rfl) [(0, .func (.func 79) #[] #[.pointer (some ⟨c, 0, none⟩)]), (1, .int .i64 n)] (by repeat (first | exact trivial | refine ⟨rfl, ?_⟩)) (Mem.start w (fun _ => False) Z hz) ?_
  refine JC_seq ?_
  refine JC_region ?_
  refine st_box rfl (by decide) (fun b3 => ?_)
  refine JL_v (vo_assign rfl) nofun (by decide) ?_
  refine JL_v (vo_assign rfl) nofun (by decide) ?_
  refine JL_nil ?_
  refine JX_then ?_
  refine JC_seq ?_
  refine JC_region ?_
  refine st_alloc zr73 (by decide) (fun b6 => ?_)
  refine JL_nil ?_
  refine JX_then ?_
  refine JC_seq ?_
  refine JC_region ?_
  refine st_alloc zr4 (by decide) (fun b7 => ?_)
  refine st_store rfl rfl sz4 (by first | exact one_of_all rfl | assumption) (by repeat (first | exact .head _ _ _ | apply Turn.tail)) (by exact Nat.le_of_ble_eq_true rfl) (by rfl) ?_
  refine JL_nil ?_
  refine JX_then ?_
  refine JC_seq ?_
  refine JC_region ?_
  refine JL_freezeBlk (.tail _ (.tail _ (.head _ _))) (fun Z1 wz1 he1 hfb3 => ?_)
  refine JL_nilrow 124 36 ?_
  refine JL_v (vo_move rfl) nofun (by decide) ?_
  refine JL_v (vo_makeFunc rfl rfl) nofun (by decide) ?_
  refine st_mcallF0 rfl rfl en79 (by decide) (fun w1 hw => allseq_spec 82 en82 #[.pointer (some ⟨b7, 0, none⟩), .pointer (some ⟨b3, 0, none⟩), .pointer (some ⟨b6, 0, none⟩)] T b c (cont82 n) (H82 n (allT T ⟨#[]⟩) b7 b6) hxs Z1 wz1 (takes82 _ hlen n b7 b3 b6 Z1 wz1 hfb3) _ w1 ⟨.slice none 0 0, by rw [show well82 n 0 = true by simp [well82]; omega]; rfl⟩ hw.holds0 hw.ext_ZL0 ((hT.ext he1).ext hw.ext_ZL0) ((he1.trans hw.ext_ZL0).fb _ _ hfc)) ?_
  rintro _ L' ⟨rfl, vl, rfl⟩
  rw [fed82, well_taken]
  refine JL_rowSlice (v := vl) (e := 124) (sz := 36) (.head _) (fun A24 c24 h24 => ?_)
  subst h24
  refine JL_nil ?_
  refine JX_then ?_
  refine JC_seq ?_
  refine JC_drawM 4 (by kernel_rfl) (fun w hw => Mem.drew hw) ?_
  refine JR_v (i := 0) rfl (by kernel_rfl) (by kernel_rfl) rfl (by kernel_rfl) (by kernel_rfl) (panic_Then panic_body) (by decide) (vo_load rfl (by first | exact .frz ‹_› | exact .own (by repeat (first | exact .head _ | refine .tail _ ?_))) (by first | exact .cell Try.underlying73 rfl rfl)) (fun w hw => hw) ?_
  refine JR_v (i := 1) rfl (by kernel_rfl) (by kernel_rfl) rfl (by kernel_rfl) (by kernel_rfl) (panic_Then panic_body) (by decide) (vo_load rfl (by first | exact .frz ‹_› | exact .own (by repeat (first | exact .head _ | refine .tail _ ?_))) (by first | exact .cell Try.underlying4 rfl rfl)) (fun w hw => hw) ?_
  refine JR_v (i := 2) rfl (by kernel_rfl) (by kernel_rfl) rfl (by kernel_rfl) (by kernel_rfl) (panic_Then panic_body) (by decide) (vo_assign rfl) (fun w hw => hw) ?_
  refine JR_v (i := 3) rfl (by kernel_rfl) (by kernel_rfl) rfl (by kernel_rfl) (by kernel_rfl) (panic_Then panic_body) (by decide) (vo_assign rfl) (fun w hw => hw) ?_
  refine JR_done (by kernel_rfl) ?_
  refine JX_then ?_
  refine JC_ret ?_
  refine ret2 rfl rfl rfl ?_
  intro w1 hM
  have hl9 : ((allT T ⟨#[]⟩).take (taken n (allT T ⟨#[]⟩).length)).length = taken n (allT T ⟨#[]⟩).length := by
    rw [List.length_take]; unfold taken; split <;> omega
  generalize hys : (allT T ⟨#[]⟩).take (taken n (allT T ⟨#[]⟩).length) = ys at hM hl9 ⊢
  rw [← hl9] at hM ⊢
  obtain ⟨Z2, h1, h2, h3⟩ := hM.freezeItems pvC_length (.head _ _) (fun b hb => ((hM.sep _ (.head _) b hb).2).elim id (fun h => h.elim))
  exact ⟨_, rfl, h1.below, _, rfl, h3.ext h1.ext_end⟩
theorem valEq_refl (v : Val) : valEq v v = true := by simp [valEq, sumEq]
theorem beq_refl (p : ByteArray) : beq p p = true := by simp [beq]

set_option maxRecDepth 8000 in
set_option maxHeartbeats 1000000 in
theorem same_spec (l1 : List (ByteArray × Val)) (l2 : List RSpot) (hle : l1.length ≤ l2.length) (hsame : ∀ (i : Nat) (x : ByteArray × Val) (y : RSpot), l1[i]? = some x → l2[i]? = some y → x.1 = y.path ∧ x.2 = y.val) (k1 k2 : Value) (w : World) (hr1 : RItems (fun b => b < w.heap.size) w 36 pvC l1 k1) (hr2 : RItems (fun b => b < w.heap.size) w 40 spotC l2 k2) : SCalls Try.prog 24 #[k1, k2] w (fun u => u = .bool true) := by
  obtain ⟨A1, c1, rfl, hn1⟩ := hr1.slice
  obtain ⟨A2, c2, rfl, hn2⟩ := hr2.slice
  refine enter (N := 41) Try.func24 rfl Try.ntmps24 (Nat.le_of_ble_eq_true rfl) [(0, .slice A1 l1.length c1), (1, .slice A2 l2.length c2)] (by repeat (first | exact trivial | refine ⟨rfl, ?_⟩)) (Mem.start w (fun _ => False) (fun b => b < w.heap.size) (fun _ h => h)) ?_
  refine JC_seq ?_
  refine JC_region ?_
  refine JL_v (vo_assign rfl) nofun (by decide) ?_
  refine JL_nil ?_
  refine JX_then ?_
  refine JC_seq ?_
  refine JC_seq ?_
  refine JC_region ?_
  refine JL_v (vo_move rfl) nofun (by decide) ?_
  refine JL_v (vo_len rfl Try.underlying73) nofun (by decide) ?_
  refine JL_v (vo_move rfl) nofun (by decide) ?_
  refine JL_v (vo_len rfl Try.underlying69) nofun (by decide) ?_
  refine JL_v (vo_cmp rfl rfl rfl) nofun (by decide) ?_
  refine JL_nil ?_
  refine JX_then ?_
  refine JC_cond _ rfl (fun hc10 => ?_) (fun hc10 => ?_)
  · exfalso; simp at hc10; omega
  · refine JC_skip ?_
    refine JX_then ?_
    refine JC_seq ?_
    refine JC_seq ?_
    refine JC_region ?_
    refine JL_v (vo_assign rfl) nofun (by decide) ?_
    refine JL_nil ?_
    refine JX_then ?_
    refine JC_block ?_
    refine JC_loop (α := { i : Nat // i ≤ l1.length }) (fun i => [(0, .slice A1 l1.length c1), (1, .slice A2 l2.length c2), (5, .int .i64 i.1)]) (fun i => Mem w (fun _ => False) (fun b => b < w.heap.size) (fun b => b < w.heap.size) w []) (fun i => l1.length - i.1) ⟨0, by omega⟩ (by repeat (first | exact trivial | refine ⟨rfl, ?_⟩ | refine ⟨trivial, ?_⟩)) (fun w hw => hw) ?_
    rintro ⟨i, hile⟩
    dsimp only
    refine JC_seq ?_
    refine JC_seq ?_
    refine JC_region ?_
    refine JL_v (vo_move rfl) nofun (by decide) ?_
    refine JL_v (vo_move rfl) nofun (by decide) ?_
    refine JL_v (vo_len rfl Try.underlying73) nofun (by decide) ?_
    refine JL_v (vo_cmp rfl rfl rfl) nofun (by decide) ?_
    refine JL_nil ?_
    refine JX_then ?_
    refine JC_cond _ rfl (fun hc14 => ?_) (fun hc14 => ?_)
    · have hil : i < l1.length := by simp at hc14; omega
      obtain ⟨x, hx⟩ : ∃ x, l1[i]? = some x := ⟨_, List.getElem?_eq_getElem hil⟩
      obtain ⟨y, hy⟩ : ∃ y, l2[i]? = some y := ⟨_, List.getElem?_eq_getElem (by omega)⟩
      obtain ⟨b1', o1', c1', cs1, te1, fr1, hv1, hfb1, hseg1⟩ := hr1.at_ hx
      cases hv1
      obtain ⟨b2', o2', c2', cs2, te2, fr2, hv2, hfb2, hseg2⟩ := hr2.at_ hy
      cases hv2
      obtain ⟨hxy1, hxy2⟩ := hsame i x y hx hy
      refine JC_skip ?_
      refine JX_then ?_
      refine JC_seq ?_
      refine JC_block ?_
      refine JC_seq ?_
      refine JC_joinB 40 (false) ?_ ?_
      · refine JC_drawM 24 (by kernel_rfl) (fun w hw => Mem.drew hw) ?_
        refine JR_v (i := 0) rfl (by kernel_rfl) (by kernel_rfl) rfl (by kernel_rfl) (by kernel_rfl) (panic_then (panic_Then (panic_block (panic_Then (panic_then (panic_block (panic_Then panic_body))))))) (by decide) (vo_move rfl) (fun w hw => hw) ?_
        refine JR_v (i := 1) rfl (by kernel_rfl) (by kernel_rfl) rfl (by kernel_rfl) (by kernel_rfl) (panic_then (panic_Then (panic_block (panic_Then (panic_then (panic_block (panic_Then panic_body))))))) (by decide) (vo_move rfl) (fun w hw => hw) ?_
        refine JR_v (i := 2) rfl (by kernel_rfl) (by kernel_rfl) rfl (by kernel_rfl) (by kernel_rfl) (panic_then (panic_Then (panic_block (panic_Then (panic_then (panic_block (panic_Then panic_body))))))) (by decide) (vo_indexAddr rfl rfl Try.underlying73 sz124 (by omega) (by omega)) (fun w hw => hw) ?_
        refine JR_v (i := 3) rfl (by kernel_rfl) (by kernel_rfl) rfl (by kernel_rfl) (by kernel_rfl) (panic_then (panic_Then (panic_block (panic_Then (panic_then (panic_block (panic_Then panic_body))))))) (by decide) (vo_fieldAddr rfl fo124_0) (fun w hw => hw) ?_
        refine JR_v (i := 4) rfl (by kernel_rfl) (by kernel_rfl) rfl (by kernel_rfl) (by kernel_rfl) (panic_then (panic_Then (panic_block (panic_Then (panic_then (panic_block (panic_Then panic_body))))))) (by decide) (vo_load rfl (by first | exact .frz ‹_› | exact .own (by repeat (first | exact .head _ | refine .tail _ ?_))) (by first | exact .cell Try.underlying9 rfl rfl | exact .cell Try.underlying9 rfl (hseg1 0 _ rfl) | exact .cell Try.underlying9 rfl (hseg2 0 _ rfl) | exact .seg (l := valC x.2) (hseg1.sub 1 (fun j u hu => by rw [pvC, Nat.add_comm, List.getElem?_cons_succ]; exact hu)) Try.underlying24 rfl sz24 | exact .seg (l := valC y.val) (hseg2.sub 1 (fun j u hu => by rw [spotC, Nat.add_comm, List.getElem?_cons_succ, List.getElem?_append_left (List.getElem?_eq_some_iff.1 hu).1]; exact hu)) Try.underlying24 rfl sz24)) (fun w hw => hw) ?_
        refine JR_v (i := 5) rfl (by kernel_rfl) (by kernel_rfl) rfl (by kernel_rfl) (by kernel_rfl) (panic_then (panic_Then (panic_block (panic_Then (panic_then (panic_block (panic_Then panic_body))))))) (by decide) (vo_move rfl) (fun w hw => hw) ?_
        refine JR_v (i := 6) rfl (by kernel_rfl) (by kernel_rfl) rfl (by kernel_rfl) (by kernel_rfl) (panic_then (panic_Then (panic_block (panic_Then (panic_then (panic_block (panic_Then panic_body))))))) (by decide) (vo_move rfl) (fun w hw => hw) ?_
        refine JR_v (i := 7) rfl (by kernel_rfl) (by kernel_rfl) rfl (by kernel_rfl) (by kernel_rfl) (panic_then (panic_Then (panic_block (panic_Then (panic_then (panic_block (panic_Then panic_body))))))) (by decide) (vo_indexAddr rfl rfl Try.underlying69 sz78 (by omega) (by omega)) (fun w hw => hw) ?_
        refine JR_v (i := 8) rfl (by kernel_rfl) (by kernel_rfl) rfl (by kernel_rfl) (by kernel_rfl) (panic_then (panic_Then (panic_block (panic_Then (panic_then (panic_block (panic_Then panic_body))))))) (by decide) (vo_fieldAddr rfl fo78_0) (fun w hw => hw) ?_
        refine JR_v (i := 9) rfl (by kernel_rfl) (by kernel_rfl) rfl (by kernel_rfl) (by kernel_rfl) (panic_then (panic_Then (panic_block (panic_Then (panic_then (panic_block (panic_Then panic_body))))))) (by decide) (vo_load rfl (by first | exact .frz ‹_› | exact .own (by repeat (first | exact .head _ | refine .tail _ ?_))) (by first | exact .cell Try.underlying9 rfl rfl | exact .cell Try.underlying9 rfl (hseg1 0 _ rfl) | exact .cell Try.underlying9 rfl (hseg2 0 _ rfl) | exact .seg (l := valC x.2) (hseg1.sub 1 (fun j u hu => by rw [pvC, Nat.add_comm, List.getElem?_cons_succ]; exact hu)) Try.underlying24 rfl sz24 | exact .seg (l := valC y.val) (hseg2.sub 1 (fun j u hu => by rw [spotC, Nat.add_comm, List.getElem?_cons_succ, List.getElem?_append_left (List.getElem?_eq_some_iff.1 hu).1]; exact hu)) Try.underlying24 rfl sz24)) (fun w hw => hw) ?_
        refine JR_v (i := 10) rfl (by kernel_rfl) (by kernel_rfl) rfl (by kernel_rfl) (by kernel_rfl) (panic_then (panic_Then (panic_block (panic_Then (panic_then (panic_block (panic_Then panic_body))))))) (by decide) (vo_scmp rfl rfl rfl) (fun w hw => hw) ?_
        refine JR_v (i := 11) rfl (by kernel_rfl) (by kernel_rfl) rfl (by kernel_rfl) (by kernel_rfl) (panic_then (panic_Then (panic_block (panic_Then (panic_then (panic_block (panic_Then panic_body))))))) (by decide) (vo_move rfl) (fun w hw => hw) ?_
        refine JR_case 28 rfl (fun hg28 => absurd hg28 (by simp [hxy1, beq_refl])) (fun hg28 => ?_)
        refine JR_vy (i := 12) rfl rfl rfl (by kernel_rfl) (by kernel_rfl) rfl (by kernel_rfl) (by kernel_rfl) (panic_then (panic_Then (panic_block (panic_Then (panic_then (panic_block (panic_Then panic_body))))))) (by decide) (vo_move rfl) (fun w hw => hw) ?_
        refine JR_vy (i := 13) rfl rfl rfl (by kernel_rfl) (by kernel_rfl) rfl (by kernel_rfl) (by kernel_rfl) (panic_then (panic_Then (panic_block (panic_Then (panic_then (panic_block (panic_Then panic_body))))))) (by decide) (vo_move rfl) (fun w hw => hw) ?_
        refine JR_vy (i := 14) rfl rfl rfl (by kernel_rfl) (by kernel_rfl) rfl (by kernel_rfl) (by kernel_rfl) (panic_then (panic_Then (panic_block (panic_Then (panic_then (panic_block (panic_Then panic_body))))))) (by decide) (vo_indexAddr rfl rfl Try.underlying73 sz124 (by omega) (by omega)) (fun w hw => hw) ?_
        refine JR_vy (i := 15) rfl rfl rfl (by kernel_rfl) (by kernel_rfl) rfl (by kernel_rfl) (by kernel_rfl) (panic_then (panic_Then (panic_block (panic_Then (panic_then (panic_block (panic_Then panic_body))))))) (by decide) (vo_fieldAddr rfl fo124_1) (fun w hw => hw) ?_
        refine JR_vy (i := 16) rfl rfl rfl (by kernel_rfl) (by kernel_rfl) rfl (by kernel_rfl) (by kernel_rfl) (panic_then (panic_Then (panic_block (panic_Then (panic_then (panic_block (panic_Then panic_body))))))) (by decide) (vo_load rfl (by first | exact .frz ‹_› | exact .own (by repeat (first | exact .head _ | refine .tail _ ?_))) (by first | exact PartAt.whole Try.underlying24 rfl sz24 | exact .cell Try.underlying9 rfl (hseg1 0 _ rfl) | exact .cell Try.underlying9 rfl (hseg2 0 _ rfl) | exact .seg (l := valC x.2) (hseg1.sub 1 (fun j u hu => by rw [pvC, Nat.add_comm, List.getElem?_cons_succ]; exact hu)) Try.underlying24 rfl sz24 | exact .seg (l := valC y.val) (hseg2.sub 1 (fun j u hu => by rw [spotC, Nat.add_comm, List.getElem?_cons_succ, List.getElem?_append_left (List.getElem?_eq_some_iff.1 hu).1]; exact hu)) Try.underlying24 rfl sz24)) (fun w hw => hw) ?_
        refine JR_vy (i := 17) rfl rfl rfl (by kernel_rfl) (by kernel_rfl) rfl (by kernel_rfl) (by kernel_rfl) (panic_then (panic_Then (panic_block (panic_Then (panic_then (panic_block (panic_Then panic_body))))))) (by decide) (vo_move rfl) (fun w hw => hw) ?_
        refine JR_vy (i := 18) rfl rfl rfl (by kernel_rfl) (by kernel_rfl) rfl (by kernel_rfl) (by kernel_rfl) (panic_then (panic_Then (panic_block (panic_Then (panic_then (panic_block (panic_Then panic_body))))))) (by decide) (vo_move rfl) (fun w hw => hw) ?_
        refine JR_vy (i := 19) rfl rfl rfl (by kernel_rfl) (by kernel_rfl) rfl (by kernel_rfl) (by kernel_rfl) (panic_then (panic_Then (panic_block (panic_Then (panic_then (panic_block (panic_Then panic_body))))))) (by decide) (vo_indexAddr rfl rfl Try.underlying69 sz78 (by omega) (by omega)) (fun w hw => hw) ?_
        refine JR_vy (i := 20) rfl rfl rfl (by kernel_rfl) (by kernel_rfl) rfl (by kernel_rfl) (by kernel_rfl) (panic_then (panic_Then (panic_block (panic_Then (panic_then (panic_block (panic_Then panic_body))))))) (by decide) (vo_fieldAddr rfl fo78_1) (fun w hw => hw) ?_
        refine JR_vy (i := 21) rfl rfl rfl (by kernel_rfl) (by kernel_rfl) rfl (by kernel_rfl) (by kernel_rfl) (panic_then (panic_Then (panic_block (panic_Then (panic_then (panic_block (panic_Then panic_body))))))) (by decide) (vo_load rfl (by first | exact .frz ‹_› | exact .own (by repeat (first | exact .head _ | refine .tail _ ?_))) (by first | exact PartAt.whole Try.underlying24 rfl sz24 | exact .cell Try.underlying9 rfl (hseg1 0 _ rfl) | exact .cell Try.underlying9 rfl (hseg2 0 _ rfl) | exact .seg (l := valC x.2) (hseg1.sub 1 (fun j u hu => by rw [pvC, Nat.add_comm, List.getElem?_cons_succ]; exact hu)) Try.underlying24 rfl sz24 | exact .seg (l := valC y.val) (hseg2.sub 1 (fun j u hu => by rw [spotC, Nat.add_comm, List.getElem?_cons_succ, List.getElem?_append_left (List.getElem?_eq_some_iff.1 hu).1]; exact hu)) Try.underlying24 rfl sz24)) (fun w hw => hw) ?_
        refine JR_vy (i := 22) rfl rfl rfl (by kernel_rfl) (by kernel_rfl) rfl (by kernel_rfl) (by kernel_rfl) (panic_then (panic_Then (panic_block (panic_Then (panic_then (panic_block (panic_Then panic_body))))))) (by decide) (vo_eqS rfl rfl rfl eg24 (eqv24 _ _)) (fun w hw => hw) ?_
        refine JR_v (i := 23) rfl (by kernel_rfl) (by kernel_rfl) rfl (by kernel_rfl) (by kernel_rfl) (panic_then (panic_Then (panic_block (panic_Then (panic_then (panic_block (panic_Then panic_body))))))) (by decide) (vo_pick rfl rfl) (fun w hw => hw) ?_
        refine JR_done (by kernel_rfl) ?_
        refine JX_joinB _ ⟨rfl, (by repeat (first | exact trivial | refine ⟨rfl, ?_⟩ | refine ⟨trivial, ?_⟩))⟩ ?_
        simp_all [valEq_refl, beq_refl]
      · refine JX_then ?_
        refine JC_cond _ rfl (fun hc40 => ?_) (fun hc40 => ?_)
        · exact absurd hc40 (by decide)
        · refine JC_skip ?_
          refine JX_block ?_
          refine JX_then ?_
          refine JC_region ?_
          refine JL_v (vo_move rfl) nofun (by decide) ?_
          refine JL_v (vo_add rfl rfl (by omega) (by omega)) nofun (by decide) ?_
          refine JL_v (vo_assign rfl) nofun (by decide) ?_
          refine JL_nil ?_
          refine JX_loop ⟨i + 1, hil⟩ (by show l1.length - (i + 1) < l1.length - i; omega) (by repeat (first | exact trivial | refine ⟨rfl, ?_⟩ | refine ⟨trivial, ?_⟩)) (fun w hw => hw)
    · refine JC_exit ?_
      refine JX_then_exit ?_
      refine JX_thenK_exit ?_
      refine JX_block_exit ?_
      refine JX_then ?_
      refine JC_seq ?_
      refine JC_region ?_
      refine JL_v (vo_assign rfl) nofun (by decide) ?_
      refine JL_nil ?_
      refine JX_then ?_
      refine JC_ret ?_
      refine ret1 rfl rfl ?_
      intro w1 hM; exact SC_end hM rfl

end Go.Eng
