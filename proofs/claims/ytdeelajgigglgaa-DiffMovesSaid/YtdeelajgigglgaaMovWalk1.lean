/-
  Part of the proofs over this seat: M1 M2 H3 M3 H4 M4. Own work; imports the kit.
-/
import Derived.Test.YtdeelajgigglgaaMovData
import Derived.Test.YtdeelajgigglgaaEng2
set_option linter.unusedVariables false
set_option linter.unusedSimpArgs false
namespace Go.Eng
open Go Go.RowKit Go.Proofs
theorem en32 : Enters Try.prog 32 := ⟨_, Try.func32, by kernel_rfl, by kernel_rfl⟩
theorem en73 : Enters Try.prog 73 := ⟨_, Try.func73, by kernel_rfl, by kernel_rfl⟩
theorem fo51_0 : fieldOff Try.prog 51 0 = some 0 := by kernel_rfl
theorem fo51_2 : fieldOff Try.prog 51 2 = some 2 := by kernel_rfl
theorem fo51_3 : fieldOff Try.prog 51 3 = some 3 := by kernel_rfl
theorem fo53_1 : fieldOff Try.prog 53 1 = some 1 := by kernel_rfl
theorem fo53_2 : fieldOff Try.prog 53 2 = some 36 := by kernel_rfl

set_option maxRecDepth 8000 in
set_option maxHeartbeats 1000000 in
theorem samefile_spec (v u : Val) (w : World)  : SCalls Try.prog 32 #[.agg (valC v).toArray, .agg (valC u).toArray] w (fun x => x = .bool (sameF v u)) := by
  refine enter (N := 27) Try.func32 rfl Try.ntmps32 (Nat.le_of_ble_eq_true rfl) [(0, .agg (valC v).toArray), (1, .agg (valC u).toArray)] (by repeat (first | exact trivial | refine ⟨rfl, ?_⟩)) (Mem.start w (fun _ => False) (fun b => b < w.heap.size) (fun _ h => h)) ?_
  refine JC_seq ?_
  refine JC_region ?_
  refine st_box rfl (by decide) (fun b2 => ?_)
  refine st_box rfl (by decide) (fun b3 => ?_)
  refine JL_v (vo_assign rfl) nofun (by decide) ?_
  refine JL_nil ?_
  refine JX_then ?_
  refine JC_seq ?_
  refine JC_region ?_
  refine JL_v (vo_fieldAddr rfl fo51_0) nofun (by decide) ?_
  refine JL_v (vo_load rfl (by first | exact .frz ‹_› | exact .own (by repeat (first | exact .head _ | refine .tail _ ?_))) (by first | exact .cell Try.underlying3 rfl rfl | exact pv_sum _ | exact pb_old _ | exact pb_new _)) nofun (by decide) ?_
  refine JL_v (vo_cmp rfl rfl rfl) nofun (by decide) ?_
  refine JL_v (vo_move rfl) nofun (by decide) ?_
  refine JL_case 8 rfl (fun hg8 => ?_) (fun hg8 => ?_)
  · refine JL_yes rfl rfl ?_
    refine JL_v (vo_fieldAddr rfl fo51_0) nofun (by decide) ?_
    refine JL_yes rfl rfl ?_
    refine JL_v (vo_load rfl (by first | exact .frz ‹_› | exact .own (by repeat (first | exact .head _ | refine .tail _ ?_))) (by first | exact .cell Try.underlying3 rfl rfl | exact pv_sum _ | exact pb_old _ | exact pb_new _)) nofun (by decide) ?_
    refine JL_yes rfl rfl ?_
    refine JL_v (vo_cmp rfl rfl rfl) nofun (by decide) ?_
    refine JL_v (vo_pick rfl rfl) nofun (by decide) ?_
    refine JL_v (vo_move rfl) nofun (by decide) ?_
    refine JL_case 13 rfl (fun hg13 => ?_) (fun hg13 => ?_)
    · refine JL_yes rfl rfl ?_
      refine JL_v (vo_fieldAddr rfl fo51_2) nofun (by decide) ?_
      refine JL_yes rfl rfl ?_
      refine JL_v (vo_load rfl (by first | exact .frz ‹_› | exact .own (by repeat (first | exact .head _ | refine .tail _ ?_))) (by first | exact .cell Try.underlying3 rfl rfl | exact pv_sum _ | exact pb_old _ | exact pb_new _)) nofun (by decide) ?_
      refine JL_yes rfl rfl ?_
      refine JL_v (vo_fieldAddr rfl fo51_2) nofun (by decide) ?_
      refine JL_yes rfl rfl ?_
      refine JL_v (vo_load rfl (by first | exact .frz ‹_› | exact .own (by repeat (first | exact .head _ | refine .tail _ ?_))) (by first | exact .cell Try.underlying3 rfl rfl | exact pv_sum _ | exact pb_old _ | exact pb_new _)) nofun (by decide) ?_
      refine JL_yes rfl rfl ?_
      refine JL_v (vo_cmp rfl rfl rfl) nofun (by decide) ?_
      refine JL_v (vo_pick rfl rfl) nofun (by decide) ?_
      refine JL_v (vo_move rfl) nofun (by decide) ?_
      refine JL_case 20 rfl (fun hg20 => ?_) (fun hg20 => ?_)
      · refine JL_yes rfl rfl ?_
        refine JL_v (vo_fieldAddr rfl fo51_3) nofun (by decide) ?_
        refine JL_yes rfl rfl ?_
        refine JL_v (vo_load rfl (by first | exact .frz ‹_› | exact .own (by repeat (first | exact .head _ | refine .tail _ ?_))) (by first | exact PartAt.whole Try.underlying49 rfl sz49 | exact pv_sum _ | exact pb_old _ | exact pb_new _)) nofun (by decide) ?_
        refine JL_yes rfl rfl ?_
        refine JL_v (vo_fieldAddr rfl fo51_3) nofun (by decide) ?_
        refine JL_yes rfl rfl ?_
        refine JL_v (vo_load rfl (by first | exact .frz ‹_› | exact .own (by repeat (first | exact .head _ | refine .tail _ ?_))) (by first | exact PartAt.whole Try.underlying49 rfl sz49 | exact pv_sum _ | exact pb_old _ | exact pb_new _)) nofun (by decide) ?_
        refine JL_yes rfl rfl ?_
        refine JL_v (vo_eqS rfl rfl rfl eg49 (eqv49 _ _)) nofun (by decide) ?_
        refine JL_v (vo_pick rfl rfl) nofun (by decide) ?_
        refine JL_v (vo_assign rfl) nofun (by decide) ?_
        refine JL_nil ?_
        refine JX_then ?_
        refine JC_ret ?_
        refine ret1 rfl rfl ?_
        intro w1 hM; refine SC_end hM ?_; congr 1; simp_all [sameF]
      · refine JL_no rfl rfl (by decide) ?_
        refine JL_no rfl rfl (by decide) ?_
        refine JL_no rfl rfl (by decide) ?_
        refine JL_no rfl rfl (by decide) ?_
        refine JL_no rfl rfl (by decide) ?_
        refine JL_v (vo_pick rfl rfl) nofun (by decide) ?_
        refine JL_v (vo_assign rfl) nofun (by decide) ?_
        refine JL_nil ?_
        refine JX_then ?_
        refine JC_ret ?_
        refine ret1 rfl rfl ?_
        intro w1 hM; refine SC_end hM ?_; congr 1; simp_all [sameF]
    · refine JL_no rfl rfl (by decide) ?_
      refine JL_no rfl rfl (by decide) ?_
      refine JL_no rfl rfl (by decide) ?_
      refine JL_no rfl rfl (by decide) ?_
      refine JL_no rfl rfl (by decide) ?_
      refine JL_v (vo_pick rfl rfl) nofun (by decide) ?_
      refine JL_v (vo_move rfl) nofun (by decide) ?_
      refine JL_no rfl rfl (by decide) ?_
      refine JL_no rfl rfl (by decide) ?_
      refine JL_no rfl rfl (by decide) ?_
      refine JL_no rfl rfl (by decide) ?_
      refine JL_no rfl rfl (by decide) ?_
      refine JL_v (vo_pick rfl rfl) nofun (by decide) ?_
      refine JL_v (vo_assign rfl) nofun (by decide) ?_
      refine JL_nil ?_
      refine JX_then ?_
      refine JC_ret ?_
      refine ret1 rfl rfl ?_
      intro w1 hM; refine SC_end hM ?_; congr 1; simp_all [sameF]
  · refine JL_no rfl rfl (by decide) ?_
    refine JL_no rfl rfl (by decide) ?_
    refine JL_no rfl rfl (by decide) ?_
    refine JL_v (vo_pick rfl rfl) nofun (by decide) ?_
    refine JL_v (vo_move rfl) nofun (by decide) ?_
    refine JL_no rfl rfl (by decide) ?_
    refine JL_no rfl rfl (by decide) ?_
    refine JL_no rfl rfl (by decide) ?_
    refine JL_no rfl rfl (by decide) ?_
    refine JL_no rfl rfl (by decide) ?_
    refine JL_v (vo_pick rfl rfl) nofun (by decide) ?_
    refine JL_v (vo_move rfl) nofun (by decide) ?_
    refine JL_no rfl rfl (by decide) ?_
    refine JL_no rfl rfl (by decide) ?_
    refine JL_no rfl rfl (by decide) ?_
    refine JL_no rfl rfl (by decide) ?_
    refine JL_no rfl rfl (by decide) ?_
    refine JL_v (vo_pick rfl rfl) nofun (by decide) ?_
    refine JL_v (vo_assign rfl) nofun (by decide) ?_
    refine JL_nil ?_
    refine JX_then ?_
    refine JC_ret ?_
    refine ret1 rfl rfl ?_
    intro w1 hM; refine SC_end hM ?_; congr 1; simp_all [sameF]
set_option maxRecDepth 8000 in
set_option maxHeartbeats 1000000 in
theorem takes_spec (c : Chg) (w : World)  : SCalls Try.prog 30 #[.agg (chC c).toArray] w (fun x => x = .bool (takesB c)) := by
  refine enter (N := 21) Try.func30 rfl Try.ntmps30 (Nat.le_of_ble_eq_true rfl) [(0, .agg (chC c).toArray)] (by repeat (first | exact trivial | refine ⟨rfl, ?_⟩)) (Mem.start w (fun _ => False) (fun b => b < w.heap.size) (fun _ h => h)) ?_
  refine JC_seq ?_
  refine JC_region ?_
  refine st_box rfl (by decide) (fun b1 => ?_)
  refine JL_v (vo_assign rfl) nofun (by decide) ?_
  refine JL_nil ?_
  refine JX_then ?_
  refine JC_seq ?_
  refine JC_region ?_
  refine JL_v (vo_fieldAddr rfl fo53_1) nofun (by decide) ?_
  refine JL_v (vo_fieldAddr rfl fo51_0) nofun (by decide) ?_
  refine JL_v (vo_load rfl (by first | exact .frz ‹_› | exact .own (by repeat (first | exact .head _ | refine .tail _ ?_))) (by first | exact .cell Try.underlying3 rfl rfl | exact pv_sum _ | exact pb_old _ | exact pb_new _)) nofun (by decide) ?_
  refine JL_v (vo_cmp rfl rfl rfl) nofun (by decide) ?_
  refine JL_v (vo_move rfl) nofun (by decide) ?_
  refine JL_case 7 rfl (fun hg7 => ?_) (fun hg7 => ?_)
  · refine JL_yes rfl rfl ?_
    refine JL_v (vo_fieldAddr rfl fo53_1) nofun (by decide) ?_
    refine JL_yes rfl rfl ?_
    refine JL_v (vo_fieldAddr rfl fo51_2) nofun (by decide) ?_
    refine JL_yes rfl rfl ?_
    refine JL_v (vo_load rfl (by first | exact .frz ‹_› | exact .own (by repeat (first | exact .head _ | refine .tail _ ?_))) (by first | exact .cell Try.underlying3 rfl rfl | exact pv_sum _ | exact pb_old _ | exact pb_new _)) nofun (by decide) ?_
    refine JL_yes rfl rfl ?_
    refine JL_v (vo_cmp rfl rfl rfl) nofun (by decide) ?_
    refine JL_v (vo_pick rfl rfl) nofun (by decide) ?_
    refine JL_v (vo_move rfl) nofun (by decide) ?_
    refine JL_case 13 rfl (fun hg13 => ?_) (fun hg13 => ?_)
    · refine JL_yes rfl rfl ?_
      refine JL_v (vo_fieldAddr rfl fo53_1) nofun (by decide) ?_
      refine JL_yes rfl rfl ?_
      refine JL_v (vo_load rfl (by first | exact .frz ‹_› | exact .own (by repeat (first | exact .head _ | refine .tail _ ?_))) (by first | exact PartAt.whole Try.underlying51 rfl sz51 | exact pv_sum _ | exact pb_old _ | exact pb_new _)) nofun (by decide) ?_
      refine JL_yes rfl rfl ?_
      refine JL_v (vo_fieldAddr rfl fo53_2) nofun (by decide) ?_
      refine JL_yes rfl rfl ?_
      refine JL_v (vo_load rfl (by first | exact .frz ‹_› | exact .own (by repeat (first | exact .head _ | refine .tail _ ?_))) (by first | exact PartAt.whole Try.underlying51 rfl sz51 | exact pv_sum _ | exact pb_old _ | exact pb_new _)) nofun (by decide) ?_
      refine JL_yes rfl rfl ?_
      refine st_scall rfl en32 (by decide) (fun w hw => samefile_spec c.old c.new w) ?_
      rintro _ rfl
      refine JL_yes rfl rfl ?_
      refine JL_v (vo_not rfl) nofun (by decide) ?_
      refine JL_v (vo_pick rfl rfl) nofun (by decide) ?_
      refine JL_v (vo_assign rfl) nofun (by decide) ?_
      refine JL_nil ?_
      refine JX_then ?_
      refine JC_ret ?_
      refine ret1 rfl rfl ?_
      intro w1 hM; refine SC_end hM ?_; congr 1; simp_all [takesB] <;> (first | omega | (intro h; omega))
    · refine JL_no rfl rfl (by decide) ?_
      refine JL_no rfl rfl (by decide) ?_
      refine JL_no rfl rfl (by decide) ?_
      refine JL_no rfl rfl (by decide) ?_
      refine JL_no rfl rfl (by decide) ?_
      refine JL_no rfl rfl (by decide) ?_
      refine JL_v (vo_pick rfl rfl) nofun (by decide) ?_
      refine JL_v (vo_assign rfl) nofun (by decide) ?_
      refine JL_nil ?_
      refine JX_then ?_
      refine JC_ret ?_
      refine ret1 rfl rfl ?_
      intro w1 hM; refine SC_end hM ?_; congr 1; simp_all [takesB] <;> (first | omega | (intro h; omega))
  · refine JL_no rfl rfl (by decide) ?_
    refine JL_no rfl rfl (by decide) ?_
    refine JL_no rfl rfl (by decide) ?_
    refine JL_no rfl rfl (by decide) ?_
    refine JL_v (vo_pick rfl rfl) nofun (by decide) ?_
    refine JL_v (vo_move rfl) nofun (by decide) ?_
    refine JL_no rfl rfl (by decide) ?_
    refine JL_no rfl rfl (by decide) ?_
    refine JL_no rfl rfl (by decide) ?_
    refine JL_no rfl rfl (by decide) ?_
    refine JL_no rfl rfl (by decide) ?_
    refine JL_no rfl rfl (by decide) ?_
    refine JL_v (vo_pick rfl rfl) nofun (by decide) ?_
    refine JL_v (vo_assign rfl) nofun (by decide) ?_
    refine JL_nil ?_
    refine JX_then ?_
    refine JC_ret ?_
    refine ret1 rfl rfl ?_
    intro w1 hM; refine SC_end hM ?_; congr 1; simp_all [takesB] <;> (first | omega | (intro h; omega))
set_option maxRecDepth 8000 in
set_option maxHeartbeats 1000000 in
theorem brings_spec (c : Chg) (w : World)  : SCalls Try.prog 31 #[.agg (chC c).toArray] w (fun x => x = .bool (bringsB c)) := by
  refine enter (N := 21) Try.func31 rfl Try.ntmps31 (Nat.le_of_ble_eq_true rfl) [(0, .agg (chC c).toArray)] (by repeat (first | exact trivial | refine ⟨rfl, ?_⟩)) (Mem.start w (fun _ => False) (fun b => b < w.heap.size) (fun _ h => h)) ?_
  refine JC_seq ?_
  refine JC_region ?_
  refine st_box rfl (by decide) (fun b1 => ?_)
  refine JL_v (vo_assign rfl) nofun (by decide) ?_
  refine JL_nil ?_
  refine JX_then ?_
  refine JC_seq ?_
  refine JC_region ?_
  refine JL_v (vo_fieldAddr rfl fo53_2) nofun (by decide) ?_
  refine JL_v (vo_fieldAddr rfl fo51_0) nofun (by decide) ?_
  refine JL_v (vo_load rfl (by first | exact .frz ‹_› | exact .own (by repeat (first | exact .head _ | refine .tail _ ?_))) (by first | exact .cell Try.underlying3 rfl rfl | exact pv_sum _ | exact pb_old _ | exact pb_new _)) nofun (by decide) ?_
  refine JL_v (vo_cmp rfl rfl rfl) nofun (by decide) ?_
  refine JL_v (vo_move rfl) nofun (by decide) ?_
  refine JL_case 7 rfl (fun hg7 => ?_) (fun hg7 => ?_)
  · refine JL_yes rfl rfl ?_
    refine JL_v (vo_fieldAddr rfl fo53_2) nofun (by decide) ?_
    refine JL_yes rfl rfl ?_
    refine JL_v (vo_fieldAddr rfl fo51_2) nofun (by decide) ?_
    refine JL_yes rfl rfl ?_
    refine JL_v (vo_load rfl (by first | exact .frz ‹_› | exact .own (by repeat (first | exact .head _ | refine .tail _ ?_))) (by first | exact .cell Try.underlying3 rfl rfl | exact pv_sum _ | exact pb_old _ | exact pb_new _)) nofun (by decide) ?_
    refine JL_yes rfl rfl ?_
    refine JL_v (vo_cmp rfl rfl rfl) nofun (by decide) ?_
    refine JL_v (vo_pick rfl rfl) nofun (by decide) ?_
    refine JL_v (vo_move rfl) nofun (by decide) ?_
    refine JL_case 13 rfl (fun hg13 => ?_) (fun hg13 => ?_)
    · refine JL_yes rfl rfl ?_
      refine JL_v (vo_fieldAddr rfl fo53_1) nofun (by decide) ?_
      refine JL_yes rfl rfl ?_
      refine JL_v (vo_load rfl (by first | exact .frz ‹_› | exact .own (by repeat (first | exact .head _ | refine .tail _ ?_))) (by first | exact PartAt.whole Try.underlying51 rfl sz51 | exact pv_sum _ | exact pb_old _ | exact pb_new _)) nofun (by decide) ?_
      refine JL_yes rfl rfl ?_
      refine JL_v (vo_fieldAddr rfl fo53_2) nofun (by decide) ?_
      refine JL_yes rfl rfl ?_
      refine JL_v (vo_load rfl (by first | exact .frz ‹_› | exact .own (by repeat (first | exact .head _ | refine .tail _ ?_))) (by first | exact PartAt.whole Try.underlying51 rfl sz51 | exact pv_sum _ | exact pb_old _ | exact pb_new _)) nofun (by decide) ?_
      refine JL_yes rfl rfl ?_
      refine st_scall rfl en32 (by decide) (fun w hw => samefile_spec c.old c.new w) ?_
      rintro _ rfl
      refine JL_yes rfl rfl ?_
      refine JL_v (vo_not rfl) nofun (by decide) ?_
      refine JL_v (vo_pick rfl rfl) nofun (by decide) ?_
      refine JL_v (vo_assign rfl) nofun (by decide) ?_
      refine JL_nil ?_
      refine JX_then ?_
      refine JC_ret ?_
      refine ret1 rfl rfl ?_
      intro w1 hM; refine SC_end hM ?_; congr 1; simp_all [bringsB] <;> (first | omega | (intro h; omega))
    · refine JL_no rfl rfl (by decide) ?_
      refine JL_no rfl rfl (by decide) ?_
      refine JL_no rfl rfl (by decide) ?_
      refine JL_no rfl rfl (by decide) ?_
      refine JL_no rfl rfl (by decide) ?_
      refine JL_no rfl rfl (by decide) ?_
      refine JL_v (vo_pick rfl rfl) nofun (by decide) ?_
      refine JL_v (vo_assign rfl) nofun (by decide) ?_
      refine JL_nil ?_
      refine JX_then ?_
      refine JC_ret ?_
      refine ret1 rfl rfl ?_
      intro w1 hM; refine SC_end hM ?_; congr 1; simp_all [bringsB] <;> (first | omega | (intro h; omega))
  · refine JL_no rfl rfl (by decide) ?_
    refine JL_no rfl rfl (by decide) ?_
    refine JL_no rfl rfl (by decide) ?_
    refine JL_no rfl rfl (by decide) ?_
    refine JL_v (vo_pick rfl rfl) nofun (by decide) ?_
    refine JL_v (vo_move rfl) nofun (by decide) ?_
    refine JL_no rfl rfl (by decide) ?_
    refine JL_no rfl rfl (by decide) ?_
    refine JL_no rfl rfl (by decide) ?_
    refine JL_no rfl rfl (by decide) ?_
    refine JL_no rfl rfl (by decide) ?_
    refine JL_no rfl rfl (by decide) ?_
    refine JL_v (vo_pick rfl rfl) nofun (by decide) ?_
    refine JL_v (vo_assign rfl) nofun (by decide) ?_
    refine JL_nil ?_
    refine JX_then ?_
    refine JC_ret ?_
    refine ret1 rfl rfl ?_
    intro w1 hM; refine SC_end hM ?_; congr 1; simp_all [bringsB] <;> (first | omega | (intro h; omega))
set_option maxRecDepth 8000 in
set_option maxHeartbeats 1000000 in
theorem holds_spec (v : Val) (w : World)  : SCalls Try.prog 73 #[.agg (valC v).toArray] w (fun x => x = .tuple #[.agg (conC (conOf v)).toArray, .bool (holdsB v)]) := by
  refine enter (N := 17) Try.func73 rfl Try.ntmps73 (Nat.le_of_ble_eq_true rfl) [(0, .agg (valC v).toArray)] (by repeat (first | exact trivial | refine ⟨rfl, ?_⟩)) (Mem.start w (fun _ => False) (fun b => b < w.heap.size) (fun _ h => h)) ?_
  refine JC_seq ?_
  refine JC_region ?_
  refine st_box rfl (by decide) (fun b1 => ?_)
  refine st_alloc zr91 (by decide) (fun b2 => ?_)
  refine JL_v (vo_assign rfl) nofun (by decide) ?_
  refine JL_nil ?_
  refine JX_then ?_
  refine JC_seq ?_
  refine JC_draw (F := fun w1 => ∃ o, Mem w (fun _ => False) (fun b => b < w.heap.size) (fun b => b < w.heap.size) w  [.blk b2 o, .blk b1 (.cells (valC v).toArray 51 (0, 0))] w1) 15 (by kernel_rfl) (fun w hw => Mem.drew hw) ?_
  refine JR_v (i := 0) rfl (by kernel_rfl) (by kernel_rfl) rfl (by kernel_rfl) (by kernel_rfl) (panic_Then panic_body) (by decide) (vo_ex (fun _ => vo_fieldAddr rfl fo51_2)) (fun w hw => ⟨_, hw⟩) ?_
  refine JR_v (i := 1) rfl (by kernel_rfl) (by kernel_rfl) rfl (by kernel_rfl) (by kernel_rfl) (panic_Then panic_body) (by decide) (vo_ex (fun _ => vo_load rfl (by first | exact .frz ‹_› | exact .own (by repeat (first | exact .head _ | refine .tail _ ?_))) (by first | exact .cell Try.underlying3 rfl rfl | exact pv_sum _ | exact pb_old _ | exact pb_new _))) (fun w hw => ⟨_, hw⟩) ?_
  refine JR_v (i := 2) rfl (by kernel_rfl) (by kernel_rfl) rfl (by kernel_rfl) (by kernel_rfl) (panic_Then panic_body) (by decide) (vo_ex (fun _ => vo_fieldAddr rfl fo51_3)) (fun w hw => ⟨_, hw⟩) ?_
  refine JR_v (i := 3) rfl (by kernel_rfl) (by kernel_rfl) rfl (by kernel_rfl) (by kernel_rfl) (panic_Then panic_body) (by decide) (vo_ex (fun _ => vo_load rfl (by first | exact .frz ‹_› | exact .own (by repeat (first | exact .head _ | refine .tail _ ?_))) (by first | exact PartAt.whole Try.underlying49 rfl sz49 | exact pv_sum _ | exact pb_old _ | exact pb_new _))) (fun w hw => ⟨_, hw⟩) ?_
  refine JR_v (i := 4) rfl (by kernel_rfl) (by kernel_rfl) rfl (by kernel_rfl) (by kernel_rfl) (panic_Then panic_body) (by decide) (vo_ex (fun _ => vo_build rfl (by first | exact bl91 _ _))) (fun w hw => ⟨_, hw⟩) ?_
  refine JR_v (i := 5) rfl (by kernel_rfl) (by kernel_rfl) rfl (by kernel_rfl) (by kernel_rfl) (panic_Then panic_body) (by decide) (vo_ex (fun _ => vo_fieldAddr rfl fo51_0)) (fun w hw => ⟨_, hw⟩) ?_
  refine JR_v (i := 6) rfl (by kernel_rfl) (by kernel_rfl) rfl (by kernel_rfl) (by kernel_rfl) (panic_Then panic_body) (by decide) (vo_ex (fun _ => vo_load rfl (by first | exact .frz ‹_› | exact .own (by repeat (first | exact .head _ | refine .tail _ ?_))) (by first | exact .cell Try.underlying3 rfl rfl | exact pv_sum _ | exact pb_old _ | exact pb_new _))) (fun w hw => ⟨_, hw⟩) ?_
  refine JR_v (i := 7) rfl (by kernel_rfl) (by kernel_rfl) rfl (by kernel_rfl) (by kernel_rfl) (panic_Then panic_body) (by decide) (vo_ex (fun _ => vo_cmp rfl rfl rfl)) (fun w hw => ⟨_, hw⟩) ?_
  refine JR_v (i := 8) rfl (by kernel_rfl) (by kernel_rfl) rfl (by kernel_rfl) (by kernel_rfl) (panic_Then panic_body) (by decide) (vo_ex (fun _ => vo_move rfl)) (fun w hw => ⟨_, hw⟩) ?_
  refine JR_case 12 rfl (fun hg12 => ?_) (fun hg12 => ?_)
  · refine JR_vy (i := 9) rfl rfl rfl (by kernel_rfl) (by kernel_rfl) rfl (by kernel_rfl) (by kernel_rfl) (panic_Then panic_body) (by decide) (vo_ex (fun _ => vo_fieldAddr rfl fo51_2)) (fun w hw => ⟨_, hw⟩) ?_
    refine JR_vy (i := 10) rfl rfl rfl (by kernel_rfl) (by kernel_rfl) rfl (by kernel_rfl) (by kernel_rfl) (panic_Then panic_body) (by decide) (vo_ex (fun _ => vo_load rfl (by first | exact .frz ‹_› | exact .own (by repeat (first | exact .head _ | refine .tail _ ?_))) (by first | exact .cell Try.underlying3 rfl rfl | exact pv_sum _ | exact pb_old _ | exact pb_new _))) (fun w hw => ⟨_, hw⟩) ?_
    refine JR_vy (i := 11) rfl rfl rfl (by kernel_rfl) (by kernel_rfl) rfl (by kernel_rfl) (by kernel_rfl) (panic_Then panic_body) (by decide) (vo_ex (fun _ => vo_cmp rfl rfl rfl)) (fun w hw => ⟨_, hw⟩) ?_
    refine JR_v (i := 12) rfl (by kernel_rfl) (by kernel_rfl) rfl (by kernel_rfl) (by kernel_rfl) (panic_Then panic_body) (by decide) (vo_ex (fun _ => vo_pick rfl rfl)) (fun w hw => ⟨_, hw⟩) ?_
    refine JR_split [13] (by kernel_rfl) rfl (all1 ?_)
    refine JK_do _ rfl rfl trivial (do_store (cs := (conC ⟨0, fun _ => 0⟩).toArray) (te := 91) rfl rfl sz91 (by exact one_of_all rfl) (by repeat (first | exact .head _ _ _ | apply Turn.tail)) (by exact Nat.le_of_ble_eq_true rfl) (setSeg_whole rfl)) (fun w hw => ⟨_, hw⟩) ?_
    refine JR_v (i := 14) rfl (by kernel_rfl) (by kernel_rfl) rfl (by kernel_rfl) (by kernel_rfl) (panic_Then panic_body) (by decide) (vo_ex (fun _ => vo_assign rfl)) (fun w hw => ⟨_, hw⟩) ?_
    refine JR_done (by kernel_rfl) ?_
    refine JX_then ?_
    refine JC_ret ?_
    refine retL rfl rfl (.cell rfl (by first | exact .frz ‹_› | exact .own (by repeat (first | exact .head _ | refine .tail _ ?_))) (by first | exact PartAt.whole Try.underlying91 rfl sz91 | exact pv_sum _ | exact pb_old _ | exact pb_new _) (.tmp rfl (.nil))) ?_
    intro w1 hM; refine SC_end hM ?_; simp_all [holdsB, conOf, Value.cells]
  · refine JR_vn (i := 9) rfl rfl rfl (by kernel_rfl) (by kernel_rfl) rfl (by kernel_rfl) (by kernel_rfl) (panic_Then panic_body) (by decide) (fun w hw => ⟨_, hw⟩) ?_
    refine JR_vn (i := 10) rfl rfl rfl (by kernel_rfl) (by kernel_rfl) rfl (by kernel_rfl) (by kernel_rfl) (panic_Then panic_body) (by decide) (fun w hw => ⟨_, hw⟩) ?_
    refine JR_vn (i := 11) rfl rfl rfl (by kernel_rfl) (by kernel_rfl) rfl (by kernel_rfl) (by kernel_rfl) (panic_Then panic_body) (by decide) (fun w hw => ⟨_, hw⟩) ?_
    refine JR_v (i := 12) rfl (by kernel_rfl) (by kernel_rfl) rfl (by kernel_rfl) (by kernel_rfl) (panic_Then panic_body) (by decide) (vo_ex (fun _ => vo_pick rfl rfl)) (fun w hw => ⟨_, hw⟩) ?_
    refine JR_split [13] (by kernel_rfl) rfl (all1 ?_)
    refine JK_do _ rfl rfl trivial (do_store (cs := (conC ⟨0, fun _ => 0⟩).toArray) (te := 91) rfl rfl sz91 (by exact one_of_all rfl) (by repeat (first | exact .head _ _ _ | apply Turn.tail)) (by exact Nat.le_of_ble_eq_true rfl) (setSeg_whole rfl)) (fun w hw => ⟨_, hw⟩) ?_
    refine JR_v (i := 14) rfl (by kernel_rfl) (by kernel_rfl) rfl (by kernel_rfl) (by kernel_rfl) (panic_Then panic_body) (by decide) (vo_ex (fun _ => vo_assign rfl)) (fun w hw => ⟨_, hw⟩) ?_
    refine JR_done (by kernel_rfl) ?_
    refine JX_then ?_
    refine JC_ret ?_
    refine retL rfl rfl (.cell rfl (by first | exact .frz ‹_› | exact .own (by repeat (first | exact .head _ | refine .tail _ ?_))) (by first | exact PartAt.whole Try.underlying91 rfl sz91 | exact pv_sum _ | exact pb_old _ | exact pb_new _) (.tmp rfl (.nil))) ?_
    intro w1 hM; refine SC_end hM ?_; simp_all [holdsB, conOf, Value.cells]
set_option maxRecDepth 8000 in
set_option maxHeartbeats 1000000 in
theorem goes_spec (v u : Val) (w : World)  : SCalls Try.prog 34 #[.agg (valC v).toArray, .agg (valC u).toArray] w (fun x => x = .tuple #[.agg (conC (conOf v)).toArray, .bool (goesB v u)]) := by
  refine enter (N := 31) Try.func34 rfl Try.ntmps34 (Nat.le_of_ble_eq_true rfl) [(0, .agg (valC v).toArray), (1, .agg (valC u).toArray)] (by repeat (first | exact trivial | refine ⟨rfl, ?_⟩)) (Mem.start w (fun _ => False) (fun b => b < w.heap.size) (fun _ h => h)) ?_
  refine JC_seq ?_
  refine JC_region ?_
  refine st_box rfl (by decide) (fun b2 => ?_)
  refine st_box rfl (by decide) (fun b3 => ?_)
  refine st_alloc zr91 (by decide) (fun b4 => ?_)
  refine JL_v (vo_assign rfl) nofun (by decide) ?_
  refine JL_nil ?_
  refine JX_then ?_
  refine JC_seq ?_
  refine JC_region ?_
  refine JL_v (vo_load rfl (by first | exact .frz ‹_› | exact .own (by repeat (first | exact .head _ | refine .tail _ ?_))) (by first | exact PartAt.whole Try.underlying51 rfl sz51 | exact pv_sum _ | exact pb_old _ | exact pb_new _)) nofun (by decide) ?_
  refine st_scall rfl en73 (by decide) (fun w hw => holds_spec v w) ?_
  rintro _ rfl
  refine JL_v (vo_move rfl) nofun (by decide) ?_
  refine JL_v (vo_extract rfl rfl) nofun (by decide) ?_
  refine JL_v (vo_extract rfl rfl) nofun (by decide) ?_
  refine st_alloc zr91 (by decide) (fun b6 => ?_)
  refine st_storeW rfl rfl sz91 rfl (by repeat (first | exact .head _ _ _ | apply Turn.tail)) (by rfl) ?_
  refine JL_v (vo_assign rfl) nofun (by decide) ?_
  refine JL_nil ?_
  refine JX_then ?_
  refine JC_seq ?_
  refine JC_region ?_
  refine JL_v (vo_load rfl (by first | exact .frz ‹_› | exact .own (by repeat (first | exact .head _ | refine .tail _ ?_))) (by first | exact PartAt.whole Try.underlying51 rfl sz51 | exact pv_sum _ | exact pb_old _ | exact pb_new _)) nofun (by decide) ?_
  refine st_scall rfl en73 (by decide) (fun w hw => holds_spec u w) ?_
  rintro _ rfl
  refine JL_v (vo_move rfl) nofun (by decide) ?_
  refine JL_v (vo_extract rfl rfl) nofun (by decide) ?_
  refine JL_v (vo_extract rfl rfl) nofun (by decide) ?_
  refine st_alloc zr91 (by decide) (fun b8 => ?_)
  refine st_storeW rfl rfl sz91 rfl (by repeat (first | exact .head _ _ _ | apply Turn.tail)) (by rfl) ?_
  refine JL_v (vo_assign rfl) nofun (by decide) ?_
  refine JL_nil ?_
  refine JX_then ?_
  refine JC_seq ?_
  refine JC_draw (F := fun w1 => ∃ o, Mem w (fun _ => False) (fun b => b < w.heap.size) (fun b => b < w.heap.size) w  [.blk b8 (.cells (conC (conOf u)).toArray 91 (0, 0)), .blk b6 (.cells (conC (conOf v)).toArray 91 (0, 0)), .blk b4 o, .blk b3 (.cells (valC u).toArray 51 (0, 0)), .blk b2 (.cells (valC v).toArray 51 (0, 0))] w1) 13 (by kernel_rfl) (fun w hw => Mem.drew hw) ?_
  refine JR_v (i := 0) rfl (by kernel_rfl) (by kernel_rfl) rfl (by kernel_rfl) (by kernel_rfl) (panic_Then panic_body) (by decide) (vo_ex (fun _ => vo_load rfl (by first | exact .frz ‹_› | exact .own (by repeat (first | exact .head _ | refine .tail _ ?_))) (by first | exact PartAt.whole Try.underlying91 rfl sz91 | exact pv_sum _ | exact pb_old _ | exact pb_new _))) (fun w hw => ⟨_, hw⟩) ?_
  refine JR_v (i := 1) rfl (by kernel_rfl) (by kernel_rfl) rfl (by kernel_rfl) (by kernel_rfl) (panic_Then panic_body) (by decide) (vo_ex (fun _ => vo_move rfl)) (fun w hw => ⟨_, hw⟩) ?_
  refine JR_v (i := 2) rfl (by kernel_rfl) (by kernel_rfl) rfl (by kernel_rfl) (by kernel_rfl) (panic_Then panic_body) (by decide) (vo_ex (fun _ => vo_move rfl)) (fun w hw => ⟨_, hw⟩) ?_
  refine JR_case 22 rfl (fun hg22 => ?_) (fun hg22 => ?_)
  · refine JR_vy (i := 3) rfl rfl rfl (by kernel_rfl) (by kernel_rfl) rfl (by kernel_rfl) (by kernel_rfl) (panic_Then panic_body) (by decide) (vo_ex (fun _ => vo_move rfl)) (fun w hw => ⟨_, hw⟩) ?_
    refine JR_vy (i := 4) rfl rfl rfl (by kernel_rfl) (by kernel_rfl) rfl (by kernel_rfl) (by kernel_rfl) (panic_Then panic_body) (by decide) (vo_ex (fun _ => vo_move rfl)) (fun w hw => ⟨_, hw⟩) ?_
    refine JR_case 24 rfl (fun hg24 => ?_) (fun hg24 => ?_)
    · refine JR_vy (i := 5) rfl rfl rfl (by kernel_rfl) (by kernel_rfl) rfl (by kernel_rfl) (by kernel_rfl) (panic_Then panic_body) (by decide) (vo_ex (fun _ => vo_load rfl (by first | exact .frz ‹_› | exact .own (by repeat (first | exact .head _ | refine .tail _ ?_))) (by first | exact PartAt.whole Try.underlying91 rfl sz91 | exact pv_sum _ | exact pb_old _ | exact pb_new _))) (fun w hw => ⟨_, hw⟩) ?_
      refine JR_vy (i := 6) rfl rfl rfl (by kernel_rfl) (by kernel_rfl) rfl (by kernel_rfl) (by kernel_rfl) (panic_Then panic_body) (by decide) (vo_ex (fun _ => vo_load rfl (by first | exact .frz ‹_› | exact .own (by repeat (first | exact .head _ | refine .tail _ ?_))) (by first | exact PartAt.whole Try.underlying91 rfl sz91 | exact pv_sum _ | exact pb_old _ | exact pb_new _))) (fun w hw => ⟨_, hw⟩) ?_
      refine JR_vy (i := 7) rfl rfl rfl (by kernel_rfl) (by kernel_rfl) rfl (by kernel_rfl) (by kernel_rfl) (panic_Then panic_body) (by decide) (vo_ex (fun _ => vo_eqS rfl rfl rfl eg91 (eqv91 _ _))) (fun w hw => ⟨_, hw⟩) ?_
      refine JR_vy (i := 8) rfl rfl rfl (by kernel_rfl) (by kernel_rfl) rfl (by kernel_rfl) (by kernel_rfl) (panic_Then panic_body) (by decide) (vo_ex (fun _ => vo_pick rfl rfl)) (fun w hw => ⟨_, hw⟩) ?_
      refine JR_vy (i := 9) rfl rfl rfl (by kernel_rfl) (by kernel_rfl) rfl (by kernel_rfl) (by kernel_rfl) (panic_Then panic_body) (by decide) (vo_ex (fun _ => vo_not rfl)) (fun w hw => ⟨_, hw⟩) ?_
      refine JR_v (i := 10) rfl (by kernel_rfl) (by kernel_rfl) rfl (by kernel_rfl) (by kernel_rfl) (panic_Then panic_body) (by decide) (vo_ex (fun _ => vo_pick rfl rfl)) (fun w hw => ⟨_, hw⟩) ?_
      refine JR_split [11] (by kernel_rfl) rfl (all1 ?_)
      refine JK_do _ rfl rfl trivial (do_store (cs := (conC ⟨0, fun _ => 0⟩).toArray) (te := 91) rfl rfl sz91 (by exact one_of_all rfl) (by repeat (first | exact .head _ _ _ | apply Turn.tail)) (by exact Nat.le_of_ble_eq_true rfl) (setSeg_whole rfl)) (fun w hw => ⟨_, hw⟩) ?_
      refine JR_v (i := 12) rfl (by kernel_rfl) (by kernel_rfl) rfl (by kernel_rfl) (by kernel_rfl) (panic_Then panic_body) (by decide) (vo_ex (fun _ => vo_assign rfl)) (fun w hw => ⟨_, hw⟩) ?_
      refine JR_done (by kernel_rfl) ?_
      refine JX_then ?_
      refine JC_ret ?_
      refine retL rfl rfl (.cell rfl (by first | exact .frz ‹_› | exact .own (by repeat (first | exact .head _ | refine .tail _ ?_))) (by first | exact PartAt.whole Try.underlying91 rfl sz91 | exact pv_sum _ | exact pb_old _ | exact pb_new _) (.tmp rfl (.nil))) ?_
      intro w1 hM; refine SC_end hM ?_; simp_all [goesB, Value.cells]
    · refine JR_vn (i := 5) rfl rfl rfl (by kernel_rfl) (by kernel_rfl) rfl (by kernel_rfl) (by kernel_rfl) (panic_Then panic_body) (by decide) (fun w hw => ⟨_, hw⟩) ?_
      refine JR_vn (i := 6) rfl rfl rfl (by kernel_rfl) (by kernel_rfl) rfl (by kernel_rfl) (by kernel_rfl) (panic_Then panic_body) (by decide) (fun w hw => ⟨_, hw⟩) ?_
      refine JR_vn (i := 7) rfl rfl rfl (by kernel_rfl) (by kernel_rfl) rfl (by kernel_rfl) (by kernel_rfl) (panic_Then panic_body) (by decide) (fun w hw => ⟨_, hw⟩) ?_
      refine JR_vy (i := 8) rfl rfl rfl (by kernel_rfl) (by kernel_rfl) rfl (by kernel_rfl) (by kernel_rfl) (panic_Then panic_body) (by decide) (vo_ex (fun _ => vo_pick rfl rfl)) (fun w hw => ⟨_, hw⟩) ?_
      refine JR_vy (i := 9) rfl rfl rfl (by kernel_rfl) (by kernel_rfl) rfl (by kernel_rfl) (by kernel_rfl) (panic_Then panic_body) (by decide) (vo_ex (fun _ => vo_not rfl)) (fun w hw => ⟨_, hw⟩) ?_
      refine JR_v (i := 10) rfl (by kernel_rfl) (by kernel_rfl) rfl (by kernel_rfl) (by kernel_rfl) (panic_Then panic_body) (by decide) (vo_ex (fun _ => vo_pick rfl rfl)) (fun w hw => ⟨_, hw⟩) ?_
      refine JR_split [11] (by kernel_rfl) rfl (all1 ?_)
      refine JK_do _ rfl rfl trivial (do_store (cs := (conC ⟨0, fun _ => 0⟩).toArray) (te := 91) rfl rfl sz91 (by exact one_of_all rfl) (by repeat (first | exact .head _ _ _ | apply Turn.tail)) (by exact Nat.le_of_ble_eq_true rfl) (setSeg_whole rfl)) (fun w hw => ⟨_, hw⟩) ?_
      refine JR_v (i := 12) rfl (by kernel_rfl) (by kernel_rfl) rfl (by kernel_rfl) (by kernel_rfl) (panic_Then panic_body) (by decide) (vo_ex (fun _ => vo_assign rfl)) (fun w hw => ⟨_, hw⟩) ?_
      refine JR_done (by kernel_rfl) ?_
      refine JX_then ?_
      refine JC_ret ?_
      refine retL rfl rfl (.cell rfl (by first | exact .frz ‹_› | exact .own (by repeat (first | exact .head _ | refine .tail _ ?_))) (by first | exact PartAt.whole Try.underlying91 rfl sz91 | exact pv_sum _ | exact pb_old _ | exact pb_new _) (.tmp rfl (.nil))) ?_
      intro w1 hM; refine SC_end hM ?_; simp_all [goesB, Value.cells]
  · refine JR_vn (i := 3) rfl rfl rfl (by kernel_rfl) (by kernel_rfl) rfl (by kernel_rfl) (by kernel_rfl) (panic_Then panic_body) (by decide) (fun w hw => ⟨_, hw⟩) ?_
    refine JR_vn (i := 4) rfl rfl rfl (by kernel_rfl) (by kernel_rfl) rfl (by kernel_rfl) (by kernel_rfl) (panic_Then panic_body) (by decide) (fun w hw => ⟨_, hw⟩) ?_
    refine JR_vnu (i := 5) rfl rfl rfl (by kernel_rfl) (by kernel_rfl) rfl (by kernel_rfl) (by kernel_rfl) (panic_Then panic_body) (by decide) (fun w hw => ⟨_, hw⟩) ?_
    refine JR_vnu (i := 6) rfl rfl rfl (by kernel_rfl) (by kernel_rfl) rfl (by kernel_rfl) (by kernel_rfl) (panic_Then panic_body) (by decide) (fun w hw => ⟨_, hw⟩) ?_
    refine JR_vnu (i := 7) rfl rfl rfl (by kernel_rfl) (by kernel_rfl) rfl (by kernel_rfl) (by kernel_rfl) (panic_Then panic_body) (by decide) (fun w hw => ⟨_, hw⟩) ?_
    refine JR_vn (i := 8) rfl rfl rfl (by kernel_rfl) (by kernel_rfl) rfl (by kernel_rfl) (by kernel_rfl) (panic_Then panic_body) (by decide) (fun w hw => ⟨_, hw⟩) ?_
    refine JR_vn (i := 9) rfl rfl rfl (by kernel_rfl) (by kernel_rfl) rfl (by kernel_rfl) (by kernel_rfl) (panic_Then panic_body) (by decide) (fun w hw => ⟨_, hw⟩) ?_
    refine JR_v (i := 10) rfl (by kernel_rfl) (by kernel_rfl) rfl (by kernel_rfl) (by kernel_rfl) (panic_Then panic_body) (by decide) (vo_ex (fun _ => vo_pick rfl rfl)) (fun w hw => ⟨_, hw⟩) ?_
    refine JR_split [11] (by kernel_rfl) rfl (all1 ?_)
    refine JK_do _ rfl rfl trivial (do_store (cs := (conC ⟨0, fun _ => 0⟩).toArray) (te := 91) rfl rfl sz91 (by exact one_of_all rfl) (by repeat (first | exact .head _ _ _ | apply Turn.tail)) (by exact Nat.le_of_ble_eq_true rfl) (setSeg_whole rfl)) (fun w hw => ⟨_, hw⟩) ?_
    refine JR_v (i := 12) rfl (by kernel_rfl) (by kernel_rfl) rfl (by kernel_rfl) (by kernel_rfl) (panic_Then panic_body) (by decide) (vo_ex (fun _ => vo_assign rfl)) (fun w hw => ⟨_, hw⟩) ?_
    refine JR_done (by kernel_rfl) ?_
    refine JX_then ?_
    refine JC_ret ?_
    refine retL rfl rfl (.cell rfl (by first | exact .frz ‹_› | exact .own (by repeat (first | exact .head _ | refine .tail _ ?_))) (by first | exact PartAt.whole Try.underlying91 rfl sz91 | exact pv_sum _ | exact pb_old _ | exact pb_new _) (.tmp rfl (.nil))) ?_
    intro w1 hM; refine SC_end hM ?_; simp_all [goesB, Value.cells]

end Go.Eng

set_option linter.unusedVariables false
set_option linter.unusedSimpArgs false
namespace Go.Eng
open Go Go.RowKit Go.Proofs
theorem en26 : Enters Try.prog 26 := ⟨_, Try.func26, by kernel_rfl, by kernel_rfl⟩
theorem en27 : Enters Try.prog 27 := ⟨_, Try.func27, by kernel_rfl, by kernel_rfl⟩
theorem en28 : Enters Try.prog 28 := ⟨_, Try.func28, by kernel_rfl, by kernel_rfl⟩
theorem en71 : Enters Try.prog 71 := ⟨_, Try.func71, by kernel_rfl, by kernel_rfl⟩
theorem en88 : Enters Try.prog 88 := ⟨_, Try.func88, by kernel_rfl, by kernel_rfl⟩
theorem fo122_0 : fieldOff Try.prog 122 0 = some 0 := by kernel_rfl
theorem fo53_0 : fieldOff Try.prog 53 0 = some 0 := by kernel_rfl
theorem sz3 : (Try.prog.info? 3).map (·.size) = some 1 := by kernel_rfl
theorem bl122 (x : Int) : Try.prog.built 122 [(0, .int .i64 x)] = some #[.int .i64 x] := by kernel_rfl
/-- a counter's block -/
def cntO (x : Int) : Obj := .cells #[.int .i64 x] 122 (0, 0)
def addC (left n : Int) : Int := if left ≥ 0 then left - n else left
def CntOK (x : Int) : Prop := -9223372036854775807 ≤ x ∧ x ≤ 1000000
theorem addC_ok {left n : Int} (h : CntOK left) (hn : 0 ≤ n ∧ n ≤ 9223372036854775807) : CntOK (addC left n) := by
  unfold CntOK addC at *
  split <;> omega

set_option maxRecDepth 8000 in
set_option maxHeartbeats 1000000 in
theorem many_spec (n : Int) (w : World)  : NCalls Try.prog 26 #[.int .i64 n] w (fun o => o = cntO n) := by
  refine enter (N := 6) Try.func26 rfl Try.ntmps26 (Nat.le_of_ble_eq_true rfl) [(0, .int .i64 n)] (by repeat (first | exact trivial | refine ⟨rfl, ?_⟩)) (Mem.start w (fun _ => False) (fun b => b < w.heap.size) (fun _ h => h)) ?_
  refine JC_seq ?_
  refine JC_region ?_
  refine JL_v (vo_assign rfl) nofun (by decide) ?_
  refine JL_nil ?_
  refine JX_then ?_
  refine JC_seq ?_
  refine JC_region ?_
  refine JL_v (vo_move rfl) nofun (by decide) ?_
  refine JL_v (vo_build rfl (by first | exact bl122 _)) nofun (by decide) ?_
  refine st_box rfl (by decide) (fun b5 => ?_)
  refine JL_v (vo_assign rfl) nofun (by decide) ?_
  refine JL_nil ?_
  refine JX_then ?_
  refine JC_ret ?_
  refine ret1 rfl rfl ?_
  intro w1 hM; exact NC_end hM (.head _) rfl
set_option maxRecDepth 8000 in
set_option maxHeartbeats 1000000 in
theorem ok_spec (b : Nat) (left : Int) (w : World) (hb : w.heap[b]? = some (cntO left)) : WCalls Try.prog 28 #[.pointer (some ⟨b, 0, none⟩)] w b (fun v o => v = .bool (decide (left ≥ 0)) ∧ o = cntO left) := by
  refine enter (N := 8) Try.func28 rfl Try.ntmps28 (Nat.le_of_ble_eq_true rfl) [(0, .pointer (some ⟨b, 0, none⟩))] (by repeat (first | exact trivial | refine ⟨rfl, ?_⟩)) (Mem.startW w b _ hb) ?_
  refine JC_seq ?_
  refine JC_region ?_
  refine JL_v (vo_assign rfl) nofun (by decide) ?_
  refine JL_nil ?_
  refine JX_then ?_
  refine JC_seq ?_
  refine JC_region ?_
  refine JL_v (vo_move rfl) nofun (by decide) ?_
  refine JL_v ((by first | exact vo_nilCheck rfl | exact vo_nilCheckF rfl)) nofun (by decide) ?_
  refine JL_v (vo_fieldAddr rfl fo122_0) nofun (by decide) ?_
  refine JL_v (vo_load rfl (by first | exact .frz ‹_› | exact .own (by repeat (first | exact .head _ | refine .tail _ ?_))) (by first | exact .cell Try.underlying3 rfl rfl)) nofun (by decide) ?_
  refine JL_v (vo_cmp rfl rfl rfl) nofun (by decide) ?_
  refine JL_v (vo_assign rfl) nofun (by decide) ?_
  refine JL_nil ?_
  refine JX_then ?_
  refine JC_ret ?_
  refine ret1 rfl rfl ?_
  intro w1 hM; exact WC_end hM (.head _) ⟨rfl, rfl⟩
set_option maxRecDepth 8000 in
set_option maxHeartbeats 1000000 in
theorem add_spec (b : Nat) (left n : Int) (hl : CntOK left) (hn : 0 ≤ n ∧ n ≤ 9223372036854775807) (w : World) (hb : w.heap[b]? = some (cntO left)) : WCalls Try.prog 88 #[.pointer (some ⟨b, 0, none⟩), .int .i64 n] w b (fun v o => (∃ c, v = .bool c) ∧ o = cntO (addC left n)) := by
  unfold CntOK at hl
  refine enter (N := 24) Try.func88 rfl Try.ntmps88 (Nat.le_of_ble_eq_true rfl) [(0, .pointer (some ⟨b, 0, none⟩)), (1, .int .i64 n)] (by repeat (first | exact trivial | refine ⟨rfl, ?_⟩)) (Mem.startW w b _ hb) ?_
  refine JC_seq ?_
  refine JC_region ?_
  refine JL_v (vo_assign rfl) nofun (by decide) ?_
  refine JL_nil ?_
  refine JX_then ?_
  refine JC_seq ?_
  refine JC_seq ?_
  refine JC_region ?_
  refine JL_v (vo_move rfl) nofun (by decide) ?_
  refine JL_v ((by first | exact vo_nilCheck rfl | exact vo_nilCheckF rfl)) nofun (by decide) ?_
  refine JL_v (vo_fieldAddr rfl fo122_0) nofun (by decide) ?_
  refine JL_v (vo_load rfl (by first | exact .frz ‹_› | exact .own (by repeat (first | exact .head _ | refine .tail _ ?_))) (by first | exact .cell Try.underlying3 rfl rfl)) nofun (by decide) ?_
  refine JL_v (vo_cmp rfl rfl rfl) nofun (by decide) ?_
  refine JL_nil ?_
  refine JX_then ?_
  refine JC_cond _ rfl (fun hc9 => ?_) (fun hc9 => ?_)
  · have h9 : left ≥ 0 := by simpa using hc9
    refine JC_region ?_
    refine JL_v (vo_move rfl) nofun (by decide) ?_
    refine JL_v (vo_move rfl) nofun (by decide) ?_
    refine JL_v ((by first | exact vo_nilCheck rfl | exact vo_nilCheckF rfl)) nofun (by decide) ?_
    refine JL_v (vo_fieldAddr rfl fo122_0) nofun (by decide) ?_
    refine JL_v (vo_load rfl (by first | exact .frz ‹_› | exact .own (by repeat (first | exact .head _ | refine .tail _ ?_))) (by first | exact .cell Try.underlying3 rfl rfl)) nofun (by decide) ?_
    refine JL_v (vo_move rfl) nofun (by decide) ?_
    refine JL_v (vo_sub rfl rfl (by omega) (by omega)) nofun (by decide) ?_
    refine JL_v ((by first | exact vo_nilCheck rfl | exact vo_nilCheckF rfl)) nofun (by decide) ?_
    refine JL_v (vo_fieldAddr rfl fo122_0) nofun (by decide) ?_
    refine st_store rfl rfl sz3 (by first | exact one_of_all rfl | assumption) (by repeat (first | exact .head _ _ _ | apply Turn.tail)) (by exact Nat.le_of_ble_eq_true rfl) (by rfl) ?_
    refine JL_nil ?_
    refine JX_then ?_
    refine JC_seq ?_
    refine JC_region ?_
    refine JL_v (vo_move rfl) nofun (by decide) ?_
    refine JL_v ((by first | exact vo_nilCheck rfl | exact vo_nilCheckF rfl)) nofun (by decide) ?_
    refine JL_v (vo_fieldAddr rfl fo122_0) nofun (by decide) ?_
    refine JL_v (vo_load rfl (by first | exact .frz ‹_› | exact .own (by repeat (first | exact .head _ | refine .tail _ ?_))) (by first | exact .cell Try.underlying3 rfl rfl)) nofun (by decide) ?_
    refine JL_v (vo_cmp rfl rfl rfl) nofun (by decide) ?_
    refine JL_v (vo_assign rfl) nofun (by decide) ?_
    refine JL_nil ?_
    refine JX_then ?_
    refine JC_ret ?_
    refine ret1 rfl rfl ?_
    intro w1 hM; exact WC_end hM (.head _) ⟨⟨_, rfl⟩, by unfold addC; rw [if_pos h9]; rfl⟩
  · have h9 : ¬ left ≥ 0 := by simpa using hc9
    refine JC_skip ?_
    refine JX_then ?_
    refine JC_seq ?_
    refine JC_region ?_
    refine JL_v (vo_move rfl) nofun (by decide) ?_
    refine JL_v ((by first | exact vo_nilCheck rfl | exact vo_nilCheckF rfl)) nofun (by decide) ?_
    refine JL_v (vo_fieldAddr rfl fo122_0) nofun (by decide) ?_
    refine JL_v (vo_load rfl (by first | exact .frz ‹_› | exact .own (by repeat (first | exact .head _ | refine .tail _ ?_))) (by first | exact .cell Try.underlying3 rfl rfl)) nofun (by decide) ?_
    refine JL_v (vo_cmp rfl rfl rfl) nofun (by decide) ?_
    refine JL_v (vo_assign rfl) nofun (by decide) ?_
    refine JL_nil ?_
    refine JX_then ?_
    refine JC_ret ?_
    refine ret1 rfl rfl ?_
    intro w1 hM; exact WC_end hM (.head _) ⟨⟨_, rfl⟩, by unfold addC; rw [if_neg h9]⟩
set_option maxRecDepth 8000 in
set_option maxHeartbeats 1000000 in
theorem text_spec (b : Nat) (left : Int) (s : ByteArray) (hl : CntOK left) (hs : s.size ≤ 9223372036854775807) (w : World) (hb : w.heap[b]? = some (cntO left)) : WCalls Try.prog 71 #[.pointer (some ⟨b, 0, none⟩), .string s] w b (fun v o => v = .tuple #[] ∧ o = cntO (addC (addC left 1) s.size)) := by
  refine enter (N := 10) Try.func71 rfl Try.ntmps71 (Nat.le_of_ble_eq_true rfl) [(0, .pointer (some ⟨b, 0, none⟩)), (1, .string s)] (by repeat (first | exact trivial | refine ⟨rfl, ?_⟩)) (Mem.startW w b _ hb) ?_
  refine JC_seq ?_
  refine JC_region ?_
  refine JL_v (vo_move rfl) nofun (by decide) ?_
  refine st_wcall rfl en88 (by decide) (L' := fun o => .blk b o :: _) (fun o => .head _ _ _) (fun w hw hb => add_spec b _ _ hl ⟨by omega, by omega⟩ w hb) ?_
  rintro _ _ ⟨⟨c5, rfl⟩, rfl⟩
  refine JL_nil ?_
  refine JX_then ?_
  refine JC_region ?_
  refine JL_v (vo_move rfl) nofun (by decide) ?_
  refine JL_v (vo_move rfl) nofun (by decide) ?_
  refine JL_v (vo_lenS rfl Try.underlying9) nofun (by decide) ?_
  refine st_wcall rfl en88 (by decide) (L' := fun o => .blk b o :: _) (fun o => .head _ _ _) (fun w hw hb => add_spec b _ _ (addC_ok hl ⟨by omega, by omega⟩) ⟨by omega, by omega⟩ w hb) ?_
  rintro _ _ ⟨⟨c9, rfl⟩, rfl⟩
  refine JL_nil ?_
  refine end0 rfl (fun w1 hM => WC_end hM (.head _) ⟨rfl, rfl⟩)
/-- parts of changes -/
def partsL : List Chg → Int
  | [] => 0
  | c :: l => 1 + c.path.size + partsL l
theorem partsL_nonneg : ∀ l, 0 ≤ partsL l
  | [] => by simp [partsL]
  | c :: l => by have := partsL_nonneg l; simp only [partsL]; omega
theorem partsL_append : ∀ (a b : List Chg), partsL (a ++ b) = partsL a + partsL b
  | [], b => by simp [partsL]
  | c :: a, b => by simp only [List.cons_append, partsL, partsL_append a b]; omega
theorem take_snoc_get {α : Type} {l : List α} {i : Nat} {x : α} (h : l[i]? = some x) : l.take (i + 1) = l.take i ++ [x] := by
  obtain ⟨hi, rfl⟩ := List.getElem?_eq_some_iff.1 h
  rw [List.take_succ_eq_append_getElem hi]
theorem partsL_take (l : List Chg) (i : Nat) : partsL (l.take i) ≤ partsL l := by
  have h : partsL l = partsL (l.take i) + partsL (l.drop i) := by rw [← partsL_append, List.take_append_drop]
  have := partsL_nonneg (l.drop i)
  omega
/-- what a counter knows of the first i changes -/
def CntAt (most : Int) (l : List Chg) (i : Nat) (left : Int) : Prop := CntOK left ∧ (left ≥ 0 → left = most - partsL (l.take i)) ∧ (left < 0 → most < partsL l)

set_option maxRecDepth 8000 in
set_option maxHeartbeats 1000000 in
theorem changes_spec (b : Nat) (most left : Int) (l : List Chg) (v : Value) (hl : CntAt most l 0 left) (hs : ∀ c ∈ l, c.path.size ≤ 9223372036854775807) (w : World) (hr : RItems (fun k => k < w.heap.size ∧ k ≠ b) w 71 chC l v) (hb : w.heap[b]? = some (cntO left)) : WCalls Try.prog 27 #[.pointer (some ⟨b, 0, none⟩), v] w b (fun u o => u = .tuple #[] ∧ ∃ x, o = cntO x ∧ (x ≥ 0 ↔ partsL l ≤ most)) := by
  obtain ⟨A, c, rfl, hlen⟩ := hr.slice
  refine enter (N := 22) Try.func27 rfl Try.ntmps27 (Nat.le_of_ble_eq_true rfl) [(0, .pointer (some ⟨b, 0, none⟩)), (1, .slice A l.length c)] (by repeat (first | exact trivial | refine ⟨rfl, ?_⟩)) (Mem.startW w b _ hb) ?_
  refine JC_seq ?_
  refine JC_region ?_
  refine JL_v (vo_assign rfl) nofun (by decide) ?_
  refine JL_nil ?_
  refine JX_then ?_
  refine JC_block ?_
  refine JC_loop (α := { x : Nat × Int // x.1 ≤ l.length ∧ CntAt most l x.1 x.2 }) (fun x => [(0, .pointer (some ⟨b, 0, none⟩)), (1, .slice A l.length c), (4, .int .i64 x.1.1)]) (fun x => Mem w (fun k => k = b) (fun k => k < w.heap.size ∧ k ≠ b) (fun k => k < w.heap.size ∧ k ≠ b) w [.blk b (cntO x.1.2)]) (fun x => l.length - x.1.1) ⟨(0, left), by simp, hl⟩ (by repeat (first | exact trivial | refine ⟨rfl, ?_⟩ | refine ⟨trivial, ?_⟩)) (fun w hw => hw) ?_
  rintro ⟨⟨i, x⟩, hi, hx⟩
  dsimp only at hi hx ⊢
  refine JC_seq ?_
  refine JC_seq ?_
  refine JC_region ?_
  refine JL_v (vo_move rfl) nofun (by decide) ?_
  refine JL_v (vo_move rfl) nofun (by decide) ?_
  refine JL_v (vo_len rfl Try.underlying22) nofun (by decide) ?_
  refine JL_v (vo_cmp rfl rfl rfl) nofun (by decide) ?_
  refine JL_v (vo_move rfl) nofun (by decide) ?_
  refine JL_case 9 rfl (fun hg9 => ?_) (fun hg9 => ?_)
  · refine JL_yes rfl rfl ?_
    refine JL_v (vo_move rfl) nofun (by decide) ?_
    refine JL_yes rfl rfl ?_
    refine st_wcall rfl en28 (by decide) (L' := fun o => .blk b o :: _) (fun o => .head _ _ _) (fun w hw hb => ok_spec b _ w hb) ?_
    rintro _ _ ⟨rfl, rfl⟩
    refine JL_v (vo_pick rfl rfl) nofun (by decide) ?_
    refine JL_nil ?_
    refine JX_then ?_
    refine JC_cond _ rfl (fun hc12 => ?_) (fun hc12 => ?_)
    · refine JC_skip ?_
      refine JX_then ?_
      refine JC_seq ?_
      refine JC_block ?_
      refine JC_region ?_
      have hil : i < l.length := by simp at hg9; omega
      have hx0 : x ≥ 0 := by simpa using hc12
      obtain ⟨nd, hnd⟩ : ∃ nd, l[i]? = some nd := ⟨_, List.getElem?_eq_getElem hil⟩
      obtain ⟨b', o', c', cs', te, fr, hv, hfb, hseg⟩ := hr.at_ hnd
      cases hv
      have hns := hs nd (List.mem_of_getElem? hnd)
      refine JL_v (vo_move rfl) nofun (by decide) ?_
      refine JL_v (vo_move rfl) nofun (by decide) ?_
      refine JL_v (vo_move rfl) nofun (by decide) ?_
      refine JL_v (vo_indexAddr rfl rfl Try.underlying22 sz53 (by omega) (by omega)) nofun (by decide) ?_
      refine JL_v (vo_fieldAddr rfl fo53_0) nofun (by decide) ?_
      refine JL_v (vo_load rfl (by first | exact .frz ‹_› | exact .own (by repeat (first | exact .head _ | refine .tail _ ?_))) (by first | exact .cell Try.underlying9 rfl rfl | exact pc_path hseg)) nofun (by decide) ?_
      refine st_wcall rfl en71 (by decide) (L' := fun o => .blk b o :: _) (fun o => .head _ _ _) (fun w hw hb => text_spec b _ _ hx.1 (hs nd (List.mem_of_getElem? hnd)) w hb) ?_
      rintro _ _ ⟨rfl, rfl⟩
      refine JL_nil ?_
      refine JX_block ?_
      refine JX_then ?_
      refine JC_region ?_
      refine JL_v (vo_move rfl) nofun (by decide) ?_
      refine JL_v (vo_add rfl rfl (by omega) (by omega)) nofun (by decide) ?_
      refine JL_v (vo_assign rfl) nofun (by decide) ?_
      refine JL_nil ?_
      refine JX_loop ⟨(i + 1, addC (addC x 1) nd.path.size), hil, addC_ok (addC_ok hx.1 ⟨by omega, by omega⟩) ⟨by omega, by omega⟩, ?_, ?_⟩ (by show l.length - (i + 1) < l.length - i; omega) (by repeat (first | exact trivial | refine ⟨rfl, ?_⟩ | refine ⟨trivial, ?_⟩)) (fun w hw => hw)
      · have h1 := hx.2.1 hx0
        dsimp only
        rw [take_snoc_get hnd, partsL_append]
        intro h2
        simp only [addC, partsL] at h2 ⊢
        split at h2 <;> split at h2 <;> simp_all <;> omega
      · have h1 := hx.2.1 hx0
        have h3 := partsL_take l (i + 1)
        rw [take_snoc_get hnd, partsL_append] at h3
        dsimp only
        intro h2
        simp only [addC, partsL] at h2 h3
        split at h2 <;> split at h2 <;> simp_all <;> omega
    · refine JC_exit ?_
      refine JX_then_exit ?_
      refine JX_thenK_exit ?_
      refine JX_block_exit ?_
      refine end0 rfl (fun w1 hM => WC_end hM (.head _) ⟨rfl, _, rfl, ?_⟩)
      have h8 := partsL_nonneg l
      first
        | (have hx0 : ¬ x ≥ 0 := by simpa using hc12
           have h9 := hx.2.2 (by omega)
           constructor <;> intro h <;> omega)
        | (have hxi : i = l.length := by simp at hg9; omega
           have h1 := hx.2.1
           have h2 := hx.2.2
           rw [hxi, List.take_length] at h1
           constructor <;> intro h <;> omega)
  · refine JL_no rfl rfl (by decide) ?_
    refine JL_no rfl rfl (by decide) ?_
    refine JL_v (vo_pick rfl rfl) nofun (by decide) ?_
    refine JL_nil ?_
    refine JX_then ?_
    refine JC_cond false rfl (fun h => Bool.noConfusion h) (fun _ => ?_)
    refine JC_exit ?_
    refine JX_then_exit ?_
    refine JX_thenK_exit ?_
    refine JX_block_exit ?_
    refine end0 rfl (fun w1 hM => WC_end hM (.head _) ⟨rfl, _, rfl, ?_⟩)
    have h8 := partsL_nonneg l
    first
      | (have hx0 : ¬ x ≥ 0 := by simpa using hc12
         have h9 := hx.2.2 (by omega)
         constructor <;> intro h <;> omega)
      | (have hxi : i = l.length := by simp at hg9; omega
         have h1 := hx.2.1
         have h2 := hx.2.2
         rw [hxi, List.take_length] at h1
         constructor <;> intro h <;> omega)
set_option maxRecDepth 8000 in
set_option maxHeartbeats 1000000 in
theorem few_spec (l : List Chg) (v : Value) (hs : ∀ c ∈ l, c.path.size ≤ 9223372036854775807) (w : World) (hr : RItems (fun b => b < w.heap.size) w 71 chC l v) : SCalls Try.prog 6 #[v] w (fun u => u = .bool (decide (partsL l ≤ 6000))) := by
  obtain ⟨A, c, rfl, hlen⟩ := hr.slice
  refine enter (N := 10) Try.func6 rfl Try.ntmps6 (Nat.le_of_ble_eq_true rfl) [(0, .slice A l.length c)] (by repeat (first | exact trivial | refine ⟨rfl, ?_⟩)) (Mem.start w (fun _ => False) (fun b => b < w.heap.size) (fun _ h => h)) ?_
  refine JC_seq ?_
  refine JC_region ?_
  refine JL_v (vo_assign rfl) nofun (by decide) ?_
  refine JL_nil ?_
  refine JX_then ?_
  refine JC_seq ?_
  refine JC_region ?_
  refine st_ncall rfl en26 (by decide) (fun w hw => many_spec 6000 w) ?_
  rintro b4 _ rfl
  refine JL_v (vo_assign rfl) nofun (by decide) ?_
  refine JL_nil ?_
  refine JX_then ?_
  refine JC_seq ?_
  refine JC_region ?_
  refine JL_v (vo_move rfl) nofun (by decide) ?_
  refine JL_v (vo_move rfl) nofun (by decide) ?_
  refine st_wcall rfl en27 (by decide) (L' := fun o => .blk b4 o :: _) (fun o => .head _ _ _) (fun w hw hb => changes_spec b4 6000 6000 l _ ⟨by unfold CntOK; omega, by simp [partsL], by omega⟩ hs w (hr.ext (hw.ext_now (.head _))) hb) ?_
  rintro _ _ ⟨rfl, x, rfl, hx⟩
  refine JL_nil ?_
  refine JX_then ?_
  refine JC_seq ?_
  refine JC_region ?_
  refine JL_v (vo_move rfl) nofun (by decide) ?_
  refine st_wcall rfl en28 (by decide) (L' := fun o => .blk b4 o :: _) (fun o => .head _ _ _) (fun w hw hb => ok_spec b4 _ w hb) ?_
  rintro _ _ ⟨rfl, rfl⟩
  refine JL_v (vo_assign rfl) nofun (by decide) ?_
  refine JL_nil ?_
  refine JX_then ?_
  refine JC_ret ?_
  refine ret1 rfl rfl ?_
  intro w1 hM; exact SC_end hM (by show Value.bool (decide (x ≥ 0)) = _; rw [decide_eq_decide.2 hx])

end Go.Eng

set_option linter.unusedVariables false
set_option linter.unusedSimpArgs false
namespace Go.Eng
open Go Go.RowKit Go.Proofs
/-- where a path's last name begins -/
def slashN : List UInt8 → Nat → Nat → Nat
  | [], _, from_ => from_
  | c :: l, i, from_ => slashN l (i + 1) (if c.toNat = 47 then i + 1 else from_)
def lastFrom (s : ByteArray) : Nat := slashN s.data.toList 0 0
def lastP (s : ByteArray) : ByteArray := s.extract (lastFrom s) s.size
theorem slashN_le : ∀ (l : List UInt8) (i f : Nat), f ≤ i → slashN l i f ≤ i + l.length
  | [], i, f, h => by simpa [slashN] using h
  | c :: l, i, f, h => by
    simp only [slashN]
    have := slashN_le l (i + 1) (if c.toNat = 47 then i + 1 else f) (by split <;> omega)
    simp only [List.length_cons]; omega
theorem lastFrom_le (s : ByteArray) : lastFrom s ≤ s.size := by
  have := slashN_le s.data.toList 0 0 (Nat.le_refl _)
  have h : s.data.toList.length = s.size := by rw [Array.length_toList]; rfl
  unfold lastFrom; omega
theorem slashN_append : ∀ (a b : List UInt8) (i f : Nat), slashN (a ++ b) i f = slashN b (i + a.length) (slashN a i f)
  | [], b, i, f => by simp [slashN]
  | c :: a, b, i, f => by
    simp only [List.cons_append, slashN, slashN_append a b, List.length_cons]
    congr 1; omega
theorem slashN_none : ∀ (l : List UInt8) (i f : Nat), (∀ c ∈ l, c.toNat ≠ 47) → slashN l i f = f
  | [], _, _, _ => rfl
  | c :: l, i, f, h => by
    rw [slashN, if_neg (h c (.head _)), slashN_none l _ _ (fun x hx => h x (.tail _ hx))]
theorem bAt_some {s : ByteArray} {i : Nat} (h : i < s.size) : s.data.toList[i]? = some (s.data.toList[i]'(by rw [Array.length_toList]; exact h)) ∧ bAt s i = (s.data.toList[i]'(by rw [Array.length_toList]; exact h)).toNat := by
  have h' : i < s.data.toList.length := by rw [Array.length_toList]; exact h
  exact ⟨List.getElem?_eq_getElem h', by unfold bAt; rw [List.getElem?_eq_getElem h']; rfl⟩
/-- going up -/
theorem slash_step {s : ByteArray} {i : Nat} (h : i < s.size) : slashN (s.data.toList.take (i + 1)) 0 0 = if bAt s i = 47 then i + 1 else slashN (s.data.toList.take i) 0 0 := by
  obtain ⟨h1, h2⟩ := bAt_some h
  have hl : s.data.toList.length = s.size := by rw [Array.length_toList]; rfl
  rw [take_snoc_get h1, slashN_append]
  simp only [slashN, h2, List.length_take, Nat.zero_add]
  rw [Nat.min_eq_left (by omega)]
theorem slash_whole (s : ByteArray) : slashN (s.data.toList.take s.size) 0 0 = lastFrom s := by
  have hl : s.data.toList.length = s.size := by rw [Array.length_toList]; rfl
  rw [← hl, List.take_length]; rfl
/-- going down -/
theorem slash_found {s : ByteArray} {i : Nat} (h : i < s.size) (h1 : bAt s i = 47) (h2 : ∀ j, i < j → j < s.size → bAt s j ≠ 47) : lastFrom s = i + 1 := by
  have hl : s.data.toList.length = s.size := by rw [Array.length_toList]; rfl
  have hs := slash_step h
  rw [if_pos h1] at hs
  unfold lastFrom
  rw [← List.take_append_drop (i + 1) s.data.toList, slashN_append, hs]
  refine slashN_none _ _ _ fun c hc => ?_
  obtain ⟨j, hj⟩ := List.getElem?_of_mem hc
  rw [List.getElem?_drop] at hj
  have hlt := (List.getElem?_eq_some_iff.1 hj).1
  have := h2 (i + 1 + j) (by omega) (by omega)
  unfold bAt at this
  rw [hj] at this
  exact this
theorem slash_none {s : ByteArray} (h2 : ∀ j, j < s.size → bAt s j ≠ 47) : lastFrom s = 0 := by
  have hl : s.data.toList.length = s.size := by rw [Array.length_toList]; rfl
  refine slashN_none _ _ _ fun c hc => ?_
  obtain ⟨j, hj⟩ := List.getElem?_of_mem hc
  have hlt := (List.getElem?_eq_some_iff.1 hj).1
  have := h2 j (by omega)
  unfold bAt at this
  rw [hj] at this
  exact this
def wone : ByteArray := ⟨#[60, 111, 110, 101, 62]⟩
def wtwo : ByteArray := ⟨#[60, 116, 119, 111, 62]⟩
def wordP (i : Int) : ByteArray := if i % 2 = 0 then wone else wtwo
end Go.Eng

set_option linter.unusedVariables false
set_option linter.unusedSimpArgs false
namespace Go.Eng
open Go Go.RowKit Go.Proofs
theorem en74 : Enters Try.prog 74 := ⟨_, Try.func74, by kernel_rfl, by kernel_rfl⟩
theorem en89 : Enters Try.prog 89 := ⟨_, Try.func89, by kernel_rfl, by kernel_rfl⟩

set_option maxRecDepth 8000 in
set_option maxHeartbeats 1000000 in
theorem word_spec (i : Int) (hi : 0 ≤ i) (w : World)  : SCalls Try.prog 72 #[.int .i64 i] w (fun u => u = .string (wordP i)) := by
  refine enter (N := 6) Try.func72 rfl Try.ntmps72 (Nat.le_of_ble_eq_true rfl) [(0, .int .i64 i)] (by repeat (first | exact trivial | refine ⟨rfl, ?_⟩)) (Mem.start w (fun _ => False) (fun b => b < w.heap.size) (fun _ h => h)) ?_
  refine JC_seq ?_
  refine JC_region ?_
  refine JL_v (vo_assign rfl) nofun (by decide) ?_
  refine JL_nil ?_
  refine JX_then ?_
  refine JC_seq ?_
  refine JC_seq ?_
  refine JC_region ?_
  refine JL_v (vo_move rfl) nofun (by decide) ?_
  refine JL_v (vo_rem rfl rfl (by omega) (by omega)) nofun (by decide) ?_
  refine JL_v (vo_cmp rfl rfl rfl) nofun (by decide) ?_
  refine JL_nil ?_
  refine JX_then ?_
  refine JC_cond _ rfl (fun hc5 => ?_) (fun hc5 => ?_)
  · refine JC_seq ?_
    refine JC_region ?_
    refine JL_v (vo_assign rfl) nofun (by decide) ?_
    refine JL_nil ?_
    refine JX_then ?_
    refine JC_ret ?_
    refine JX_then_ret ?_
    refine ret1 rfl rfl ?_
    intro w1 hM; refine SC_end hM ?_; have h : i % 2 = 0 := by simpa using hc5
    unfold wordP; rw [if_pos h]; rfl
  · refine JC_skip ?_
    refine JX_then ?_
    refine JC_seq ?_
    refine JC_region ?_
    refine JL_v (vo_assign rfl) nofun (by decide) ?_
    refine JL_nil ?_
    refine JX_then ?_
    refine JC_ret ?_
    refine ret1 rfl rfl ?_
    intro w1 hM; refine SC_end hM ?_; have h : ¬ i % 2 = 0 := by simpa using hc5
    unfold wordP; rw [if_neg h]; rfl
set_option maxRecDepth 8000 in
set_option maxHeartbeats 1000000 in
theorem last_spec (p : ByteArray) (w : World) (hp : p.size ≤ 1000000000000) : SCalls Try.prog 33 #[.string p] w (fun u => u = .string (lastP p)) := by
  refine enter (N := 20) Try.func33 rfl Try.ntmps33 (Nat.le_of_ble_eq_true rfl) [(0, .string p)] (by repeat (first | exact trivial | refine ⟨rfl, ?_⟩)) (Mem.start w (fun _ => False) (fun b => b < w.heap.size) (fun _ h => h)) ?_
  refine JC_seq ?_
  refine JC_region ?_
  refine JL_v (vo_assign rfl) nofun (by decide) ?_
  refine JL_nil ?_
  refine JX_then ?_
  refine JC_seq ?_
  refine JC_region ?_
  refine JL_v (vo_assign rfl) nofun (by decide) ?_
  refine JL_nil ?_
  refine JX_then ?_
  refine JC_seq ?_
  refine JC_seq ?_
  refine JC_region ?_
  refine JL_v (vo_assign rfl) nofun (by decide) ?_
  refine JL_nil ?_
  refine JX_then ?_
  refine JC_block ?_
  refine JC_loop (α := { x : Nat × Nat // x.1 ≤ p.size ∧ x.2 = slashN (p.data.toList.take x.1) 0 0 }) (fun x => [(0, .string p), (3, .int .i64 x.1.2), (4, .int .i64 x.1.1)]) (fun x => Mem w (fun _ => False) (fun b => b < w.heap.size) (fun b => b < w.heap.size) w  []) (fun x => p.size - x.1.1) ⟨(0, 0), by simp, by simp [slashN]⟩ (by repeat (first | exact trivial | refine ⟨rfl, ?_⟩ | refine ⟨trivial, ?_⟩)) (fun w hw => hw) ?_
  rintro ⟨⟨i, f⟩, hi, hf⟩
  dsimp only at hi hf ⊢
  refine JC_seq ?_
  refine JC_seq ?_
  refine JC_region ?_
  refine JL_v (vo_move rfl) nofun (by decide) ?_
  refine JL_v (vo_move rfl) nofun (by decide) ?_
  refine JL_v (vo_lenS rfl Try.underlying9) nofun (by decide) ?_
  refine JL_v (vo_cmp rfl rfl rfl) nofun (by decide) ?_
  refine JL_nil ?_
  refine JX_then ?_
  refine JC_cond _ rfl (fun hc8 => ?_) (fun hc8 => ?_)
  · have hil : i < p.size := by simp at hc8; omega
    have hst := slash_step hil
    refine JC_skip ?_
    refine JX_then ?_
    refine JC_seq ?_
    refine JC_block ?_
    refine JC_seq ?_
    refine JC_region ?_
    refine JL_v (vo_move rfl) nofun (by decide) ?_
    refine JL_v (vo_move rfl) nofun (by decide) ?_
    refine JL_v (vo_indexS rfl rfl Try.underlying9 (by omega) (by omega)) nofun (by decide) ?_
    refine JL_v (vo_cmp rfl rfl rfl) nofun (by decide) ?_
    refine JL_nil ?_
    refine JX_then ?_
    refine JC_joinV [(3, .int .i64 (slashN (p.data.toList.take (i + 1)) 0 0))] ?_ ?_
    · refine JC_cond _ rfl (fun hc14 => ?_) (fun hc14 => ?_)
      · refine JC_region ?_
        refine JL_v (vo_move rfl) nofun (by decide) ?_
        refine JL_v (vo_add rfl rfl (by omega) (by omega)) nofun (by decide) ?_
        refine JL_v (vo_assign rfl) nofun (by decide) ?_
        refine JL_nil ?_
        refine JX_joinV [(3, _)] (by repeat (first | exact trivial | refine ⟨rfl, ?_⟩ | refine ⟨trivial, ?_⟩)) ?_
        rw [hst]; simp at hc14; first | (rw [if_pos (by omega)]; rfl) | (rw [if_neg (by omega), ← hf])
      · refine JC_skip ?_
        refine JX_joinV [(3, _)] (by repeat (first | exact trivial | refine ⟨rfl, ?_⟩ | refine ⟨trivial, ?_⟩)) ?_
        rw [hst]; simp at hc14; first | (rw [if_pos (by omega)]; rfl) | (rw [if_neg (by omega), ← hf])
    · refine JX_block ?_
      refine JX_then ?_
      refine JC_region ?_
      refine JL_v (vo_move rfl) nofun (by decide) ?_
      refine JL_v (vo_add rfl rfl (by omega) (by omega)) nofun (by decide) ?_
      refine JL_v (vo_assign rfl) nofun (by decide) ?_
      refine JL_nil ?_
      refine JX_loop ⟨(i + 1, _), hil, rfl⟩ (by show p.size - (i + 1) < p.size - i; omega) (by repeat (first | exact trivial | refine ⟨rfl, ?_⟩ | refine ⟨trivial, ?_⟩)) (fun w hw => hw)
  · refine JC_exit ?_
    refine JX_then_exit ?_
    refine JX_thenK_exit ?_
    refine JX_block_exit ?_
    refine JX_then ?_
    refine JC_seq ?_
    refine JC_region ?_
    have hie : i = p.size := by simp at hc8; omega
    rw [hie, slash_whole] at hf
    subst hf
    have hlf := lastFrom_le p
    refine JL_v (vo_move rfl) nofun (by decide) ?_
    refine JL_v (vo_move rfl) nofun (by decide) ?_
    refine JL_v (vo_strL rfl rfl Try.underlying9 (by omega) (by omega)) nofun (by decide) ?_
    refine JL_v (vo_assign rfl) nofun (by decide) ?_
    refine JL_nil ?_
    refine JX_then ?_
    refine JC_ret ?_
    refine ret1 rfl rfl ?_
    intro w1 hM; exact SC_end hM rfl
set_option maxRecDepth 8000 in
set_option maxHeartbeats 1000000 in
theorem lastidx_spec (p : ByteArray) (w : World) (hp : p.size ≤ 1000000000000) : SCalls Try.prog 89 #[.string p, .int .u8 47] w (fun u => u = .int .i64 ((lastFrom p : Int) - 1)) := by
  refine enter (N := 19) Try.func89 rfl Try.ntmps89 (Nat.le_of_ble_eq_true rfl) [(0, .string p), (1, .int .u8 47)] (by repeat (first | exact trivial | refine ⟨rfl, ?_⟩)) (Mem.start w (fun _ => False) (fun b => b < w.heap.size) (fun _ h => h)) ?_
  refine JC_seq ?_
  refine JC_region ?_
  refine JL_v (vo_assign rfl) nofun (by decide) ?_
  refine JL_nil ?_
  refine JX_then ?_
  refine JC_seq ?_
  refine JC_seq ?_
  refine JC_region ?_
  refine JL_v (vo_move rfl) nofun (by decide) ?_
  refine JL_v (vo_lenS rfl Try.underlying9) nofun (by decide) ?_
  refine JL_v (vo_sub rfl rfl (by omega) (by omega)) nofun (by decide) ?_
  refine JL_v (vo_assign rfl) nofun (by decide) ?_
  refine JL_nil ?_
  refine JX_then ?_
  refine JC_block ?_
  refine JC_loop (α := { i : Int // -1 ≤ i ∧ i < p.size ∧ ∀ j : Nat, i < j → j < p.size → bAt p j ≠ 47 }) (fun i => [(0, .string p), (1, .int .u8 47), (5, .int .i64 i.1)]) (fun i => Mem w (fun _ => False) (fun b => b < w.heap.size) (fun b => b < w.heap.size) w  []) (fun i => (i.1 + 1).toNat) ⟨p.size - 1, by omega, by omega, by intro j h1 h2; omega⟩ (by repeat (first | exact trivial | refine ⟨rfl, ?_⟩ | refine ⟨trivial, ?_⟩)) (fun w hw => hw) ?_
  rintro ⟨i, hi0, hi1, hbef⟩
  dsimp only
  refine JC_seq ?_
  refine JC_seq ?_
  refine JC_region ?_
  refine JL_v (vo_move rfl) nofun (by decide) ?_
  refine JL_v (vo_cmp rfl rfl rfl) nofun (by decide) ?_
  refine JL_nil ?_
  refine JX_then ?_
  refine JC_cond _ rfl (fun hc10 => ?_) (fun hc10 => ?_)
  · have hge : 0 ≤ i := by simp at hc10; omega
    refine JC_skip ?_
    refine JX_then ?_
    refine JC_seq ?_
    refine JC_block ?_
    refine JC_seq ?_
    refine JC_region ?_
    refine JL_v (vo_move rfl) nofun (by decide) ?_
    refine JL_v (vo_move rfl) nofun (by decide) ?_
    refine JL_v (vo_indexS rfl rfl Try.underlying9 (by omega) (by omega)) nofun (by decide) ?_
    refine JL_v (vo_move rfl) nofun (by decide) ?_
    refine JL_v (vo_cmp rfl rfl rfl) nofun (by decide) ?_
    refine JL_nil ?_
    refine JX_then ?_
    refine JC_cond _ rfl (fun hc17 => ?_) (fun hc17 => ?_)
    · refine JC_seq ?_
      refine JC_region ?_
      refine JL_v (vo_move rfl) nofun (by decide) ?_
      refine JL_v (vo_assign rfl) nofun (by decide) ?_
      refine JL_nil ?_
      refine JX_then ?_
      refine JC_ret ?_
      refine JX_block_ret ?_
      refine JX_then_ret ?_
      refine JX_thenK_ret ?_
      refine JX_block_ret ?_
      refine JX_then_ret ?_
      refine ret1 rfl rfl ?_
      intro w1 hM
      refine SC_end hM ?_
      have h1 : bAt p i.toNat = 47 := by simp at hc17; omega
      have h2 := slash_found (s := p) (i := i.toNat) (by omega) h1 (fun j hj => hbef j (by omega))
      rw [h2]
      show Value.int .i64 i = _
      congr 1; omega
    · refine JC_skip ?_
      refine JX_block ?_
      refine JX_then ?_
      refine JC_region ?_
      refine JL_v (vo_move rfl) nofun (by decide) ?_
      refine JL_v (vo_sub rfl rfl (by omega) (by omega)) nofun (by decide) ?_
      refine JL_v (vo_assign rfl) nofun (by decide) ?_
      refine JL_nil ?_
      refine JX_loop ⟨i - 1, by omega, by omega, fun j h1 h2 => ?_⟩ (by show (i - 1 + 1).toNat < (i + 1).toNat; omega) (by repeat (first | exact trivial | refine ⟨rfl, ?_⟩ | refine ⟨trivial, ?_⟩)) (fun w hw => hw)
      by_cases hj : (j : Int) = i
      · have : j = i.toNat := by omega
        subst this
        simp at hc17; omega
      · exact hbef j (by omega) h2
  · refine JC_exit ?_
    refine JX_then_exit ?_
    refine JX_thenK_exit ?_
    refine JX_block_exit ?_
    refine JX_then ?_
    refine JC_seq ?_
    refine JC_region ?_
    refine JL_v (vo_assign rfl) nofun (by decide) ?_
    refine JL_nil ?_
    refine JX_then ?_
    refine JC_ret ?_
    refine ret1 rfl rfl ?_
    intro w1 hM
    refine SC_end hM ?_
    have h2 := slash_none (s := p) (fun j hj => hbef j (by simp at hc10; omega) hj)
    rw [h2]; rfl
set_option maxRecDepth 8000 in
set_option maxHeartbeats 1000000 in
theorem lastbyte_spec (p : ByteArray) (w : World) (hp : p.size ≤ 1000000000000) : SCalls Try.prog 74 #[.string p, .int .u8 47] w (fun u => u = .int .i64 ((lastFrom p : Int) - 1)) := by
  refine enter (N := 8) Try.func74 rfl Try.ntmps74 (Nat.le_of_ble_eq_true rfl) [(0, .string p), (1, .int .u8 47)] (by repeat (first | exact trivial | refine ⟨rfl, ?_⟩)) (Mem.start w (fun _ => False) (fun b => b < w.heap.size) (fun _ h => h)) ?_
  refine JC_seq ?_
  refine JC_region ?_
  refine JL_v (vo_assign rfl) nofun (by decide) ?_
  refine JL_nil ?_
  refine JX_then ?_
  refine JC_seq ?_
  refine JC_region ?_
  refine JL_v (vo_move rfl) nofun (by decide) ?_
  refine JL_v (vo_move rfl) nofun (by decide) ?_
  refine st_scall rfl en89 (by decide) (fun w hw => lastidx_spec p w hp) ?_
  rintro _ rfl
  refine JL_v (vo_assign rfl) nofun (by decide) ?_
  refine JL_nil ?_
  refine JX_then ?_
  refine JC_ret ?_
  refine ret1 rfl rfl ?_
  intro w1 hM; exact SC_end hM rfl
set_option maxRecDepth 8000 in
set_option maxHeartbeats 1000000 in
theorem dlast_spec (p : ByteArray) (w : World) (hp : p.size ≤ 1000000000000) : SCalls Try.prog 37 #[.string p] w (fun u => u = .string (lastP p)) := by
  have hlf := lastFrom_le p
  refine enter (N := 8) Try.func37 rfl Try.ntmps37 (Nat.le_of_ble_eq_true rfl) [(0, .string p)] (by repeat (first | exact trivial | refine ⟨rfl, ?_⟩)) (Mem.start w (fun _ => False) (fun b => b < w.heap.size) (fun _ h => h)) ?_
  refine JC_seq ?_
  refine JC_region ?_
  refine JL_v (vo_assign rfl) nofun (by decide) ?_
  refine JL_nil ?_
  refine JX_then ?_
  refine JC_seq ?_
  refine JC_region ?_
  refine JL_v (vo_move rfl) nofun (by decide) ?_
  refine JL_v (vo_move rfl) nofun (by decide) ?_
  refine st_scall rfl en74 (by decide) (fun w hw => lastbyte_spec p w hp) ?_
  rintro _ rfl
  refine JL_v (vo_add rfl rfl (by omega) (by omega)) nofun (by decide) ?_
  refine JL_v (vo_strL rfl rfl Try.underlying9 (by omega) (by omega)) nofun (by decide) ?_
  refine JL_v (vo_assign rfl) nofun (by decide) ?_
  refine JL_nil ?_
  refine JX_then ?_
  refine JC_ret ?_
  refine ret1 rfl rfl ?_
  intro w1 hM; refine SC_end hM ?_
  show Value.string (p.extract ((lastFrom p : Int) - 1 + 1).toNat p.size) = _
  rw [show ((lastFrom p : Int) - 1 + 1).toNat = lastFrom p by omega]; rfl

end Go.Eng

set_option linter.unusedVariables false
set_option linter.unusedSimpArgs false
namespace Go.Eng
open Go Go.RowKit Go.Proofs
def strsC (l : List ByteArray) : List Value := l.map fun s => .string s
theorem strsC_length (l : List ByteArray) : (strsC l).length = l.length := by simp [strsC]
theorem strsC_get {l : List ByteArray} {i : Nat} {s : ByteArray} (h : l[i]? = some s) : (strsC l)[i]? = some (.string s) := by simp [strsC, h]
/-- the first that a rule takes -/
def idxS {α : Type} (q : α → Bool) : List α → Int → Int
  | [], _ => -1
  | k :: ks, i => if q k then i else idxS q ks (i + 1)
theorem drop_of_get {α : Type} {l : List α} {i : Nat} {x : α} (h : l[i]? = some x) : l.drop i = x :: l.drop (i + 1) := by
  obtain ⟨hi, rfl⟩ := List.getElem?_eq_some_iff.1 h
  exact List.drop_eq_getElem_cons hi
theorem idxS_spec {α : Type} (q : α → Bool) : ∀ (l : List α) (i : Int), 0 ≤ i → (idxS q l i = -1 ∧ ∀ x ∈ l, q x = false) ∨ ∃ (j : Nat) (x : α), idxS q l i = i + j ∧ l[j]? = some x ∧ q x = true ∧ ∀ k < j, ∀ y, l[k]? = some y → q y = false
  | [], i, hi => .inl ⟨rfl, by simp⟩
  | x :: l, i, hi => by
    rw [idxS]
    cases hq : q x with
    | true => exact .inr ⟨0, x, by simp, rfl, hq, by intro k hk; omega⟩
    | false =>
      simp only [Bool.false_eq_true, if_false]
      rcases idxS_spec q l (i + 1) (by omega) with ⟨h1, h2⟩ | ⟨j, y, h1, h2, h3, h4⟩
      · refine .inl ⟨h1, fun z hz => ?_⟩
        rcases List.mem_cons.1 hz with rfl | hz
        · exact hq
        · exact h2 z hz
      · refine .inr ⟨j + 1, y, by rw [h1]; omega, by simpa using h2, h3, fun k hk z hz => ?_⟩
        cases k with
        | zero => simp at hz; subst hz; exact hq
        | succ k => exact h4 k (by omega) z (by simpa using hz)
theorem sliced_zero {b o h c sz : Nat} : Go.sliced (some ⟨b, o, none⟩) 0 h c sz = .slice (some ⟨b, o, none⟩) h c := by
  unfold Go.sliced
  simp [Addr.add]
theorem sliced_at {b o l h c sz : Nat} (hne : c ≠ l) : Go.sliced (some ⟨b, o, none⟩) l h c sz = .slice (some ⟨b, o + l * sz, none⟩) (h - l) (c - l) := by
  unfold Go.sliced
  rw [if_neg hne, Option.map_some, Addr.add_mid]
section
variable {P : Program} {N : Nat} {ds : List Deferred} {t : Fm} {M : World → Prop} {ty : TypeId} {pos : String} {aft : Array Edge} {d : Nat}
theorem vo_sliceH0 {xt e : TypeId} {x hi : Operand} {b o n c sz : Nat} {k' : IntKind} {h : Int} (hx : ev t x = some (.slice (some ⟨b, o, none⟩) n c)) (hhi : ev t hi = some (.int k' h)) (hu : P.underlying xt = some (.slice e)) (hz : (P.info? e).map (·.size) = some sz)
    (h0 : 0 ≤ h) (h2 : h ≤ c) : ValOf P N ds t M ⟨some d, .slice xt x none (some hi) none, ty, pos, aft, none⟩ (.slice (some ⟨b, o, none⟩) h.toNat c) := by
  have := vo_sliceH (P := P) (N := N) (ds := ds) (M := M) (ty := ty) (pos := pos) (aft := aft) (d := d) hx hhi hu hz h0 h2
  rwa [sliced_zero] at this
theorem vo_sliceLHat {xt e : TypeId} {x lo hi : Operand} {b o n c sz : Nat} {k k' : IntKind} {l h : Int} (hx : ev t x = some (.slice (some ⟨b, o, none⟩) n c)) (hlo : ev t lo = some (.int k l)) (hhi : ev t hi = some (.int k' h)) (hu : P.underlying xt = some (.slice e)) (hz : (P.info? e).map (·.size) = some sz)
    (h0 : 0 ≤ l) (h1 : l ≤ h) (h2 : h ≤ c) (hne : c ≠ l.toNat) : ValOf P N ds t M ⟨some d, .slice xt x (some lo) (some hi) none, ty, pos, aft, none⟩ (.slice (some ⟨b, o + l.toNat * sz, none⟩) (h.toNat - l.toNat) (c - l.toNat)) := by
  have := vo_sliceLH (P := P) (N := N) (ds := ds) (M := M) (ty := ty) (pos := pos) (aft := aft) (d := d) hx hlo hhi hu hz h0 h1 h2
  rwa [sliced_at hne] at this
end
theorem del_take {cur : Array Value} {n i : Nat} {z : Value} {xs : List Value} (hn : n ≤ cur.size) (hx : cur.toList.take n = xs) (hi : i < n) :
    (setSeg (setSeg cur (0 + i) (xs.drop (i + 1))) (n - 1) (List.replicate 1 z)).toList.take (n - 1) = xs.eraseIdx i := by
  have hxl : xs.length = n := by rw [← hx]; simp; omega
  have hget : ∀ j, j < n → cur[j]? = xs[j]? := fun j hj => by
    rw [← hx, List.getElem?_take, if_pos hj, Array.getElem?_toList]
  apply List.ext_getElem?
  intro j
  rw [List.getElem?_take]
  by_cases hj : j < n - 1
  · rw [if_pos hj, Array.getElem?_toList, setSeg_get, if_neg (by omega), setSeg_get, List.getElem?_eraseIdx]
    by_cases hji : j < i
    · rw [if_neg (by omega), if_pos hji, hget j (by omega)]
    · rw [if_pos (by simp; omega), if_neg hji, List.getElem?_drop]
      congr 1; omega
  · rw [if_neg hj, List.getElem?_eq_none (by rw [List.length_eraseIdx]; split <;> omega)]
end Go.Eng

set_option linter.unusedVariables false
set_option linter.unusedSimpArgs false
namespace Go.Eng
open Go Go.RowKit Go.Proofs
theorem ap9 : (Try.prog.info? 9).map (fun i => (i.zero, i.size, i.bytes)) = some (some (.string ⟨#[]⟩), 1, 16) := by kernel_rfl
theorem en37 : Enters Try.prog 37 := ⟨_, Try.func37, by kernel_rfl, by kernel_rfl⟩
theorem sz9 : (Try.prog.info? 9).map (·.size) = some 1 := by kernel_rfl
theorem zr9 : (Try.prog.info? 9).bind (·.zero) = some (.string ⟨#[]⟩) := by kernel_rfl

set_option maxRecDepth 8000 in
set_option maxHeartbeats 1000000 in
theorem index_spec (ks : List ByteArray) (v : Value) (g : FuncId) (heg : Enters Try.prog g) (ca : Array Value) (q : ByteArray → Bool) (hl : ks.length ≤ 1000000) (w : World) (hr : RVals (fun b => b < w.heap.size) w (strsC ks) v) (hY : ∀ k ∈ ks, ∀ w1, Ext (fun b => b < w.heap.size) w (fun b => b < w1.heap.size) w1 → SCalls Try.prog g (#[.string k] ++ ca) w1 (fun u => u = .bool (q k))) : SCalls Try.prog 35 #[v, .func (.func g) #[] ca] w (fun u => u = .int .i64 (idxS q ks 0)) := by
  obtain ⟨A, c, rfl, hn⟩ := hr.slice
  have hlen := strsC_length ks
  refine enter (N := 19) Try.func35 rfl Try.ntmps35 (Nat.le_of_ble_eq_true rfl) [(0, .slice A (strsC ks).length c), (1, .func (.func g) #[] ca)] (by repeat (first | exact trivial | refine ⟨rfl, ?_⟩)) (Mem.start w (fun _ => False) (fun b => b < w.heap.size) (fun _ h => h)) ?_
  refine JC_seq ?_
  refine JC_region ?_
  refine JL_v (vo_assign rfl) nofun (by decide) ?_
  refine JL_nil ?_
  refine JX_then ?_
  refine JC_seq ?_
  refine JC_seq ?_
  refine JC_region ?_
  refine JL_v (vo_move rfl) nofun (by decide) ?_
  refine JL_v (vo_len rfl Try.underlying94) nofun (by decide) ?_
  refine JL_v (vo_move rfl) nofun (by decide) ?_
  refine JL_nil ?_
  refine JX_then ?_
  refine JC_block ?_
  refine JC_loop (α := { i : Nat // i ≤ ks.length ∧ idxS q (ks.drop i) i = idxS q ks 0 }) (fun i => [(0, .slice A (strsC ks).length c), (1, .func (.func g) #[] ca), (7, .int .i64 (strsC ks).length), (8, .int .i64 i.1)]) (fun i => Mem w (fun _ => False) (fun b => b < w.heap.size) (fun b => b < w.heap.size) w  []) (fun i => ks.length - i.1) ⟨0, by omega, by simp⟩ (by repeat (first | exact trivial | refine ⟨rfl, ?_⟩ | refine ⟨trivial, ?_⟩)) (fun w hw => hw) ?_
  rintro ⟨i, hile, hinv⟩
  dsimp only
  refine JC_seq ?_
  refine JC_region ?_
  refine JL_v (vo_cmp rfl rfl rfl) nofun (by decide) ?_
  refine JL_nil ?_
  refine JX_then ?_
  refine JC_seq ?_
  refine JC_cond _ rfl (fun hc9 => ?_) (fun hc9 => ?_)
  · have hil : i < ks.length := by simp at hc9; omega
    obtain ⟨k, hk⟩ : ∃ k, ks[i]? = some k := ⟨_, List.getElem?_eq_getElem hil⟩
    obtain ⟨b1, o1, c1, cs1, te1, fr1, hv1, hfb1, hcell⟩ := hr.at_ (strsC_get hk)
    cases hv1
    have hd := drop_of_get hk
    refine JC_skip ?_
    refine JX_then ?_
    refine JC_seq ?_
    refine JC_block ?_
    refine JC_seq ?_
    refine JC_region ?_
    refine JL_v (vo_move rfl) nofun (by decide) ?_
    refine JL_v (vo_assign rfl) nofun (by decide) ?_
    refine JL_nil ?_
    refine JX_then ?_
    refine JC_seq ?_
    refine JC_region ?_
    refine JL_v (vo_move rfl) nofun (by decide) ?_
    refine JL_v (vo_move rfl) nofun (by decide) ?_
    refine JL_v (vo_move rfl) nofun (by decide) ?_
    refine JL_v (vo_indexAddr rfl rfl Try.underlying94 sz9 (by omega) (by omega)) nofun (by decide) ?_
    refine JL_v (vo_load rfl (by first | exact .frz ‹_› | exact .own (by repeat (first | exact .head _ | refine .tail _ ?_))) (by first | exact .cell Try.underlying9 rfl rfl | exact .cell Try.underlying9 rfl (by simpa using hcell))) nofun (by decide) ?_
    refine st_scallF rfl rfl heg (by decide) (fun w1 hw => hY k (List.mem_of_getElem? hk) w1 hw.ext_all) ?_
    rintro _ rfl
    refine JL_nil ?_
    refine JX_then ?_
    refine JC_cond _ rfl (fun hc16 => ?_) (fun hc16 => ?_)
    · refine JC_seq ?_
      refine JC_region ?_
      refine JL_v (vo_move rfl) nofun (by decide) ?_
      refine JL_v (vo_assign rfl) nofun (by decide) ?_
      refine JL_nil ?_
      refine JX_then ?_
      refine JC_ret ?_
      refine JX_block_ret ?_
      refine JX_then_ret ?_
      refine JX_thenK_ret ?_
      refine JX_block_ret ?_
      refine JX_then_ret ?_
      refine ret1 rfl rfl ?_
      intro w1 hM
      refine SC_end hM ?_
      rw [← hinv, hd, idxS, hc16]; rfl
    · refine JC_skip ?_
      refine JX_block ?_
      refine JX_then ?_
      refine JC_region ?_
      refine JL_v (vo_add rfl rfl (by omega) (by omega)) nofun (by decide) ?_
      refine JL_v (vo_move rfl) nofun (by decide) ?_
      refine JL_nil ?_
      refine JX_loop ⟨i + 1, hil, ?_⟩ (by show ks.length - (i + 1) < ks.length - i; omega) (by repeat (first | exact trivial | refine ⟨rfl, ?_⟩ | refine ⟨trivial, ?_⟩)) (fun w hw => hw)
      rw [← hinv, hd, idxS, hc16]; simp
  · refine JC_exit ?_
    refine JX_then_exit ?_
    refine JX_thenK_exit ?_
    refine JX_block_exit ?_
    refine JX_then ?_
    refine JC_seq ?_
    refine JC_region ?_
    refine JL_v (vo_assign rfl) nofun (by decide) ?_
    refine JL_nil ?_
    refine JX_then ?_
    refine JC_ret ?_
    refine ret1 rfl rfl ?_
    intro w1 hM
    refine SC_end hM ?_
    have hi : i = ks.length := by simp at hc9; omega
    rw [← hinv, hi, List.drop_length]; rfl
set_option maxRecDepth 8000 in
set_option maxHeartbeats 1000000 in
theorem sameLast_spec (p : ByteArray) (c : Chg) (b : Nat) (w : World) (hp : p.size ≤ 1000000000000) (hcp : c.path.size ≤ 1000000000000) (hfb : FB (fun b => b < w.heap.size) w b (.cells (chC c).toArray 53 (0, 0))) : SCalls Try.prog 36 #[.string p, .pointer (some ⟨b, 0, none⟩)] w (fun u => u = .bool (beq (lastP p) (lastP c.path))) := by
  refine enter (N := 10) Try.func36 rfl Try.ntmps36 (Nat.le_of_ble_eq_true rfl) [(0, .string p), (1, .pointer (some ⟨b, 0, none⟩))] (by repeat (first | exact trivial | refine ⟨rfl, ?_⟩)) (Mem.start w (fun _ => False) (fun b => b < w.heap.size) (fun _ h => h)) ?_
  refine JC_seq ?_
  refine JC_region ?_
  refine JL_v (vo_assign rfl) nofun (by decide) ?_
  refine JL_nil ?_
  refine JX_then ?_
  refine JC_seq ?_
  refine JC_drawM 7 (by kernel_rfl) (fun w hw => Mem.drew hw) ?_
  refine JR_v (i := 0) rfl (by kernel_rfl) (by kernel_rfl) rfl (by kernel_rfl) (by kernel_rfl) (panic_Then panic_body) (by decide) (vo_move rfl) (fun w hw => hw) ?_
  refine JR_v (i := 2) rfl (by kernel_rfl) (by kernel_rfl) rfl (by kernel_rfl) (by kernel_rfl) (panic_Then panic_body) (by decide) (vo_fieldAddr rfl fo53_0) (fun w hw => hw) ?_
  refine JR_v (i := 3) rfl (by kernel_rfl) (by kernel_rfl) rfl (by kernel_rfl) (by kernel_rfl) (panic_Then panic_body) (by decide) (vo_load rfl (by first | exact .frz ‹_› | exact .own (by repeat (first | exact .head _ | refine .tail _ ?_))) (by first | exact .cell Try.underlying9 rfl rfl | exact pc_path (SegAt.self _))) (fun w hw => hw) ?_
  refine JR_split [1] (by kernel_rfl) rfl (all1 ?_)
  refine JK_scall rfl trivial rfl en37 (by decide) (fun w hw => dlast_spec p w hp) (fun w hw => hw) ?_
  rintro _ rfl
  refine JR_split [4] (by kernel_rfl) rfl (all1 ?_)
  refine JK_scall rfl trivial rfl en37 (by decide) (fun w hw => dlast_spec _ w hcp) (fun w hw => hw) ?_
  rintro _ rfl
  refine JR_v (i := 5) rfl (by kernel_rfl) (by kernel_rfl) rfl (by kernel_rfl) (by kernel_rfl) (panic_Then panic_body) (by decide) (vo_scmp rfl rfl rfl) (fun w hw => hw) ?_
  refine JR_v (i := 6) rfl (by kernel_rfl) (by kernel_rfl) rfl (by kernel_rfl) (by kernel_rfl) (panic_Then panic_body) (by decide) (vo_assign rfl) (fun w hw => hw) ?_
  refine JR_done (by kernel_rfl) ?_
  refine JX_then ?_
  refine JC_ret ?_
  refine ret1 rfl rfl ?_
  intro w1 hM; exact SC_end hM rfl
set_option maxRecDepth 8000 in
set_option maxHeartbeats 1000000 in
theorem delete_spec (g cap n i : Nat) (xs : List Value) (h1 : ∀ u ∈ xs, u.oneCell' = true) (hi : i < n) (hn9 : n ≤ 1000000) (w : World) (hL : Holds [.row (.slice (some ⟨g, 0, none⟩) n cap) 9 1 n xs] w) : MCalls Try.prog 38 #[.slice (some ⟨g, 0, none⟩) n cap, .int .i64 i, .int .i64 ((i : Int) + 1)] w [.row (.slice (some ⟨g, 0, none⟩) n cap) 9 1 n xs] (fun u L' => u = .slice (some ⟨g, 0, none⟩) (n - 1) cap ∧ L' = [.row (.slice (some ⟨g, 0, none⟩) (n - 1) cap) 9 1 (n - 1) (xs.eraseIdx i)]) := by
  obtain ⟨L, hLe⟩ : ∃ L : List Res, L = [.row (.slice (some ⟨g, 0, none⟩) n cap) 9 1 n xs] := ⟨_, rfl⟩
  have hM0 : Mem w (EL L) (ZL L w) (ZL L w) w [.row (.slice (some ⟨g, 0, none⟩) n cap) 9 1 n xs] w := by
    have := Mem.startL (hLe ▸ hL)
    rw [hLe] at this ⊢
    exact this
  rw [← hLe]
  refine enter (N := 33) Try.func38 rfl Try.ntmps38 (Nat.le_of_ble_eq_true rfl) [(0, .slice (some ⟨g, 0, none⟩) n cap), (1, .int .i64 i), (2, .int .i64 ((i : Int) + 1))] (by repeat (first | exact trivial | refine ⟨rfl, ?_⟩)) (hM0) ?_
  refine JC_seq ?_
  refine JC_region ?_
  refine JL_v (vo_assign rfl) nofun (by decide) ?_
  refine JL_nil ?_
  refine JX_then ?_
  refine JC_seq ?_
  refine JC_region ?_
  refine JL_rowBlk (.head _) (fun cur hcs htk hxl hnc hcm => ?_)
  rw [Nat.mul_one] at htk hxl hcs
  have hnew : ∀ u ∈ xs.drop (i + 1), u.oneCell' = true := fun u hu => h1 u (List.mem_of_mem_drop hu)
  have hnl : (xs.drop (i + 1)).length = n - (i + 1) := by simp; omega
  refine JL_v (vo_move rfl) nofun (by decide) ?_
  refine JL_v (vo_move rfl) nofun (by decide) ?_
  refine JL_v (vo_move rfl) nofun (by decide) ?_
  refine JL_v (vo_move rfl) nofun (by decide) ?_
  refine JL_v (vo_len rfl Try.underlying94) nofun (by decide) ?_
  refine JL_v (vo_sliceLHM rfl rfl rfl rfl Try.underlying94 sz9 (by omega) (by omega) (by omega) (by omega)) nofun (by decide) ?_
  refine JL_nil ?_
  refine JX_then ?_
  refine JC_seq ?_
  refine JC_seq ?_
  refine JC_region ?_
  refine JL_v (vo_move rfl) nofun (by decide) ?_
  refine JL_v (vo_move rfl) nofun (by decide) ?_
  refine JL_v (vo_cmp rfl rfl rfl) nofun (by decide) ?_
  refine JL_nil ?_
  refine JX_then ?_
  refine JC_cond _ rfl (fun hc16 => ?_) (fun hc16 => ?_)
  · exfalso; simp at hc16; omega
  · refine JC_skip ?_
    refine JX_then ?_
    refine JC_seq ?_
    refine JC_region ?_
    refine JL_v (vo_move rfl) nofun (by decide) ?_
    refine JL_v (vo_len rfl Try.underlying94) nofun (by decide) ?_
    refine JL_v (vo_assign rfl) nofun (by decide) ?_
    refine JL_nil ?_
    refine JX_then ?_
    refine JC_seq ?_
    refine JC_draw (F := fun _ => True) 8 (by kernel_rfl) (fun w hw => Mem.drew hw) ?_
    refine JR_v (i := 0) rfl (by kernel_rfl) (by kernel_rfl) rfl (by kernel_rfl) (by kernel_rfl) (panic_Then panic_body) (by decide) (vo_move rfl) (fun w hw => trivial) ?_
    refine JR_v (i := 1) rfl (by kernel_rfl) (by kernel_rfl) rfl (by kernel_rfl) (by kernel_rfl) (panic_Then panic_body) (by decide) (vo_move rfl) (fun w hw => trivial) ?_
    refine JR_v (i := 2) rfl (by kernel_rfl) (by kernel_rfl) rfl (by kernel_rfl) (by kernel_rfl) (panic_Then panic_body) (by decide) (vo_sliceH0 rfl rfl Try.underlying94 sz9 (by omega) (by omega)) (fun w hw => trivial) ?_
    refine JR_v (i := 3) rfl (by kernel_rfl) (by kernel_rfl) rfl (by kernel_rfl) (by kernel_rfl) (panic_Then panic_body) (by decide) (vo_move rfl) (fun w hw => trivial) ?_
    refine JR_v (i := 4) rfl (by kernel_rfl) (by kernel_rfl) rfl (by kernel_rfl) (by kernel_rfl) (panic_Then panic_body) (by decide) (vo_move rfl) (fun w hw => trivial) ?_
    refine JR_v (i := 5) rfl (by kernel_rfl) (by kernel_rfl) rfl (by kernel_rfl) (by kernel_rfl) (panic_Then panic_body) (by decide) (vo_sliceL (l := (i : Int) + 1) rfl rfl Try.underlying94 sz9 (by omega) (by omega)) (fun w hw => trivial) ?_
    refine JR_split [6] (by kernel_rfl) rfl (all1 ?_)
    have hsrc : ∃ A2 c2, Go.sliced (some ⟨g, 0, none⟩) ((i : Int) + 1).toNat n cap 1 = .slice A2 (n - (i + 1)) c2 ∧ (n - (i + 1) = 0 ∨ A2 = some ⟨g, i + 1, none⟩) := by
      by_cases hci : cap = i + 1
      · exact ⟨_, _, rfl, .inl (by omega)⟩
      · refine ⟨_, _, by rw [show ((i : Int) + 1).toNat = i + 1 by omega, sliced_at hci], .inr (by congr 1; congr 1; omega)⟩
    obtain ⟨A2, c2, hA, hA2⟩ := hsrc
    rw [hA]
    refine JK_op (β := Unit) (fun _ => .slice (some ⟨g, 0, none⟩) (i + (n - (i + 1))) cap) (fun _ => Mem w (EL L) (ZL L w) (ZL L w) w [.blk g (.cells (setSeg cur (0 + i) (xs.drop (i + 1))) 9 (0, 0))]) rfl rfl (by decide) trivial (fun a w ha hw => ?_) (fun _ _ _ => trivial) (fun _ => ?_)
    · obtain ⟨v', w', h3, h4, h5⟩ := do_appendBlk (P := Try.prog) (z := .string ⟨#[]⟩) (bytes := 16) (x := .tmp 22) (y := .tmp 25) (o := 0) (n := (i : Int).toNat) (cap := cap) (m := n - (i + 1)) (A2 := A2) (c2 := c2) (cs := cur) (te := 9) (news := xs.drop (i + 1)) rfl rfl Try.underlying94 ap9 (.head _ _ _) hnl (by
        rcases hA2 with hA2 | hA2
        · exact .inl hA2
        · refine .inr ⟨g, i + 1, cur, 9, (0, 0), hA2, .own (.head _), fun j u hu => ?_⟩
          rw [List.getElem?_drop, ← htk, List.getElem?_take] at hu
          split at hu
          · rw [← Array.getElem?_toList]; exact hu
          · cases hu) hnew (by omega) (by rw [hcs]; omega) a w ha hw
      subst h4
      exact ⟨(), w', h3, h5⟩
    refine JR_v (i := 7) rfl (by kernel_rfl) (by kernel_rfl) rfl (by kernel_rfl) (by kernel_rfl) (panic_Then panic_body) (by decide) (vo_assign rfl) (fun w hw => trivial) ?_
    refine JR_done (by kernel_rfl) ?_
    refine JX_then ?_
    refine JC_seq ?_
    refine JC_region ?_
    refine JL_v (vo_move rfl) nofun (by decide) ?_
    refine JL_v (vo_move rfl) nofun (by decide) ?_
    refine JL_v (vo_len rfl Try.underlying94) nofun (by decide) ?_
    refine JL_v (vo_move rfl) nofun (by decide) ?_
    refine JL_v (vo_sliceLHat rfl rfl rfl Try.underlying94 sz9 (by omega) (by omega) (by omega) (by omega)) nofun (by decide) ?_
    refine st_clear rfl Try.underlying94 zr9 rfl rfl (.head _ _ _) (by omega) (by rw [size_setSeg, hcs]; omega) ?_
    refine JL_nil ?_
    refine JX_then ?_
    refine JC_seq ?_
    refine JC_region ?_
    refine JL_v (vo_move rfl) nofun (by decide) ?_
    refine JL_v (vo_assign rfl) nofun (by decide) ?_
    refine JL_nil ?_
    refine JX_then ?_
    refine JC_ret ?_
    refine ret1 rfl rfl ?_
    intro w1 hM
    have e1 : i + (n - (i + 1)) = n - 1 := by omega
    have hM2 := hM.blkRow (n := n - 1) (cap := cap) (sz := 1) (xs := xs.eraseIdx i) (.head _ _ _) (by rw [size_setSeg, size_setSeg, hcs]; omega) (by
      have := del_take (cur := cur) (n := n) (i := i) (z := .string ⟨#[]⟩) (xs := xs) (by omega) htk (by omega)
      rw [← this]
      simp only [Int.toNat_natCast, e1, Nat.mul_one, Nat.zero_add]
      rw [show n - (n - 1) = 1 by omega]) (by omega) hcm
    rw [e1]
    exact MC_end hM2 ⟨rfl, rfl⟩

end Go.Eng
