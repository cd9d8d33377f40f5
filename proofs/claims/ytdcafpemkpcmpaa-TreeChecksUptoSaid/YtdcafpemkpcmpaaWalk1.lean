/-
  Part of the proofs over this seat: W1 W2 W3. Own work; imports the kit.
-/
import Derived.Test.YtdcafpemkpcmpaaData1
import Derived.Test.YtdcafpemkpcmpaaEng2
set_option linter.unusedVariables false
set_option linter.unusedSimpArgs false
namespace Go.Eng
open Go Go.RowKit Go.Proofs
theorem en120 : Enters Try.prog 120 := ⟨_, Try.func120, by kernel_rfl, by kernel_rfl⟩
theorem fo24_0 : fieldOff Try.prog 24 0 = some 0 := by kernel_rfl
theorem fo24_1 : fieldOff Try.prog 24 1 = some 1 := by kernel_rfl
theorem fo24_2 : fieldOff Try.prog 24 2 = some 2 := by kernel_rfl
theorem fo24_3 : fieldOff Try.prog 24 3 = some 3 := by kernel_rfl
theorem fo26_0 : fieldOff Try.prog 26 0 = some 0 := by kernel_rfl
theorem fo26_1 : fieldOff Try.prog 26 1 = some 1 := by kernel_rfl
theorem bl26 : Try.prog.built 26 [] = some (mrkC ⟨0, 0⟩).toArray := by kernel_rfl
theorem bl27 : Try.prog.built 27 [] = some (mk2C ⟨⟨0, 0⟩, ⟨0, 0⟩⟩).toArray := by kernel_rfl
theorem bl22 : Try.prog.built 22 [] = some (sumC (fun _ => 0)).toArray := by kernel_rfl
theorem pa_val_sum (v : Val) : PartAt Try.prog 22 (valC v).toArray 3 (.agg (sumC v.sum).toArray) := .agg Try.underlying22 rfl sz22 (fun j u h => by
  rw [List.getElem?_toArray]; exact (by rw [Nat.add_comm]; exact h : (valC v)[3 + j]? = some u))
theorem pa_mk2_a (m : Mk2) : PartAt Try.prog 26 (mk2C m).toArray 0 (.agg (mrkC m.a).toArray) := .agg Try.underlying26 rfl sz26 (fun j u h => by
  rw [List.getElem?_toArray, mk2C, Nat.zero_add, List.getElem?_append_left (List.getElem?_eq_some_iff.1 h).1]; exact h)
theorem pa_mk2_b (m : Mk2) : PartAt Try.prog 26 (mk2C m).toArray 2 (.agg (mrkC m.b).toArray) := .agg Try.underlying26 rfl sz26 (fun j u h => by
  rw [List.getElem?_toArray, mk2C, List.getElem?_append_right (by simp [mrkC])]; simpa [mrkC] using h)
def markB (m : Mrk) : Bool := mrkEq m ⟨0, 0⟩ || (decide ((if m.stamp < m.number then m.stamp else m.number) ≥ 1) && decide ((if m.stamp > m.number then m.stamp else m.number) ≤ 72057594037927935))
def possB (v : Val) (m : Mk2) : Int :=
  if v.kind = 1 then (if mk2Eq m ⟨⟨0,0⟩,⟨0,0⟩⟩ && (decide (v.size = 0) && sumEq v.sum (fun _ => 0)) && (decide (0 ≤ v.mode) && decide (v.mode ≤ 8)) then 0 else 41)
  else if v.kind = 2 then (if markB m.a && markB m.b && (decide (0 ≤ v.mode) && decide (v.mode ≤ 8)) && decide (0 ≤ v.size) && decide (v.size ≤ 1099511627775) then 0 else 41)
  else if v.kind = 3 then (if mk2Eq m ⟨⟨0,0⟩,⟨0,0⟩⟩ && decide (v.mode = 0) && decide (1 ≤ v.size) && decide (v.size ≤ 4095) then 0 else 41)
  else 40

set_option maxRecDepth 8000 in
set_option maxHeartbeats 1000000 in
theorem markable_spec (m : Mrk) (w : World)  : SCalls Try.prog 120 #[.agg (mrkC m).toArray] w (fun v => v = .bool (markB m)) := by
  refine enter (N := 22) Try.func120 rfl Try.ntmps120 (Nat.le_of_ble_eq_true rfl) [(0, .agg (mrkC m).toArray)] (by repeat (first | exact trivial | refine ⟨rfl, ?_⟩)) (Mem.start w (fun _ => False) (fun b => b < w.heap.size) (fun _ h => h)) ?_
  refine JC_seq ?_
  refine JC_region ?_
  refine st_box rfl (by decide) (fun b1 => ?_)
  refine JL_v (vo_assign rfl) nofun (by decide) ?_
  refine JL_nil ?_
  refine JX_then ?_
  refine JC_seq ?_
  refine JC_region ?_
  refine JL_v (vo_load rfl (by first | exact .frz ‹_› | exact .own (by repeat (first | exact .head _ | refine .tail _ ?_))) (by first | exact PartAt.whole Try.underlying26 rfl sz26)) nofun (by decide) ?_
  refine JL_v (vo_build rfl (by first | exact bl26)) nofun (by decide) ?_
  refine JL_v (vo_eqS rfl rfl rfl eg26 (eqv26 _ _)) nofun (by decide) ?_
  refine JL_v (vo_move rfl) nofun (by decide) ?_
  refine JL_case 6 rfl (fun hg6 => ?_) (fun hg6 => ?_)
  · refine JL_no rfl rfl (by decide) ?_
    refine JL_no rfl rfl (by decide) ?_
    refine JL_no rfl rfl (by decide) ?_
    refine JL_no rfl rfl (by decide) ?_
    refine JL_no rfl rfl (by decide) ?_
    refine JL_no rfl rfl (by decide) ?_
    refine JL_no rfl rfl (by decide) ?_
    refine JL_nou rfl rfl (by decide) ?_
    refine JL_nou rfl rfl (by decide) ?_
    refine JL_nou rfl rfl (by decide) ?_
    refine JL_nou rfl rfl (by decide) ?_
    refine JL_nou rfl rfl (by decide) ?_
    refine JL_nou rfl rfl (by decide) ?_
    refine JL_no rfl rfl (by decide) ?_
    refine JL_v (vo_pick rfl rfl) nofun (by decide) ?_
    refine JL_v (vo_assign rfl) nofun (by decide) ?_
    refine JL_nil ?_
    refine JX_then ?_
    refine JC_ret ?_
    refine ret1 rfl rfl ?_
    intro w1 hM; refine SC_end hM ?_; congr 1; simp [markB, *]
  · refine JL_yes rfl rfl ?_
    refine JL_v (vo_fieldAddr rfl fo26_0) nofun (by decide) ?_
    refine JL_yes rfl rfl ?_
    refine JL_v (vo_load rfl (by first | exact .frz ‹_› | exact .own (by repeat (first | exact .head _ | refine .tail _ ?_))) (by first | exact .cell Try.underlying3 rfl rfl)) nofun (by decide) ?_
    refine JL_yes rfl rfl ?_
    refine JL_v (vo_fieldAddr rfl fo26_1) nofun (by decide) ?_
    refine JL_yes rfl rfl ?_
    refine JL_v (vo_load rfl (by first | exact .frz ‹_› | exact .own (by repeat (first | exact .head _ | refine .tail _ ?_))) (by first | exact .cell Try.underlying3 rfl rfl)) nofun (by decide) ?_
    refine JL_yes rfl rfl ?_
    refine JL_v (vo_min rfl rfl) nofun (by decide) ?_
    refine JL_yes rfl rfl ?_
    refine JL_v (vo_cmp rfl rfl rfl) nofun (by decide) ?_
    refine JL_yes rfl rfl ?_
    refine JL_v (vo_move rfl) nofun (by decide) ?_
    refine JL_case 13 rfl (fun hg13 => ?_) (fun hg13 => ?_)
    · refine JL_yes rfl rfl ?_
      refine JL_v (vo_fieldAddr rfl fo26_0) nofun (by decide) ?_
      refine JL_yes rfl rfl ?_
      refine JL_v (vo_load rfl (by first | exact .frz ‹_› | exact .own (by repeat (first | exact .head _ | refine .tail _ ?_))) (by first | exact .cell Try.underlying3 rfl rfl)) nofun (by decide) ?_
      refine JL_yes rfl rfl ?_
      refine JL_v (vo_fieldAddr rfl fo26_1) nofun (by decide) ?_
      refine JL_yes rfl rfl ?_
      refine JL_v (vo_load rfl (by first | exact .frz ‹_› | exact .own (by repeat (first | exact .head _ | refine .tail _ ?_))) (by first | exact .cell Try.underlying3 rfl rfl)) nofun (by decide) ?_
      refine JL_yes rfl rfl ?_
      refine JL_v (vo_max rfl rfl) nofun (by decide) ?_
      refine JL_yes rfl rfl ?_
      refine JL_v (vo_cmp rfl rfl rfl) nofun (by decide) ?_
      refine JL_yes rfl rfl ?_
      refine JL_v (vo_pick rfl rfl) nofun (by decide) ?_
      refine JL_v (vo_pick rfl rfl) nofun (by decide) ?_
      refine JL_v (vo_assign rfl) nofun (by decide) ?_
      refine JL_nil ?_
      refine JX_then ?_
      refine JC_ret ?_
      refine ret1 rfl rfl ?_
      intro w1 hM; refine SC_end hM ?_; congr 1; simp [markB, *]
    · refine JL_no rfl rfl (by decide) ?_
      refine JL_no rfl rfl (by decide) ?_
      refine JL_no rfl rfl (by decide) ?_
      refine JL_no rfl rfl (by decide) ?_
      refine JL_no rfl rfl (by decide) ?_
      refine JL_no rfl rfl (by decide) ?_
      refine JL_yes rfl rfl ?_
      refine JL_v (vo_pick rfl rfl) nofun (by decide) ?_
      refine JL_v (vo_pick rfl rfl) nofun (by decide) ?_
      refine JL_v (vo_assign rfl) nofun (by decide) ?_
      refine JL_nil ?_
      refine JX_then ?_
      refine JC_ret ?_
      refine ret1 rfl rfl ?_
      intro w1 hM; refine SC_end hM ?_; congr 1; simp [markB, *]
set_option maxRecDepth 8000 in
set_option maxHeartbeats 1000000 in
theorem possible_spec (v : Val) (m : Mk2) (w : World)  : SCalls Try.prog 90 #[.agg (valC v).toArray, .agg (mk2C m).toArray] w (fun u => u = .int .i64 (possB v m)) := by
  refine enter (N := 82) Try.func90 rfl Try.ntmps90 (Nat.le_of_ble_eq_true rfl) [(0, .agg (valC v).toArray), (1, .agg (mk2C m).toArray)] (by repeat (first | exact trivial | refine ⟨rfl, ?_⟩)) (Mem.start w (fun _ => False) (fun b => b < w.heap.size) (fun _ h => h)) ?_
  refine JC_seq ?_
  refine JC_region ?_
  refine st_box rfl (by decide) (fun b2 => ?_)
  refine st_box rfl (by decide) (fun b3 => ?_)
  refine JL_v (vo_assign rfl) nofun (by decide) ?_
  refine JL_nil ?_
  refine JX_then ?_
  refine JC_seq ?_
  refine JC_joinB 5 (decide (v.size = 0) && sumEq v.sum (fun _ => 0)) ?_ ?_
  · refine JC_region ?_
    refine JL_v (vo_fieldAddr rfl fo24_2) nofun (by decide) ?_
    refine JL_v (vo_load rfl (by first | exact .frz ‹_› | exact .own (by repeat (first | exact .head _ | refine .tail _ ?_))) (by first | exact .cell Try.underlying3 rfl rfl | exact pa_val_sum _ | exact pa_mk2_a _ | exact pa_mk2_b _ )) nofun (by decide) ?_
    refine JL_v (vo_cmp rfl rfl rfl) nofun (by decide) ?_
    refine JL_v (vo_move rfl) nofun (by decide) ?_
    refine JL_case 11 rfl (fun hg11 => ?_) (fun hg11 => ?_)
    · refine JL_yes rfl rfl ?_
      refine JL_v (vo_fieldAddr rfl fo24_3) nofun (by decide) ?_
      refine JL_yes rfl rfl ?_
      refine JL_v (vo_load rfl (by first | exact .frz ‹_› | exact .own (by repeat (first | exact .head _ | refine .tail _ ?_))) (by first | exact PartAt.whole Try.underlying22 rfl sz22 | exact pa_val_sum _ | exact pa_mk2_a _ | exact pa_mk2_b _ )) nofun (by decide) ?_
      refine JL_yes rfl rfl ?_
      refine JL_v (vo_build rfl (by first | exact bl22)) nofun (by decide) ?_
      refine JL_yes rfl rfl ?_
      refine JL_v (vo_eqS rfl rfl rfl eg22 (eqv22 _ _)) nofun (by decide) ?_
      refine JL_v (vo_pick rfl rfl) nofun (by decide) ?_
      refine JL_v (vo_assign rfl) nofun (by decide) ?_
      refine JL_nil ?_
      refine JX_joinB _ ⟨rfl, (by repeat (first | exact trivial | refine ⟨rfl, ?_⟩ | refine ⟨trivial, ?_⟩))⟩ ?_
      simp_all <;> first | omega | grind
    · refine JL_no rfl rfl (by decide) ?_
      refine JL_no rfl rfl (by decide) ?_
      refine JL_no rfl rfl (by decide) ?_
      refine JL_no rfl rfl (by decide) ?_
      refine JL_v (vo_pick rfl rfl) nofun (by decide) ?_
      refine JL_v (vo_assign rfl) nofun (by decide) ?_
      refine JL_nil ?_
      refine JX_joinB _ ⟨rfl, (by repeat (first | exact trivial | refine ⟨rfl, ?_⟩ | refine ⟨trivial, ?_⟩))⟩ ?_
      simp_all <;> first | omega | grind
  · refine JX_then ?_
    refine JC_seq ?_
    refine JC_joinB 6 (decide (0 ≤ v.mode) && decide (v.mode ≤ 8)) ?_ ?_
    · refine JC_region ?_
      refine JL_v (vo_fieldAddr rfl fo24_1) nofun (by decide) ?_
      refine JL_v (vo_load rfl (by first | exact .frz ‹_› | exact .own (by repeat (first | exact .head _ | refine .tail _ ?_))) (by first | exact .cell Try.underlying3 rfl rfl | exact pa_val_sum _ | exact pa_mk2_a _ | exact pa_mk2_b _ )) nofun (by decide) ?_
      refine JL_v (vo_cmp rfl rfl rfl) nofun (by decide) ?_
      refine JL_v (vo_move rfl) nofun (by decide) ?_
      refine JL_case 20 rfl (fun hg20 => ?_) (fun hg20 => ?_)
      · refine JL_yes rfl rfl ?_
        refine JL_v (vo_fieldAddr rfl fo24_1) nofun (by decide) ?_
        refine JL_yes rfl rfl ?_
        refine JL_v (vo_load rfl (by first | exact .frz ‹_› | exact .own (by repeat (first | exact .head _ | refine .tail _ ?_))) (by first | exact .cell Try.underlying3 rfl rfl | exact pa_val_sum _ | exact pa_mk2_a _ | exact pa_mk2_b _ )) nofun (by decide) ?_
        refine JL_yes rfl rfl ?_
        refine JL_v (vo_cmp rfl rfl rfl) nofun (by decide) ?_
        refine JL_v (vo_pick rfl rfl) nofun (by decide) ?_
        refine JL_v (vo_assign rfl) nofun (by decide) ?_
        refine JL_nil ?_
        refine JX_joinB _ ⟨rfl, (by repeat (first | exact trivial | refine ⟨rfl, ?_⟩ | refine ⟨trivial, ?_⟩))⟩ ?_
        simp_all <;> first | omega | grind
      · refine JL_no rfl rfl (by decide) ?_
        refine JL_no rfl rfl (by decide) ?_
        refine JL_no rfl rfl (by decide) ?_
        refine JL_v (vo_pick rfl rfl) nofun (by decide) ?_
        refine JL_v (vo_assign rfl) nofun (by decide) ?_
        refine JL_nil ?_
        refine JX_joinB _ ⟨rfl, (by repeat (first | exact trivial | refine ⟨rfl, ?_⟩ | refine ⟨trivial, ?_⟩))⟩ ?_
        simp_all <;> first | omega | grind
    · refine JX_then ?_
      refine JC_seq ?_
      refine JC_region ?_
      refine JL_v (vo_load rfl (by first | exact .frz ‹_› | exact .own (by repeat (first | exact .head _ | refine .tail _ ?_))) (by first | exact PartAt.whole Try.underlying27 rfl sz27 | exact pa_val_sum _ | exact pa_mk2_a _ | exact pa_mk2_b _ )) nofun (by decide) ?_
      refine JL_v (vo_build rfl (by first | exact bl27)) nofun (by decide) ?_
      refine JL_v (vo_eqS rfl rfl rfl eg27 (eqv27 _ _)) nofun (by decide) ?_
      refine JL_v (vo_assign rfl) nofun (by decide) ?_
      refine JL_nil ?_
      refine JX_then ?_
      refine JC_seq ?_
      refine JC_seq ?_
      refine JC_region ?_
      refine JL_v (vo_fieldAddr rfl fo24_0) nofun (by decide) ?_
      refine JL_v (vo_load rfl (by first | exact .frz ‹_› | exact .own (by repeat (first | exact .head _ | refine .tail _ ?_))) (by first | exact .cell Try.underlying3 rfl rfl | exact pa_val_sum _ | exact pa_mk2_a _ | exact pa_mk2_b _ )) nofun (by decide) ?_
      refine JL_nil ?_
      refine JX_then ?_
      refine JC_block ?_
      refine JC_seq ?_
      refine JC_region ?_
      refine JL_v (vo_cmp rfl rfl rfl) nofun (by decide) ?_
      refine JL_v (vo_assign rfl) nofun (by decide) ?_
      refine JL_nil ?_
      refine JX_then ?_
      refine JC_cond _ rfl (fun hc30 => ?_) (fun hc30 => ?_)
      · refine JC_joinB 7 (mk2Eq m ⟨⟨0,0⟩,⟨0,0⟩⟩ && (decide (v.size = 0) && sumEq v.sum (fun _ => 0)) && (decide (0 ≤ v.mode) && decide (v.mode ≤ 8))) ?_ ?_
        · refine JC_region ?_
          refine JL_v (vo_move rfl) nofun (by decide) ?_
          refine JL_v (vo_move rfl) nofun (by decide) ?_
          refine JL_case 33 rfl (fun hg33 => ?_) (fun hg33 => ?_)
          · refine JL_yes rfl rfl ?_
            refine JL_v (vo_move rfl) nofun (by decide) ?_
            refine JL_v (vo_pick rfl rfl) nofun (by decide) ?_
            refine JL_v (vo_move rfl) nofun (by decide) ?_
            refine JL_case 36 rfl (fun hg36 => ?_) (fun hg36 => ?_)
            · refine JL_yes rfl rfl ?_
              refine JL_v (vo_move rfl) nofun (by decide) ?_
              refine JL_v (vo_pick rfl rfl) nofun (by decide) ?_
              refine JL_v (vo_assign rfl) nofun (by decide) ?_
              refine JL_nil ?_
              refine JX_joinB _ ⟨rfl, (by repeat (first | exact trivial | refine ⟨rfl, ?_⟩ | refine ⟨trivial, ?_⟩))⟩ ?_
              simp_all <;> first | omega | grind
            · refine JL_no rfl rfl (by decide) ?_
              refine JL_v (vo_pick rfl rfl) nofun (by decide) ?_
              refine JL_v (vo_assign rfl) nofun (by decide) ?_
              refine JL_nil ?_
              refine JX_joinB _ ⟨rfl, (by repeat (first | exact trivial | refine ⟨rfl, ?_⟩ | refine ⟨trivial, ?_⟩))⟩ ?_
              simp_all <;> first | omega | grind
          · refine JL_no rfl rfl (by decide) ?_
            refine JL_v (vo_pick rfl rfl) nofun (by decide) ?_
            refine JL_v (vo_move rfl) nofun (by decide) ?_
            refine JL_no rfl rfl (by decide) ?_
            refine JL_v (vo_pick rfl rfl) nofun (by decide) ?_
            refine JL_v (vo_assign rfl) nofun (by decide) ?_
            refine JL_nil ?_
            refine JX_joinB _ ⟨rfl, (by repeat (first | exact trivial | refine ⟨rfl, ?_⟩ | refine ⟨trivial, ?_⟩))⟩ ?_
            simp_all <;> first | omega | grind
        · refine JX_block ?_
          refine JX_then ?_
          refine JC_seq ?_
          refine JC_seq ?_
          refine JC_region ?_
          refine JL_v (vo_move rfl) nofun (by decide) ?_
          refine JL_v (vo_not rfl) nofun (by decide) ?_
          refine JL_nil ?_
          refine JX_then ?_
          refine JC_cond _ rfl (fun hc81 => ?_) (fun hc81 => ?_)
          · refine JC_seq ?_
            refine JC_region ?_
            refine JL_v (vo_assign rfl) nofun (by decide) ?_
            refine JL_nil ?_
            refine JX_then ?_
            refine JC_ret ?_
            refine JX_then_ret ?_
            refine ret1 rfl rfl ?_
            intro w1 hM; refine SC_end hM ?_; congr 1; simp_all [possB] <;> grind
          · refine JC_skip ?_
            refine JX_then ?_
            refine JC_seq ?_
            refine JC_region ?_
            refine JL_v (vo_assign rfl) nofun (by decide) ?_
            refine JL_nil ?_
            refine JX_then ?_
            refine JC_ret ?_
            refine ret1 rfl rfl ?_
            intro w1 hM; refine SC_end hM ?_; congr 1; simp_all [possB] <;> grind
      · refine JC_seq ?_
        refine JC_region ?_
        refine JL_v (vo_cmp rfl rfl rfl) nofun (by decide) ?_
        refine JL_v (vo_assign rfl) nofun (by decide) ?_
        refine JL_nil ?_
        refine JX_then ?_
        refine JC_cond _ rfl (fun hc39 => ?_) (fun hc39 => ?_)
        · refine JC_region ?_
          refine JL_v (vo_indexAddrA rfl rfl Try.underlying27 sz26 (by omega) (by omega)) nofun (by decide) ?_
          refine JL_v (vo_load rfl (by first | exact .frz ‹_› | exact .own (by repeat (first | exact .head _ | refine .tail _ ?_))) (by first | exact PartAt.whole Try.underlying26 rfl sz26 | exact pa_val_sum _ | exact pa_mk2_a _ | exact pa_mk2_b _ )) nofun (by decide) ?_
          refine st_scall rfl en120 (by decide) (fun w hw => markable_spec _ w) ?_
          rintro _ rfl
          refine JL_v (vo_move rfl) nofun (by decide) ?_
          refine JL_case 44 rfl (fun hg44 => ?_) (fun hg44 => ?_)
          · refine JL_yes rfl rfl ?_
            refine JL_v (vo_indexAddrA rfl rfl Try.underlying27 sz26 (by omega) (by omega)) nofun (by decide) ?_
            refine JL_yes rfl rfl ?_
            refine JL_v (vo_load rfl (by first | exact .frz ‹_› | exact .own (by repeat (first | exact .head _ | refine .tail _ ?_))) (by first | exact PartAt.whole Try.underlying26 rfl sz26 | exact pa_val_sum _ | exact pa_mk2_a _ | exact pa_mk2_b _ )) nofun (by decide) ?_
            refine JL_yes rfl rfl ?_
            refine st_scall rfl en120 (by decide) (fun w hw => markable_spec _ w) ?_
            rintro _ rfl
            refine JL_v (vo_pick rfl rfl) nofun (by decide) ?_
            refine JL_v (vo_move rfl) nofun (by decide) ?_
            refine JL_case 49 rfl (fun hg49 => ?_) (fun hg49 => ?_)
            · refine JL_yes rfl rfl ?_
              refine JL_v (vo_move rfl) nofun (by decide) ?_
              refine JL_v (vo_pick rfl rfl) nofun (by decide) ?_
              refine JL_v (vo_move rfl) nofun (by decide) ?_
              refine JL_case 52 rfl (fun hg52 => ?_) (fun hg52 => ?_)
              · refine JL_yes rfl rfl ?_
                refine JL_v (vo_fieldAddr rfl fo24_2) nofun (by decide) ?_
                refine JL_yes rfl rfl ?_
                refine JL_v (vo_load rfl (by first | exact .frz ‹_› | exact .own (by repeat (first | exact .head _ | refine .tail _ ?_))) (by first | exact .cell Try.underlying3 rfl rfl | exact pa_val_sum _ | exact pa_mk2_a _ | exact pa_mk2_b _ )) nofun (by decide) ?_
                refine JL_yes rfl rfl ?_
                refine JL_v (vo_cmp rfl rfl rfl) nofun (by decide) ?_
                refine JL_v (vo_pick rfl rfl) nofun (by decide) ?_
                refine JL_v (vo_move rfl) nofun (by decide) ?_
                refine JL_case 57 rfl (fun hg57 => ?_) (fun hg57 => ?_)
                · refine JL_yes rfl rfl ?_
                  refine JL_v (vo_fieldAddr rfl fo24_2) nofun (by decide) ?_
                  refine JL_yes rfl rfl ?_
                  refine JL_v (vo_load rfl (by first | exact .frz ‹_› | exact .own (by repeat (first | exact .head _ | refine .tail _ ?_))) (by first | exact .cell Try.underlying3 rfl rfl | exact pa_val_sum _ | exact pa_mk2_a _ | exact pa_mk2_b _ )) nofun (by decide) ?_
                  refine JL_yes rfl rfl ?_
                  refine JL_v (vo_cmp rfl rfl rfl) nofun (by decide) ?_
                  refine JL_v (vo_pick rfl rfl) nofun (by decide) ?_
                  refine JL_v (vo_assign rfl) nofun (by decide) ?_
                  refine JL_nil ?_
                  refine JX_block ?_
                  refine JX_then ?_
                  refine JC_seq ?_
                  refine JC_seq ?_
                  refine JC_region ?_
                  refine JL_v (vo_move rfl) nofun (by decide) ?_
                  refine JL_v (vo_not rfl) nofun (by decide) ?_
                  refine JL_nil ?_
                  refine JX_then ?_
                  refine JC_cond _ rfl (fun hc81 => ?_) (fun hc81 => ?_)
                  · refine JC_seq ?_
                    refine JC_region ?_
                    refine JL_v (vo_assign rfl) nofun (by decide) ?_
                    refine JL_nil ?_
                    refine JX_then ?_
                    refine JC_ret ?_
                    refine JX_then_ret ?_
                    refine ret1 rfl rfl ?_
                    intro w1 hM; refine SC_end hM ?_; congr 1; simp_all [possB] <;> grind
                  · refine JC_skip ?_
                    refine JX_then ?_
                    refine JC_seq ?_
                    refine JC_region ?_
                    refine JL_v (vo_assign rfl) nofun (by decide) ?_
                    refine JL_nil ?_
                    refine JX_then ?_
                    refine JC_ret ?_
                    refine ret1 rfl rfl ?_
                    intro w1 hM; refine SC_end hM ?_; congr 1; simp_all [possB] <;> grind
                · refine JL_no rfl rfl (by decide) ?_
                  refine JL_no rfl rfl (by decide) ?_
                  refine JL_no rfl rfl (by decide) ?_
                  refine JL_v (vo_pick rfl rfl) nofun (by decide) ?_
                  refine JL_v (vo_assign rfl) nofun (by decide) ?_
                  refine JL_nil ?_
                  refine JX_block ?_
                  refine JX_then ?_
                  refine JC_seq ?_
                  refine JC_seq ?_
                  refine JC_region ?_
                  refine JL_v (vo_move rfl) nofun (by decide) ?_
                  refine JL_v (vo_not rfl) nofun (by decide) ?_
                  refine JL_nil ?_
                  refine JX_then ?_
                  refine JC_cond _ rfl (fun hc81 => ?_) (fun hc81 => ?_)
                  · refine JC_seq ?_
                    refine JC_region ?_
                    refine JL_v (vo_assign rfl) nofun (by decide) ?_
                    refine JL_nil ?_
                    refine JX_then ?_
                    refine JC_ret ?_
                    refine JX_then_ret ?_
                    refine ret1 rfl rfl ?_
                    intro w1 hM; refine SC_end hM ?_; congr 1; simp_all [possB] <;> grind
                  · refine JC_skip ?_
                    refine JX_then ?_
                    refine JC_seq ?_
                    refine JC_region ?_
                    refine JL_v (vo_assign rfl) nofun (by decide) ?_
                    refine JL_nil ?_
                    refine JX_then ?_
                    refine JC_ret ?_
                    refine ret1 rfl rfl ?_
                    intro w1 hM; refine SC_end hM ?_; congr 1; simp_all [possB] <;> grind
              · refine JL_no rfl rfl (by decide) ?_
                refine JL_no rfl rfl (by decide) ?_
                refine JL_no rfl rfl (by decide) ?_
                refine JL_v (vo_pick rfl rfl) nofun (by decide) ?_
                refine JL_v (vo_move rfl) nofun (by decide) ?_
                refine JL_no rfl rfl (by decide) ?_
                refine JL_no rfl rfl (by decide) ?_
                refine JL_no rfl rfl (by decide) ?_
                refine JL_v (vo_pick rfl rfl) nofun (by decide) ?_
                refine JL_v (vo_assign rfl) nofun (by decide) ?_
                refine JL_nil ?_
                refine JX_block ?_
                refine JX_then ?_
                refine JC_seq ?_
                refine JC_seq ?_
                refine JC_region ?_
                refine JL_v (vo_move rfl) nofun (by decide) ?_
                refine JL_v (vo_not rfl) nofun (by decide) ?_
                refine JL_nil ?_
                refine JX_then ?_
                refine JC_cond _ rfl (fun hc81 => ?_) (fun hc81 => ?_)
                · refine JC_seq ?_
                  refine JC_region ?_
                  refine JL_v (vo_assign rfl) nofun (by decide) ?_
                  refine JL_nil ?_
                  refine JX_then ?_
                  refine JC_ret ?_
                  refine JX_then_ret ?_
                  refine ret1 rfl rfl ?_
                  intro w1 hM; refine SC_end hM ?_; congr 1; simp_all [possB] <;> grind
                · refine JC_skip ?_
                  refine JX_then ?_
                  refine JC_seq ?_
                  refine JC_region ?_
                  refine JL_v (vo_assign rfl) nofun (by decide) ?_
                  refine JL_nil ?_
                  refine JX_then ?_
                  refine JC_ret ?_
                  refine ret1 rfl rfl ?_
                  intro w1 hM; refine SC_end hM ?_; congr 1; simp_all [possB] <;> grind
            · refine JL_no rfl rfl (by decide) ?_
              refine JL_v (vo_pick rfl rfl) nofun (by decide) ?_
              refine JL_v (vo_move rfl) nofun (by decide) ?_
              refine JL_no rfl rfl (by decide) ?_
              refine JL_no rfl rfl (by decide) ?_
              refine JL_no rfl rfl (by decide) ?_
              refine JL_v (vo_pick rfl rfl) nofun (by decide) ?_
              refine JL_v (vo_move rfl) nofun (by decide) ?_
              refine JL_no rfl rfl (by decide) ?_
              refine JL_no rfl rfl (by decide) ?_
              refine JL_no rfl rfl (by decide) ?_
              refine JL_v (vo_pick rfl rfl) nofun (by decide) ?_
              refine JL_v (vo_assign rfl) nofun (by decide) ?_
              refine JL_nil ?_
              refine JX_block ?_
              refine JX_then ?_
              refine JC_seq ?_
              refine JC_seq ?_
              refine JC_region ?_
              refine JL_v (vo_move rfl) nofun (by decide) ?_
              refine JL_v (vo_not rfl) nofun (by decide) ?_
              refine JL_nil ?_
              refine JX_then ?_
              refine JC_cond _ rfl (fun hc81 => ?_) (fun hc81 => ?_)
              · refine JC_seq ?_
                refine JC_region ?_
                refine JL_v (vo_assign rfl) nofun (by decide) ?_
                refine JL_nil ?_
                refine JX_then ?_
                refine JC_ret ?_
                refine JX_then_ret ?_
                refine ret1 rfl rfl ?_
                intro w1 hM; refine SC_end hM ?_; congr 1; simp_all [possB] <;> grind
              · refine JC_skip ?_
                refine JX_then ?_
                refine JC_seq ?_
                refine JC_region ?_
                refine JL_v (vo_assign rfl) nofun (by decide) ?_
                refine JL_nil ?_
                refine JX_then ?_
                refine JC_ret ?_
                refine ret1 rfl rfl ?_
                intro w1 hM; refine SC_end hM ?_; congr 1; simp_all [possB] <;> grind
          · refine JL_no rfl rfl (by decide) ?_
            refine JL_no rfl rfl (by decide) ?_
            refine JL_no rfl rfl (by decide) ?_
            refine JL_v (vo_pick rfl rfl) nofun (by decide) ?_
            refine JL_v (vo_move rfl) nofun (by decide) ?_
            refine JL_no rfl rfl (by decide) ?_
            refine JL_v (vo_pick rfl rfl) nofun (by decide) ?_
            refine JL_v (vo_move rfl) nofun (by decide) ?_
            refine JL_no rfl rfl (by decide) ?_
            refine JL_no rfl rfl (by decide) ?_
            refine JL_no rfl rfl (by decide) ?_
            refine JL_v (vo_pick rfl rfl) nofun (by decide) ?_
            refine JL_v (vo_move rfl) nofun (by decide) ?_
            refine JL_no rfl rfl (by decide) ?_
            refine JL_no rfl rfl (by decide) ?_
            refine JL_no rfl rfl (by decide) ?_
            refine JL_v (vo_pick rfl rfl) nofun (by decide) ?_
            refine JL_v (vo_assign rfl) nofun (by decide) ?_
            refine JL_nil ?_
            refine JX_block ?_
            refine JX_then ?_
            refine JC_seq ?_
            refine JC_seq ?_
            refine JC_region ?_
            refine JL_v (vo_move rfl) nofun (by decide) ?_
            refine JL_v (vo_not rfl) nofun (by decide) ?_
            refine JL_nil ?_
            refine JX_then ?_
            refine JC_cond _ rfl (fun hc81 => ?_) (fun hc81 => ?_)
            · refine JC_seq ?_
              refine JC_region ?_
              refine JL_v (vo_assign rfl) nofun (by decide) ?_
              refine JL_nil ?_
              refine JX_then ?_
              refine JC_ret ?_
              refine JX_then_ret ?_
              refine ret1 rfl rfl ?_
              intro w1 hM; refine SC_end hM ?_; congr 1; simp_all [possB] <;> grind
            · refine JC_skip ?_
              refine JX_then ?_
              refine JC_seq ?_
              refine JC_region ?_
              refine JL_v (vo_assign rfl) nofun (by decide) ?_
              refine JL_nil ?_
              refine JX_then ?_
              refine JC_ret ?_
              refine ret1 rfl rfl ?_
              intro w1 hM; refine SC_end hM ?_; congr 1; simp_all [possB] <;> grind
        · refine JC_seq ?_
          refine JC_region ?_
          refine JL_v (vo_cmp rfl rfl rfl) nofun (by decide) ?_
          refine JL_v (vo_assign rfl) nofun (by decide) ?_
          refine JL_nil ?_
          refine JX_then ?_
          refine JC_cond _ rfl (fun hc62 => ?_) (fun hc62 => ?_)
          · refine JC_region ?_
            refine JL_v (vo_move rfl) nofun (by decide) ?_
            refine JL_v (vo_move rfl) nofun (by decide) ?_
            refine JL_case 65 rfl (fun hg65 => ?_) (fun hg65 => ?_)
            · refine JL_yes rfl rfl ?_
              refine JL_v (vo_fieldAddr rfl fo24_1) nofun (by decide) ?_
              refine JL_yes rfl rfl ?_
              refine JL_v (vo_load rfl (by first | exact .frz ‹_› | exact .own (by repeat (first | exact .head _ | refine .tail _ ?_))) (by first | exact .cell Try.underlying3 rfl rfl | exact pa_val_sum _ | exact pa_mk2_a _ | exact pa_mk2_b _ )) nofun (by decide) ?_
              refine JL_yes rfl rfl ?_
              refine JL_v (vo_cmp rfl rfl rfl) nofun (by decide) ?_
              refine JL_v (vo_pick rfl rfl) nofun (by decide) ?_
              refine JL_v (vo_move rfl) nofun (by decide) ?_
              refine JL_case 70 rfl (fun hg70 => ?_) (fun hg70 => ?_)
              · refine JL_yes rfl rfl ?_
                refine JL_v (vo_fieldAddr rfl fo24_2) nofun (by decide) ?_
                refine JL_yes rfl rfl ?_
                refine JL_v (vo_load rfl (by first | exact .frz ‹_› | exact .own (by repeat (first | exact .head _ | refine .tail _ ?_))) (by first | exact .cell Try.underlying3 rfl rfl | exact pa_val_sum _ | exact pa_mk2_a _ | exact pa_mk2_b _ )) nofun (by decide) ?_
                refine JL_yes rfl rfl ?_
                refine JL_v (vo_cmp rfl rfl rfl) nofun (by decide) ?_
                refine JL_v (vo_pick rfl rfl) nofun (by decide) ?_
                refine JL_v (vo_move rfl) nofun (by decide) ?_
                refine JL_case 75 rfl (fun hg75 => ?_) (fun hg75 => ?_)
                · refine JL_yes rfl rfl ?_
                  refine JL_v (vo_fieldAddr rfl fo24_2) nofun (by decide) ?_
                  refine JL_yes rfl rfl ?_
                  refine JL_v (vo_load rfl (by first | exact .frz ‹_› | exact .own (by repeat (first | exact .head _ | refine .tail _ ?_))) (by first | exact .cell Try.underlying3 rfl rfl | exact pa_val_sum _ | exact pa_mk2_a _ | exact pa_mk2_b _ )) nofun (by decide) ?_
                  refine JL_yes rfl rfl ?_
                  refine JL_v (vo_cmp rfl rfl rfl) nofun (by decide) ?_
                  refine JL_v (vo_pick rfl rfl) nofun (by decide) ?_
                  refine JL_v (vo_assign rfl) nofun (by decide) ?_
                  refine JL_nil ?_
                  refine JX_block ?_
                  refine JX_then ?_
                  refine JC_seq ?_
                  refine JC_seq ?_
                  refine JC_region ?_
                  refine JL_v (vo_move rfl) nofun (by decide) ?_
                  refine JL_v (vo_not rfl) nofun (by decide) ?_
                  refine JL_nil ?_
                  refine JX_then ?_
                  refine JC_cond _ rfl (fun hc81 => ?_) (fun hc81 => ?_)
                  · refine JC_seq ?_
                    refine JC_region ?_
                    refine JL_v (vo_assign rfl) nofun (by decide) ?_
                    refine JL_nil ?_
                    refine JX_then ?_
                    refine JC_ret ?_
                    refine JX_then_ret ?_
                    refine ret1 rfl rfl ?_
                    intro w1 hM; refine SC_end hM ?_; congr 1; simp_all [possB] <;> grind
                  · refine JC_skip ?_
                    refine JX_then ?_
                    refine JC_seq ?_
                    refine JC_region ?_
                    refine JL_v (vo_assign rfl) nofun (by decide) ?_
                    refine JL_nil ?_
                    refine JX_then ?_
                    refine JC_ret ?_
                    refine ret1 rfl rfl ?_
                    intro w1 hM; refine SC_end hM ?_; congr 1; simp_all [possB] <;> grind
                · refine JL_no rfl rfl (by decide) ?_
                  refine JL_no rfl rfl (by decide) ?_
                  refine JL_no rfl rfl (by decide) ?_
                  refine JL_v (vo_pick rfl rfl) nofun (by decide) ?_
                  refine JL_v (vo_assign rfl) nofun (by decide) ?_
                  refine JL_nil ?_
                  refine JX_block ?_
                  refine JX_then ?_
                  refine JC_seq ?_
                  refine JC_seq ?_
                  refine JC_region ?_
                  refine JL_v (vo_move rfl) nofun (by decide) ?_
                  refine JL_v (vo_not rfl) nofun (by decide) ?_
                  refine JL_nil ?_
                  refine JX_then ?_
                  refine JC_cond _ rfl (fun hc81 => ?_) (fun hc81 => ?_)
                  · refine JC_seq ?_
                    refine JC_region ?_
                    refine JL_v (vo_assign rfl) nofun (by decide) ?_
                    refine JL_nil ?_
                    refine JX_then ?_
                    refine JC_ret ?_
                    refine JX_then_ret ?_
                    refine ret1 rfl rfl ?_
                    intro w1 hM; refine SC_end hM ?_; congr 1; simp_all [possB] <;> grind
                  · refine JC_skip ?_
                    refine JX_then ?_
                    refine JC_seq ?_
                    refine JC_region ?_
                    refine JL_v (vo_assign rfl) nofun (by decide) ?_
                    refine JL_nil ?_
                    refine JX_then ?_
                    refine JC_ret ?_
                    refine ret1 rfl rfl ?_
                    intro w1 hM; refine SC_end hM ?_; congr 1; simp_all [possB] <;> grind
              · refine JL_no rfl rfl (by decide) ?_
                refine JL_no rfl rfl (by decide) ?_
                refine JL_no rfl rfl (by decide) ?_
                refine JL_v (vo_pick rfl rfl) nofun (by decide) ?_
                refine JL_v (vo_move rfl) nofun (by decide) ?_
                refine JL_no rfl rfl (by decide) ?_
                refine JL_no rfl rfl (by decide) ?_
                refine JL_no rfl rfl (by decide) ?_
                refine JL_v (vo_pick rfl rfl) nofun (by decide) ?_
                refine JL_v (vo_assign rfl) nofun (by decide) ?_
                refine JL_nil ?_
                refine JX_block ?_
                refine JX_then ?_
                refine JC_seq ?_
                refine JC_seq ?_
                refine JC_region ?_
                refine JL_v (vo_move rfl) nofun (by decide) ?_
                refine JL_v (vo_not rfl) nofun (by decide) ?_
                refine JL_nil ?_
                refine JX_then ?_
                refine JC_cond _ rfl (fun hc81 => ?_) (fun hc81 => ?_)
                · refine JC_seq ?_
                  refine JC_region ?_
                  refine JL_v (vo_assign rfl) nofun (by decide) ?_
                  refine JL_nil ?_
                  refine JX_then ?_
                  refine JC_ret ?_
                  refine JX_then_ret ?_
                  refine ret1 rfl rfl ?_
                  intro w1 hM; refine SC_end hM ?_; congr 1; simp_all [possB] <;> grind
                · refine JC_skip ?_
                  refine JX_then ?_
                  refine JC_seq ?_
                  refine JC_region ?_
                  refine JL_v (vo_assign rfl) nofun (by decide) ?_
                  refine JL_nil ?_
                  refine JX_then ?_
                  refine JC_ret ?_
                  refine ret1 rfl rfl ?_
                  intro w1 hM; refine SC_end hM ?_; congr 1; simp_all [possB] <;> grind
            · refine JL_no rfl rfl (by decide) ?_
              refine JL_no rfl rfl (by decide) ?_
              refine JL_no rfl rfl (by decide) ?_
              refine JL_v (vo_pick rfl rfl) nofun (by decide) ?_
              refine JL_v (vo_move rfl) nofun (by decide) ?_
              refine JL_no rfl rfl (by decide) ?_
              refine JL_no rfl rfl (by decide) ?_
              refine JL_no rfl rfl (by decide) ?_
              refine JL_v (vo_pick rfl rfl) nofun (by decide) ?_
              refine JL_v (vo_move rfl) nofun (by decide) ?_
              refine JL_no rfl rfl (by decide) ?_
              refine JL_no rfl rfl (by decide) ?_
              refine JL_no rfl rfl (by decide) ?_
              refine JL_v (vo_pick rfl rfl) nofun (by decide) ?_
              refine JL_v (vo_assign rfl) nofun (by decide) ?_
              refine JL_nil ?_
              refine JX_block ?_
              refine JX_then ?_
              refine JC_seq ?_
              refine JC_seq ?_
              refine JC_region ?_
              refine JL_v (vo_move rfl) nofun (by decide) ?_
              refine JL_v (vo_not rfl) nofun (by decide) ?_
              refine JL_nil ?_
              refine JX_then ?_
              refine JC_cond _ rfl (fun hc81 => ?_) (fun hc81 => ?_)
              · refine JC_seq ?_
                refine JC_region ?_
                refine JL_v (vo_assign rfl) nofun (by decide) ?_
                refine JL_nil ?_
                refine JX_then ?_
                refine JC_ret ?_
                refine JX_then_ret ?_
                refine ret1 rfl rfl ?_
                intro w1 hM; refine SC_end hM ?_; congr 1; simp_all [possB] <;> grind
              · refine JC_skip ?_
                refine JX_then ?_
                refine JC_seq ?_
                refine JC_region ?_
                refine JL_v (vo_assign rfl) nofun (by decide) ?_
                refine JL_nil ?_
                refine JX_then ?_
                refine JC_ret ?_
                refine ret1 rfl rfl ?_
                intro w1 hM; refine SC_end hM ?_; congr 1; simp_all [possB] <;> grind
          · refine JC_seq ?_
            refine JC_region ?_
            refine JL_v (vo_assign rfl) nofun (by decide) ?_
            refine JL_nil ?_
            refine JX_then ?_
            refine JC_ret ?_
            refine JX_block_ret ?_
            refine JX_then_ret ?_
            refine ret1 rfl rfl ?_
            intro w1 hM; refine SC_end hM ?_; congr 1; simp_all [possB] <;> grind

end Go.Eng

set_option linter.unusedVariables false
set_option linter.unusedSimpArgs false
namespace Go.Eng
open Go Go.RowKit Go.Proofs
theorem en100 : Enters Try.prog 100 := ⟨_, Try.func100, by kernel_rfl, by kernel_rfl⟩
theorem en121 : Enters Try.prog 121 := ⟨_, Try.func121, by kernel_rfl, by kernel_rfl⟩
theorem en129 : Enters Try.prog 129 := ⟨_, Try.func129, by kernel_rfl, by kernel_rfl⟩
theorem en57 : Enters Try.prog 57 := ⟨_, Try.func57, by kernel_rfl, by kernel_rfl⟩
theorem en58 : Enters Try.prog 58 := ⟨_, Try.func58, by kernel_rfl, by kernel_rfl⟩
theorem fo146_0 : fieldOff Try.prog 146 0 = some 0 := by kernel_rfl
theorem fo30_0 : fieldOff Try.prog 30 0 = some 0 := by kernel_rfl
theorem fo30_3 : fieldOff Try.prog 30 3 = some 40 := by kernel_rfl
theorem sz3 : (Try.prog.info? 3).map (·.size) = some 1 := by kernel_rfl
theorem bl146 (x : Int) : Try.prog.built 146 [(0, .int .i64 x)] = some #[.int .i64 x] := by kernel_rfl
/-- a counter's block -/
def cntO (x : Int) : Obj := .cells #[.int .i64 x] 146 (0, 0)
def CntOK (x : Int) : Prop := -1000000000000000000 ≤ x ∧ x ≤ 1000000000000000000

set_option maxRecDepth 8000 in
set_option maxHeartbeats 1000000 in
theorem many_spec (n : Int) (w : World)  : NCalls Try.prog 56 #[.int .i64 n] w (fun o => o = cntO n) := by
  refine enter (N := 6) Try.func56 rfl Try.ntmps56 (Nat.le_of_ble_eq_true rfl) [(0, .int .i64 n)] (by repeat (first | exact trivial | refine ⟨rfl, ?_⟩)) (Mem.start w (fun _ => False) (fun b => b < w.heap.size) (fun _ h => h)) ?_
  refine JC_seq ?_
  refine JC_region ?_
  refine JL_v (vo_assign rfl) nofun (by decide) ?_
  refine JL_nil ?_
  refine JX_then ?_
  refine JC_seq ?_
  refine JC_region ?_
  refine JL_v (vo_move rfl) nofun (by decide) ?_
  refine JL_v (vo_build rfl (by first | exact bl146 _)) nofun (by decide) ?_
  refine st_box rfl (by decide) (fun b5 => ?_)
  refine JL_v (vo_assign rfl) nofun (by decide) ?_
  refine JL_nil ?_
  refine JX_then ?_
  refine JC_ret ?_
  refine ret1 rfl rfl ?_
  intro w1 hM; exact NC_end hM (.head _) rfl
set_option maxRecDepth 8000 in
set_option maxHeartbeats 1000000 in
theorem ok_spec (b : Nat) (left : Int) (w : World) (hb : w.heap[b]? = some (cntO left)) : WCalls Try.prog 58 #[.pointer (some ⟨b, 0, none⟩)] w b (fun v o => v = .bool (decide (left ≥ 0)) ∧ o = cntO left) := by
  refine enter (N := 8) Try.func58 rfl Try.ntmps58 (Nat.le_of_ble_eq_true rfl) [(0, .pointer (some ⟨b, 0, none⟩))] (by repeat (first | exact trivial | refine ⟨rfl, ?_⟩)) (Mem.startW w b _ hb) ?_
  refine JC_seq ?_
  refine JC_region ?_
  refine JL_v (vo_assign rfl) nofun (by decide) ?_
  refine JL_nil ?_
  refine JX_then ?_
  refine JC_seq ?_
  refine JC_region ?_
  refine JL_v (vo_move rfl) nofun (by decide) ?_
  refine JL_v ((by first | exact vo_nilCheck rfl | exact vo_nilCheckF rfl)) nofun (by decide) ?_
  refine JL_v (vo_fieldAddr rfl fo146_0) nofun (by decide) ?_
  refine JL_v (vo_load rfl (by first | exact .frz ‹_› | exact .own (by repeat (first | exact .head _ | refine .tail _ ?_))) (by first | exact .cell Try.underlying3 rfl rfl)) nofun (by decide) ?_
  refine JL_v (vo_cmp rfl rfl rfl) nofun (by decide) ?_
  refine JL_v (vo_assign rfl) nofun (by decide) ?_
  refine JL_nil ?_
  refine JX_then ?_
  refine JC_ret ?_
  refine ret1 rfl rfl ?_
  intro w1 hM; exact WC_end hM (.head _) ⟨rfl, rfl⟩
set_option maxRecDepth 8000 in
set_option maxHeartbeats 1000000 in
theorem add_spec (b : Nat) (left n : Int) (hl : CntOK left) (hn : 0 ≤ n ∧ n ≤ 100000000000000000) (w : World) (hb : w.heap[b]? = some (cntO left)) : WCalls Try.prog 129 #[.pointer (some ⟨b, 0, none⟩), .int .i64 n] w b (fun v o => ∃ x c, v = .bool c ∧ o = cntO x ∧ CntOK x) := by
  unfold CntOK at hl
  refine enter (N := 24) Try.func129 rfl Try.ntmps129 (Nat.le_of_ble_eq_true rfl) [(0, .pointer (some ⟨b, 0, none⟩)), (1, .int .i64 n)] (by repeat (first | exact trivial | refine ⟨rfl, ?_⟩)) (Mem.startW w b _ hb) ?_
  refine JC_seq ?_
  refine JC_region ?_
  refine JL_v (vo_assign rfl) nofun (by decide) ?_
  refine JL_nil ?_
  refine JX_then ?_
  refine JC_seq ?_
  refine JC_seq ?_
  refine JC_region ?_
  refine JL_v (vo_move rfl) nofun (by decide) ?_
  refine JL_v ((by first | exact vo_nilCheck rfl | exact vo_nilCheckF rfl)) nofun (by decide) ?_
  refine JL_v (vo_fieldAddr rfl fo146_0) nofun (by decide) ?_
  refine JL_v (vo_load rfl (by first | exact .frz ‹_› | exact .own (by repeat (first | exact .head _ | refine .tail _ ?_))) (by first | exact .cell Try.underlying3 rfl rfl)) nofun (by decide) ?_
  refine JL_v (vo_cmp rfl rfl rfl) nofun (by decide) ?_
  refine JL_nil ?_
  refine JX_then ?_
  refine JC_cond _ rfl (fun hc9 => ?_) (fun hc9 => ?_)
  · refine JC_region ?_
    refine JL_v (vo_move rfl) nofun (by decide) ?_
    refine JL_v (vo_move rfl) nofun (by decide) ?_
    refine JL_v ((by first | exact vo_nilCheck rfl | exact vo_nilCheckF rfl)) nofun (by decide) ?_
    refine JL_v (vo_fieldAddr rfl fo146_0) nofun (by decide) ?_
    refine JL_v (vo_load rfl (by first | exact .frz ‹_› | exact .own (by repeat (first | exact .head _ | refine .tail _ ?_))) (by first | exact .cell Try.underlying3 rfl rfl)) nofun (by decide) ?_
    refine JL_v (vo_move rfl) nofun (by decide) ?_
    refine JL_v (vo_sub rfl rfl (by omega) (by omega)) nofun (by decide) ?_
    refine JL_v ((by first | exact vo_nilCheck rfl | exact vo_nilCheckF rfl)) nofun (by decide) ?_
    refine JL_v (vo_fieldAddr rfl fo146_0) nofun (by decide) ?_
    refine st_store rfl rfl sz3 (by first | exact one_of_all rfl | assumption) (by repeat (first | exact .head _ _ _ | apply Turn.tail)) (by exact Nat.le_of_ble_eq_true rfl) (by rfl) ?_
    refine JL_nil ?_
    refine JX_then ?_
    refine JC_seq ?_
    refine JC_region ?_
    refine JL_v (vo_move rfl) nofun (by decide) ?_
    refine JL_v ((by first | exact vo_nilCheck rfl | exact vo_nilCheckF rfl)) nofun (by decide) ?_
    refine JL_v (vo_fieldAddr rfl fo146_0) nofun (by decide) ?_
    refine JL_v (vo_load rfl (by first | exact .frz ‹_› | exact .own (by repeat (first | exact .head _ | refine .tail _ ?_))) (by first | exact .cell Try.underlying3 rfl rfl)) nofun (by decide) ?_
    refine JL_v (vo_cmp rfl rfl rfl) nofun (by decide) ?_
    refine JL_v (vo_assign rfl) nofun (by decide) ?_
    refine JL_nil ?_
    refine JX_then ?_
    refine JC_ret ?_
    refine ret1 rfl rfl ?_
    intro w1 hM; exact WC_end hM (.head _) ⟨_, _, rfl, rfl, by simp at hc9; unfold CntOK; omega⟩
  · refine JC_skip ?_
    refine JX_then ?_
    refine JC_seq ?_
    refine JC_region ?_
    refine JL_v (vo_move rfl) nofun (by decide) ?_
    refine JL_v ((by first | exact vo_nilCheck rfl | exact vo_nilCheckF rfl)) nofun (by decide) ?_
    refine JL_v (vo_fieldAddr rfl fo146_0) nofun (by decide) ?_
    refine JL_v (vo_load rfl (by first | exact .frz ‹_› | exact .own (by repeat (first | exact .head _ | refine .tail _ ?_))) (by first | exact .cell Try.underlying3 rfl rfl)) nofun (by decide) ?_
    refine JL_v (vo_cmp rfl rfl rfl) nofun (by decide) ?_
    refine JL_v (vo_assign rfl) nofun (by decide) ?_
    refine JL_nil ?_
    refine JX_then ?_
    refine JC_ret ?_
    refine ret1 rfl rfl ?_
    intro w1 hM; exact WC_end hM (.head _) ⟨_, _, rfl, rfl, hl⟩
set_option maxRecDepth 8000 in
set_option maxHeartbeats 1000000 in
theorem text_spec (b : Nat) (left : Int) (s : ByteArray) (hl : CntOK left) (hs : s.size ≤ 1048576) (w : World) (hb : w.heap[b]? = some (cntO left)) : WCalls Try.prog 121 #[.pointer (some ⟨b, 0, none⟩), .string s] w b (fun v o => v = .tuple #[] ∧ ∃ x, o = cntO x ∧ CntOK x) := by
  refine enter (N := 10) Try.func121 rfl Try.ntmps121 (Nat.le_of_ble_eq_true rfl) [(0, .pointer (some ⟨b, 0, none⟩)), (1, .string s)] (by repeat (first | exact trivial | refine ⟨rfl, ?_⟩)) (Mem.startW w b _ hb) ?_
  refine JC_seq ?_
  refine JC_region ?_
  refine JL_v (vo_move rfl) nofun (by decide) ?_
  refine st_wcall rfl en129 (by decide) (L' := fun o => .blk b o :: _) (fun o => .head _ _ _) (fun w hw hb => add_spec b _ _ hl (by constructor <;> omega) w hb) ?_
  rintro _ _ ⟨x5, c, rfl, rfl, hx5⟩
  refine JL_nil ?_
  refine JX_then ?_
  refine JC_region ?_
  refine JL_v (vo_move rfl) nofun (by decide) ?_
  refine JL_v (vo_move rfl) nofun (by decide) ?_
  refine JL_v (vo_lenS rfl Try.underlying9) nofun (by decide) ?_
  refine st_wcall rfl en129 (by decide) (L' := fun o => .blk b o :: _) (fun o => .head _ _ _) (fun w hw hb => add_spec b _ _ hx5 (by constructor <;> omega) w hb) ?_
  rintro _ _ ⟨x9, c, rfl, rfl, hx9⟩
  refine JL_nil ?_
  refine end0 rfl (fun w1 hM => WC_end hM (.head _) ⟨rfl, _, rfl, hx9⟩)
set_option maxRecDepth 8000 in
set_option maxHeartbeats 1000000 in
theorem nodes_of (l : List Nd) (hn : ∀ nd ∈ l, ∀ (b : Nat) (left : Int) (k : Value) (w : World), CntOK left → RNds (fun j => j < w.heap.size ∧ j ≠ b) w nd.kids k → w.heap[b]? = some (cntO left) → WCalls Try.prog 100 #[.pointer (some ⟨b, 0, none⟩), .agg (ndC nd k).toArray] w b (fun v o => v = .tuple #[] ∧ ∃ x, o = cntO x ∧ CntOK x)) : ∀ (b : Nat) (left : Int) (k : Value) (w : World), CntOK left → RNds (fun j => j < w.heap.size ∧ j ≠ b) w l k → w.heap[b]? = some (cntO left) → WCalls Try.prog 57 #[.pointer (some ⟨b, 0, none⟩), k] w b (fun v o => v = .tuple #[] ∧ ∃ x, o = cntO x ∧ CntOK x) := by
  intro b left kv w hl hr hb
  obtain ⟨A, c, rfl, hlen⟩ := hr.slice
  refine enter (N := 21) Try.func57 rfl Try.ntmps57 (Nat.le_of_ble_eq_true rfl) [(0, .pointer (some ⟨b, 0, none⟩)), (1, .slice A l.length c)] (by repeat (first | exact trivial | refine ⟨rfl, ?_⟩)) (Mem.startW w b _ hb) ?_
  refine JC_seq ?_
  refine JC_region ?_
  refine JL_v (vo_assign rfl) nofun (by decide) ?_
  refine JL_nil ?_
  refine JX_then ?_
  refine JC_block ?_
  refine JC_loop (α := Nat × {x : Int // CntOK x}) (fun x => [(0, .pointer (some ⟨b, 0, none⟩)), (1, .slice A l.length c), (4, .int .i64 x.1)]) (fun x => Mem w (fun k => k = b) (fun k => k < w.heap.size ∧ k ≠ b) (fun k => k < w.heap.size ∧ k ≠ b) w [.blk b (cntO x.2.1)]) (fun x => l.length - x.1) (0, ⟨left, hl⟩) (by repeat (first | exact trivial | refine ⟨rfl, ?_⟩ | refine ⟨trivial, ?_⟩)) (fun w hw => hw) ?_
  rintro ⟨i, x, hx⟩
  dsimp only
  refine JC_seq ?_
  refine JC_seq ?_
  refine JC_region ?_
  refine JL_v (vo_move rfl) nofun (by decide) ?_
  refine JL_v (vo_move rfl) nofun (by decide) ?_
  refine JL_v (vo_len rfl Try.underlying28) nofun (by decide) ?_
  refine JL_v (vo_cmp rfl rfl rfl) nofun (by decide) ?_
  refine JL_v (vo_move rfl) nofun (by decide) ?_
  refine JL_case 9 rfl (fun hg9 => ?_) (fun hg9 => ?_)
  · refine JL_yes rfl rfl ?_
    refine JL_v (vo_move rfl) nofun (by decide) ?_
    refine JL_yes rfl rfl ?_
    refine st_wcall rfl en58 (by decide) (L' := fun o => .blk b o :: _) (fun o => .head _ _ _) (fun w hw hb => ok_spec b _ w hb) ?_
    rintro _ _ ⟨rfl, rfl⟩
    refine JL_v (vo_pick rfl rfl) nofun (by decide) ?_
    refine JL_nil ?_
    refine JX_then ?_
    refine JC_cond _ rfl (fun hc12 => ?_) (fun hc12 => ?_)
    · refine JC_skip ?_
      refine JX_then ?_
      refine JC_seq ?_
      refine JC_block ?_
      refine JC_region ?_
      obtain ⟨nd, hnd⟩ : ∃ nd, l[i]? = some nd := ⟨_, List.getElem?_eq_getElem (by simp at hg9; omega)⟩
      obtain ⟨b', o', c', cs', te, fr, k, hv, hfb, hseg, hk⟩ := hr.at_ hnd
      cases hv
      have hil : i < l.length := (List.getElem?_eq_some_iff.1 hnd).1
      refine JL_v (vo_move rfl) nofun (by decide) ?_
      refine JL_v (vo_move rfl) nofun (by decide) ?_
      refine JL_v (vo_move rfl) nofun (by decide) ?_
      refine JL_v (vo_indexAddr rfl rfl Try.underlying28 sz30 (by omega) (by omega)) nofun (by decide) ?_
      refine JL_v (vo_load rfl (by first | exact .frz ‹_› | exact .own (by repeat (first | exact .head _ | refine .tail _ ?_))) (by first | exact PartAt.whole Try.underlying30 rfl sz30 | exact pn_all ‹_›)) nofun (by decide) ?_
      refine st_wcall rfl en100 (by decide) (L' := fun o => .blk b o :: _) (fun o => .head _ _ _) (fun w hw hb => hn nd (List.mem_of_getElem? hnd) b _ _ w hx (hk.ext (hw.ext_now (.head _))) hb) ?_
      rintro _ _ ⟨rfl, y, rfl, hy⟩
      refine JL_nil ?_
      refine JX_block ?_
      refine JX_then ?_
      refine JC_region ?_
      refine JL_v (vo_move rfl) nofun (by decide) ?_
      refine JL_v (vo_add rfl rfl (by omega) (by omega)) nofun (by decide) ?_
      refine JL_v (vo_assign rfl) nofun (by decide) ?_
      refine JL_nil ?_
      refine JX_loop (i + 1, ⟨y, hy⟩) (by show l.length - (i + 1) < l.length - i; omega) (by repeat (first | exact trivial | refine ⟨rfl, ?_⟩ | refine ⟨trivial, ?_⟩)) (fun w hw => hw)
    · refine JC_exit ?_
      refine JX_then_exit ?_
      refine JX_thenK_exit ?_
      refine JX_block_exit ?_
      refine end0 rfl (fun w1 hM => WC_end hM (.head _) ⟨rfl, _, rfl, hx⟩)
  · refine JL_no rfl rfl (by decide) ?_
    refine JL_no rfl rfl (by decide) ?_
    refine JL_v (vo_pick rfl rfl) nofun (by decide) ?_
    refine JL_nil ?_
    refine JX_then ?_
    refine JC_cond false rfl (fun h => Bool.noConfusion h) (fun _ => ?_)
    refine JC_exit ?_
    refine JX_then_exit ?_
    refine JX_thenK_exit ?_
    refine JX_block_exit ?_
    refine end0 rfl (fun w1 hM => WC_end hM (.head _) ⟨rfl, _, rfl, hx⟩)
set_option maxRecDepth 8000 in
set_option maxHeartbeats 1000000 in
theorem node_of (nd : Nd) (hsz : nd.name.size ≤ 1048576) (hn : ∀ (b : Nat) (left : Int) (k : Value) (w : World), CntOK left → RNds (fun j => j < w.heap.size ∧ j ≠ b) w nd.kids k → w.heap[b]? = some (cntO left) → WCalls Try.prog 57 #[.pointer (some ⟨b, 0, none⟩), k] w b (fun v o => v = .tuple #[] ∧ ∃ x, o = cntO x ∧ CntOK x)) : ∀ (b : Nat) (left : Int) (k : Value) (w : World), CntOK left → RNds (fun j => j < w.heap.size ∧ j ≠ b) w nd.kids k → w.heap[b]? = some (cntO left) → WCalls Try.prog 100 #[.pointer (some ⟨b, 0, none⟩), .agg (ndC nd k).toArray] w b (fun v o => v = .tuple #[] ∧ ∃ x, o = cntO x ∧ CntOK x) := by
  intro b left k w hl hr hb
  refine enter (N := 12) Try.func100 rfl Try.ntmps100 (Nat.le_of_ble_eq_true rfl) [(0, .pointer (some ⟨b, 0, none⟩)), (1, .agg (ndC nd k).toArray)] (by repeat (first | exact trivial | refine ⟨rfl, ?_⟩)) (Mem.startW w b _ hb) ?_
  refine JC_seq ?_
  refine JC_region ?_
  refine st_box rfl (by decide) (fun b3 => ?_)
  refine JL_nil ?_
  refine JX_then ?_
  refine JC_seq ?_
  refine JC_region ?_
  refine JL_v (vo_move rfl) nofun (by decide) ?_
  refine JL_v (vo_fieldAddr rfl fo30_0) nofun (by decide) ?_
  refine JL_v (vo_load rfl (by first | exact .frz ‹_› | exact .own (by repeat (first | exact .head _ | refine .tail _ ?_))) (by first | exact .cell Try.underlying9 rfl rfl | exact pn_name (node_self _ _ _ _) | exact pn_kids (node_self _ _ _ _))) nofun (by decide) ?_
  refine st_wcall rfl en121 (by decide) (L' := fun o => _ :: .blk b o :: _) (fun o => .tail _ (.head _ _ _)) (fun w hw hb => text_spec b _ _ hl hsz w hb) ?_
  rintro _ _ ⟨rfl, x, rfl, hx⟩
  refine JL_nil ?_
  refine JX_then ?_
  refine JC_region ?_
  refine JL_v (vo_move rfl) nofun (by decide) ?_
  refine JL_v (vo_fieldAddr rfl fo30_3) nofun (by decide) ?_
  refine JL_v (vo_load rfl (by first | exact .frz ‹_› | exact .own (by repeat (first | exact .head _ | refine .tail _ ?_))) (by first | exact .cell Try.underlying28 rfl rfl | exact pn_name (node_self _ _ _ _) | exact pn_kids (node_self _ _ _ _))) nofun (by decide) ?_
  refine st_wcall rfl en57 (by decide) (L' := fun o => _ :: .blk b o :: _) (fun o => .tail _ (.head _ _ _)) (fun w hw hb => hn b _ _ w hx (hr.ext (hw.ext_now (.tail _ (.head _)))) hb) ?_
  rintro _ _ ⟨rfl, y, rfl, hy⟩
  refine JL_nil ?_
  refine end0 rfl (fun w1 hM => WC_end hM (.tail _ (.head _)) ⟨rfl, _, rfl, hy⟩)

end Go.Eng

set_option linter.unusedVariables false
set_option linter.unusedSimpArgs false
namespace Go.Eng
open Go Go.RowKit Go.Proofs
theorem en102 : Enters Try.prog 102 := ⟨_, Try.func102, by kernel_rfl, by kernel_rfl⟩
theorem en103 : Enters Try.prog 103 := ⟨_, Try.func103, by kernel_rfl, by kernel_rfl⟩
theorem en117 : Enters Try.prog 117 := ⟨_, Try.func117, by kernel_rfl, by kernel_rfl⟩
/-- a value that may be (the document's) -/
def rightB (v : Val) : Bool :=
  if v.kind = 1 then decide (0 ≤ v.mode) && decide (v.mode ≤ 8) && decide (v.size = 0) && sumEq v.sum (fun _ => 0)
  else if v.kind = 2 then decide (0 ≤ v.mode) && decide (v.mode ≤ 8) && decide (0 ≤ v.size) && decide (v.size ≤ 1099511627775)
  else if v.kind = 3 then decide (v.mode = 0) && decide (1 ≤ v.size) && decide (v.size ≤ 4095) else false
def ownB (v : Val) (m : Mk2) (n : Int) : Int :=
  if (decide (v.kind < 1) || decide (v.kind > 3) || (v.kind != 1 && decide (n > 0))) = true then 40
  else if (!rightB v || !markB m.a || !markB m.b || (v.kind != 2 && !mk2Eq m ⟨⟨0,0⟩,⟨0,0⟩⟩)) = true then 41 else 0

set_option maxRecDepth 8000 in
set_option maxHeartbeats 1000000 in
theorem pcheck_spec (s : ByteArray) (w : World)  : SCalls Try.prog 105 #[.string s] w (fun v => v = .int .i64 (if nameB s then 0 else 30)) := by
  refine enter (N := 32) Try.func105 rfl Try.ntmps105 (Nat.le_of_ble_eq_true rfl) [(0, .string s)] (by repeat (first | exact trivial | refine ⟨rfl, ?_⟩)) (Mem.start w (fun _ => False) (fun b => b < w.heap.size) (fun _ h => h)) ?_
  refine JC_seq ?_
  refine JC_region ?_
  refine JL_v (vo_assign rfl) nofun (by decide) ?_
  refine JL_nil ?_
  refine JX_then ?_
  refine JC_seq ?_
  refine JC_seq ?_
  refine JC_joinB 20 (decide ((s.size : Int) < 1) || decide ((s.size : Int) > 255) || beq s ⟨#[46]⟩ || beq s ⟨#[46, 46]⟩) ?_ ?_
  · refine JC_region ?_
    refine JL_v (vo_move rfl) nofun (by decide) ?_
    refine JL_v (vo_lenS rfl Try.underlying9) nofun (by decide) ?_
    refine JL_v (vo_cmp rfl rfl rfl) nofun (by decide) ?_
    refine JL_v (vo_move rfl) nofun (by decide) ?_
    refine JL_case 8 rfl (fun hg8 => ?_) (fun hg8 => ?_)
    · refine JL_no rfl rfl (by decide) ?_
      refine JL_no rfl rfl (by decide) ?_
      refine JL_no rfl rfl (by decide) ?_
      refine JL_v (vo_pick rfl rfl) nofun (by decide) ?_
      refine JL_v (vo_move rfl) nofun (by decide) ?_
      refine JL_no rfl rfl (by decide) ?_
      refine JL_no rfl rfl (by decide) ?_
      refine JL_v (vo_pick rfl rfl) nofun (by decide) ?_
      refine JL_v (vo_move rfl) nofun (by decide) ?_
      refine JL_no rfl rfl (by decide) ?_
      refine JL_no rfl rfl (by decide) ?_
      refine JL_v (vo_pick rfl rfl) nofun (by decide) ?_
      refine JL_nil ?_
      refine JX_joinB _ ⟨rfl, (by repeat (first | exact trivial | refine ⟨rfl, ?_⟩ | refine ⟨trivial, ?_⟩))⟩ ?_
      simp_all <;> first | omega | grind
    · refine JL_yes rfl rfl ?_
      refine JL_v (vo_move rfl) nofun (by decide) ?_
      refine JL_yes rfl rfl ?_
      refine JL_v (vo_lenS rfl Try.underlying9) nofun (by decide) ?_
      refine JL_yes rfl rfl ?_
      refine JL_v (vo_cmp rfl rfl rfl) nofun (by decide) ?_
      refine JL_v (vo_pick rfl rfl) nofun (by decide) ?_
      refine JL_v (vo_move rfl) nofun (by decide) ?_
      refine JL_case 13 rfl (fun hg13 => ?_) (fun hg13 => ?_)
      · refine JL_no rfl rfl (by decide) ?_
        refine JL_no rfl rfl (by decide) ?_
        refine JL_v (vo_pick rfl rfl) nofun (by decide) ?_
        refine JL_v (vo_move rfl) nofun (by decide) ?_
        refine JL_no rfl rfl (by decide) ?_
        refine JL_no rfl rfl (by decide) ?_
        refine JL_v (vo_pick rfl rfl) nofun (by decide) ?_
        refine JL_nil ?_
        refine JX_joinB _ ⟨rfl, (by repeat (first | exact trivial | refine ⟨rfl, ?_⟩ | refine ⟨trivial, ?_⟩))⟩ ?_
        simp_all <;> first | omega | grind
      · refine JL_yes rfl rfl ?_
        refine JL_v (vo_move rfl) nofun (by decide) ?_
        refine JL_yes rfl rfl ?_
        refine JL_v (vo_scmp rfl rfl rfl) nofun (by decide) ?_
        refine JL_v (vo_pick rfl rfl) nofun (by decide) ?_
        refine JL_v (vo_move rfl) nofun (by decide) ?_
        refine JL_case 17 rfl (fun hg17 => ?_) (fun hg17 => ?_)
        · refine JL_no rfl rfl (by decide) ?_
          refine JL_no rfl rfl (by decide) ?_
          refine JL_v (vo_pick rfl rfl) nofun (by decide) ?_
          refine JL_nil ?_
          refine JX_joinB _ ⟨rfl, (by repeat (first | exact trivial | refine ⟨rfl, ?_⟩ | refine ⟨trivial, ?_⟩))⟩ ?_
          simp_all <;> first | omega | grind
        · refine JL_yes rfl rfl ?_
          refine JL_v (vo_move rfl) nofun (by decide) ?_
          refine JL_yes rfl rfl ?_
          refine JL_v (vo_scmp rfl rfl rfl) nofun (by decide) ?_
          refine JL_v (vo_pick rfl rfl) nofun (by decide) ?_
          refine JL_nil ?_
          refine JX_joinB _ ⟨rfl, (by repeat (first | exact trivial | refine ⟨rfl, ?_⟩ | refine ⟨trivial, ?_⟩))⟩ ?_
          simp_all <;> first | omega | grind
  · refine JX_then ?_
    refine JC_cond _ rfl (fun hc20 => ?_) (fun hc20 => ?_)
    · refine JC_seq ?_
      refine JC_region ?_
      refine JL_v (vo_assign rfl) nofun (by decide) ?_
      refine JL_nil ?_
      refine JX_then ?_
      refine JC_ret ?_
      refine JX_then_ret ?_
      refine ret1 rfl rfl ?_
      intro w1 hM; refine SC_end hM ?_; have : nameB s = false := (by simp [nameB]; simp at hc20; grind); simp [this]
    · refine JC_skip ?_
      refine JX_then ?_
      refine JC_seq ?_
      refine JC_seq ?_
      refine JC_region ?_
      refine JL_v (vo_move rfl) nofun (by decide) ?_
      refine st_range rfl Try.underlying9 (by decide) (fun b22 => ?_)
      refine JL_nil ?_
      refine JX_then ?_
      refine JC_block ?_
      refine JC_loop (α := { p : Nat // p ≤ s.size ∧ ∀ j, j < p → isBad (bAt s j) = false }) (fun p => [(0, .string s), (22, .pointer (some ⟨b22, 0, none⟩))]) (fun p => Mem w (fun _ => False) (fun b => b < w.heap.size) (fun b => b < w.heap.size) w  [.blk b22 (.stringIter s p.1)]) (fun p => s.size - p.1) ⟨0, by omega, fun j hj => by omega⟩ (by repeat (first | exact trivial | refine ⟨rfl, ?_⟩ | refine ⟨trivial, ?_⟩)) (fun w hw => hw) ?_
      rintro ⟨p, hp, hpb⟩
      dsimp only
      refine JC_seq ?_
      refine JC_region ?_
      refine st_next rfl (by decide) (.head _ _ _) (fun hlt => ?_) (fun hge => ?_)
      · refine JL_v (vo_extract rfl rfl) nofun (by decide) ?_
        refine JL_nil ?_
        refine JX_then ?_
        refine JC_seq ?_
        refine JC_cond true rfl (fun _ => ?_) (fun h => Bool.noConfusion h)
        refine JC_skip ?_
        refine JX_then ?_
        refine JC_block ?_
        refine JC_seq ?_
        refine JC_region ?_
        refine JL_v (vo_extract rfl rfl) nofun (by decide) ?_
        refine JL_v (vo_assign rfl) nofun (by decide) ?_
        refine JL_nil ?_
        refine JX_then ?_
        refine JC_seq ?_
        refine JC_joinB 31 ((((Utf8.decode s p).1 : Int) == 47) || (((Utf8.decode s p).1 : Int) == 0)) ?_ ?_
        · refine JC_region ?_
          refine JL_v (vo_move rfl) nofun (by decide) ?_
          refine JL_v (vo_cmp rfl rfl rfl) nofun (by decide) ?_
          refine JL_v (vo_move rfl) nofun (by decide) ?_
          refine JL_case 28 rfl (fun hg28 => ?_) (fun hg28 => ?_)
          · refine JL_no rfl rfl (by decide) ?_
            refine JL_no rfl rfl (by decide) ?_
            refine JL_v (vo_pick rfl rfl) nofun (by decide) ?_
            refine JL_nil ?_
            refine JX_joinB _ ⟨rfl, (by repeat (first | exact trivial | refine ⟨rfl, ?_⟩ | refine ⟨trivial, ?_⟩))⟩ ?_
            simp_all <;> first | omega | grind
          · refine JL_yes rfl rfl ?_
            refine JL_v (vo_move rfl) nofun (by decide) ?_
            refine JL_yes rfl rfl ?_
            refine JL_v (vo_cmp rfl rfl rfl) nofun (by decide) ?_
            refine JL_v (vo_pick rfl rfl) nofun (by decide) ?_
            refine JL_nil ?_
            refine JX_joinB _ ⟨rfl, (by repeat (first | exact trivial | refine ⟨rfl, ?_⟩ | refine ⟨trivial, ?_⟩))⟩ ?_
            simp_all <;> first | omega | grind
        · rw [isBad_int, decode_isBad s p hlt]
          refine JX_then ?_
          refine JC_cond _ rfl (fun hc31 => ?_) (fun hc31 => ?_)
          · refine JC_seq ?_
            refine JC_region ?_
            refine JL_v (vo_assign rfl) nofun (by decide) ?_
            refine JL_nil ?_
            refine JX_then ?_
            refine JC_ret ?_
            refine JX_block_ret ?_
            refine JX_thenK_ret ?_
            refine JX_block_ret ?_
            refine JX_then_ret ?_
            refine ret1 rfl rfl ?_
            intro w1 hM; refine SC_end hM ?_; have : nameB s = false := (by simp [nameB, badS_true hlt hc31]); simp [this]
          · refine JC_skip ?_
            refine JX_block ?_
            have hw1 := decode_wide s p hlt
            refine JX_loop ⟨p + (Utf8.decode s p).2, decode_fits s p hlt, fun j hj => ?_⟩ (by show s.size - (p + (Utf8.decode s p).2) < s.size - p; omega) (by repeat (first | exact trivial | refine ⟨rfl, ?_⟩ | refine ⟨trivial, ?_⟩)) (fun w hw => hw)
            rcases Nat.lt_or_ge j p with h1 | h1
            · exact hpb j h1
            · rcases Nat.lt_or_ge p j with h2 | h2
              · have := (decode_in s p hlt (j - p) (by omega) (by omega)).2
                rw [show p + (j - p) = j by omega] at this
                simp [isBad]; omega
              · obtain rfl : j = p := by omega
                exact hc31
      · refine JL_v (vo_extract rfl rfl) nofun (by decide) ?_
        refine JL_nil ?_
        refine JX_then ?_
        refine JC_seq ?_
        refine JC_cond false rfl (fun h => Bool.noConfusion h) (fun _ => ?_)
        refine JC_exit ?_
        refine JX_then_exit ?_
        refine JX_thenK_exit ?_
        refine JX_block_exit ?_
        refine JX_then ?_
        refine JC_seq ?_
        refine JC_region ?_
        refine JL_v (vo_assign rfl) nofun (by decide) ?_
        refine JL_nil ?_
        refine JX_then ?_
        refine JC_ret ?_
        refine ret1 rfl rfl ?_
        intro w1 hM; refine SC_end hM ?_; have : nameB s = true := (by simp [nameB, badS_false (fun j hj => hpb j (by omega))]; simp at hc20; grind); simp [this]
set_option maxRecDepth 8000 in
set_option maxHeartbeats 1000000 in
theorem name_spec (s : ByteArray) (hs : s.size ≤ 9223372036854775806) (w : World)  : SCalls Try.prog 117 #[.string s] w (fun v => v = .bool (nameB s)) := by
  refine enter (N := 36) Try.func117 rfl Try.ntmps117 (Nat.le_of_ble_eq_true rfl) [(0, .string s)] (by repeat (first | exact trivial | refine ⟨rfl, ?_⟩)) (Mem.start w (fun _ => False) (fun b => b < w.heap.size) (fun _ h => h)) ?_
  refine JC_seq ?_
  refine JC_region ?_
  refine JL_v (vo_assign rfl) nofun (by decide) ?_
  refine JL_nil ?_
  refine JX_then ?_
  refine JC_seq ?_
  refine JC_seq ?_
  refine JC_joinB 19 (decide ((s.size : Int) < 1) || decide ((s.size : Int) > 255) || beq s ⟨#[46]⟩ || beq s ⟨#[46, 46]⟩) ?_ ?_
  · refine JC_region ?_
    refine JL_v (vo_move rfl) nofun (by decide) ?_
    refine JL_v (vo_lenS rfl Try.underlying9) nofun (by decide) ?_
    refine JL_v (vo_cmp rfl rfl rfl) nofun (by decide) ?_
    refine JL_v (vo_move rfl) nofun (by decide) ?_
    refine JL_case 7 rfl (fun hg7 => ?_) (fun hg7 => ?_)
    · refine JL_no rfl rfl (by decide) ?_
      refine JL_no rfl rfl (by decide) ?_
      refine JL_no rfl rfl (by decide) ?_
      refine JL_v (vo_pick rfl rfl) nofun (by decide) ?_
      refine JL_v (vo_move rfl) nofun (by decide) ?_
      refine JL_no rfl rfl (by decide) ?_
      refine JL_no rfl rfl (by decide) ?_
      refine JL_v (vo_pick rfl rfl) nofun (by decide) ?_
      refine JL_v (vo_move rfl) nofun (by decide) ?_
      refine JL_no rfl rfl (by decide) ?_
      refine JL_no rfl rfl (by decide) ?_
      refine JL_v (vo_pick rfl rfl) nofun (by decide) ?_
      refine JL_nil ?_
      refine JX_joinB _ ⟨rfl, (by repeat (first | exact trivial | refine ⟨rfl, ?_⟩ | refine ⟨trivial, ?_⟩))⟩ ?_
      simp_all <;> first | omega | grind
    · refine JL_yes rfl rfl ?_
      refine JL_v (vo_move rfl) nofun (by decide) ?_
      refine JL_yes rfl rfl ?_
      refine JL_v (vo_lenS rfl Try.underlying9) nofun (by decide) ?_
      refine JL_yes rfl rfl ?_
      refine JL_v (vo_cmp rfl rfl rfl) nofun (by decide) ?_
      refine JL_v (vo_pick rfl rfl) nofun (by decide) ?_
      refine JL_v (vo_move rfl) nofun (by decide) ?_
      refine JL_case 12 rfl (fun hg12 => ?_) (fun hg12 => ?_)
      · refine JL_no rfl rfl (by decide) ?_
        refine JL_no rfl rfl (by decide) ?_
        refine JL_v (vo_pick rfl rfl) nofun (by decide) ?_
        refine JL_v (vo_move rfl) nofun (by decide) ?_
        refine JL_no rfl rfl (by decide) ?_
        refine JL_no rfl rfl (by decide) ?_
        refine JL_v (vo_pick rfl rfl) nofun (by decide) ?_
        refine JL_nil ?_
        refine JX_joinB _ ⟨rfl, (by repeat (first | exact trivial | refine ⟨rfl, ?_⟩ | refine ⟨trivial, ?_⟩))⟩ ?_
        simp_all <;> first | omega | grind
      · refine JL_yes rfl rfl ?_
        refine JL_v (vo_move rfl) nofun (by decide) ?_
        refine JL_yes rfl rfl ?_
        refine JL_v (vo_scmp rfl rfl rfl) nofun (by decide) ?_
        refine JL_v (vo_pick rfl rfl) nofun (by decide) ?_
        refine JL_v (vo_move rfl) nofun (by decide) ?_
        refine JL_case 16 rfl (fun hg16 => ?_) (fun hg16 => ?_)
        · refine JL_no rfl rfl (by decide) ?_
          refine JL_no rfl rfl (by decide) ?_
          refine JL_v (vo_pick rfl rfl) nofun (by decide) ?_
          refine JL_nil ?_
          refine JX_joinB _ ⟨rfl, (by repeat (first | exact trivial | refine ⟨rfl, ?_⟩ | refine ⟨trivial, ?_⟩))⟩ ?_
          simp_all <;> first | omega | grind
        · refine JL_yes rfl rfl ?_
          refine JL_v (vo_move rfl) nofun (by decide) ?_
          refine JL_yes rfl rfl ?_
          refine JL_v (vo_scmp rfl rfl rfl) nofun (by decide) ?_
          refine JL_v (vo_pick rfl rfl) nofun (by decide) ?_
          refine JL_nil ?_
          refine JX_joinB _ ⟨rfl, (by repeat (first | exact trivial | refine ⟨rfl, ?_⟩ | refine ⟨trivial, ?_⟩))⟩ ?_
          simp_all <;> first | omega | grind
  · refine JX_then ?_
    refine JC_cond _ rfl (fun hc19 => ?_) (fun hc19 => ?_)
    · refine JC_seq ?_
      refine JC_region ?_
      refine JL_v (vo_assign rfl) nofun (by decide) ?_
      refine JL_nil ?_
      refine JX_then ?_
      refine JC_ret ?_
      refine JX_then_ret ?_
      refine ret1 rfl rfl ?_
      intro w1 hM; refine SC_end hM ?_; have : nameB s = false := (by simp [nameB]; simp at hc19; grind); simp [this]
    · refine JC_skip ?_
      refine JX_then ?_
      refine JC_seq ?_
      refine JC_seq ?_
      refine JC_region ?_
      refine JL_v (vo_assign rfl) nofun (by decide) ?_
      refine JL_nil ?_
      refine JX_then ?_
      refine JC_block ?_
      refine JC_loop (α := { p : Nat // p ≤ s.size ∧ ∀ j, j < p → isBad (bAt s j) = false }) (fun p => [(0, .string s), (3, .int .i64 p.1)]) (fun p => Mem w (fun _ => False) (fun b => b < w.heap.size) (fun b => b < w.heap.size) w  []) (fun p => s.size - p.1) ⟨0, by omega, fun j hj => by omega⟩ (by repeat (first | exact trivial | refine ⟨rfl, ?_⟩ | refine ⟨trivial, ?_⟩)) (fun w hw => hw) ?_
      rintro ⟨p, hp, hpb⟩
      dsimp only
      refine JC_seq ?_
      refine JC_seq ?_
      refine JC_region ?_
      refine JL_v (vo_move rfl) nofun (by decide) ?_
      refine JL_v (vo_move rfl) nofun (by decide) ?_
      refine JL_v (vo_lenS rfl Try.underlying9) nofun (by decide) ?_
      refine JL_v (vo_cmp rfl rfl rfl) nofun (by decide) ?_
      refine JL_nil ?_
      refine JX_then ?_
      refine JC_cond _ rfl (fun hc23 => ?_) (fun hc23 => ?_)
      · have hlt : p < s.size := by simp at hc23; omega
        refine JC_skip ?_
        refine JX_then ?_
        refine JC_seq ?_
        refine JC_block ?_
        refine JC_seq ?_
        refine JC_joinB 35 (((bAt s p : Int) == 47) || ((bAt s p : Int) == 0)) ?_ ?_
        · refine JC_region ?_
          refine JL_v (vo_move rfl) nofun (by decide) ?_
          refine JL_v (vo_move rfl) nofun (by decide) ?_
          refine JL_v (vo_indexS rfl rfl Try.underlying9 (by omega) (by omega)) nofun (by decide) ?_
          refine JL_v (vo_cmp rfl rfl rfl) nofun (by decide) ?_
          refine JL_v (vo_move rfl) nofun (by decide) ?_
          refine JL_case 30 rfl (fun hg30 => ?_) (fun hg30 => ?_)
          · refine JL_no rfl rfl (by decide) ?_
            refine JL_no rfl rfl (by decide) ?_
            refine JL_no rfl rfl (by decide) ?_
            refine JL_no rfl rfl (by decide) ?_
            refine JL_v (vo_pick rfl rfl) nofun (by decide) ?_
            refine JL_nil ?_
            refine JX_joinB _ ⟨rfl, (by repeat (first | exact trivial | refine ⟨rfl, ?_⟩ | refine ⟨trivial, ?_⟩))⟩ ?_
            simp_all <;> first | omega | grind
          · refine JL_yes rfl rfl ?_
            refine JL_v (vo_move rfl) nofun (by decide) ?_
            refine JL_yes rfl rfl ?_
            refine JL_v (vo_move rfl) nofun (by decide) ?_
            refine JL_yes rfl rfl ?_
            refine JL_v (vo_indexS rfl rfl Try.underlying9 (by omega) (by omega)) nofun (by decide) ?_
            refine JL_yes rfl rfl ?_
            refine JL_v (vo_cmp rfl rfl rfl) nofun (by decide) ?_
            refine JL_v (vo_pick rfl rfl) nofun (by decide) ?_
            refine JL_nil ?_
            refine JX_joinB _ ⟨rfl, (by repeat (first | exact trivial | refine ⟨rfl, ?_⟩ | refine ⟨trivial, ?_⟩))⟩ ?_
            simp_all <;> first | omega | grind
        · rw [isBad_int]
          refine JX_then ?_
          refine JC_cond _ rfl (fun hc35 => ?_) (fun hc35 => ?_)
          · refine JC_seq ?_
            refine JC_region ?_
            refine JL_v (vo_assign rfl) nofun (by decide) ?_
            refine JL_nil ?_
            refine JX_then ?_
            refine JC_ret ?_
            refine JX_block_ret ?_
            refine JX_then_ret ?_
            refine JX_thenK_ret ?_
            refine JX_block_ret ?_
            refine JX_then_ret ?_
            refine ret1 rfl rfl ?_
            intro w1 hM; refine SC_end hM ?_; have : nameB s = false := (by simp [nameB, badS_true hlt hc35]); simp [this]
          · refine JC_skip ?_
            refine JX_block ?_
            refine JX_then ?_
            refine JC_region ?_
            refine JL_v (vo_move rfl) nofun (by decide) ?_
            refine JL_v (vo_add rfl rfl (by omega) (by omega)) nofun (by decide) ?_
            refine JL_v (vo_assign rfl) nofun (by decide) ?_
            refine JL_nil ?_
            refine JX_loop ⟨p + 1, hlt, fun j hj => ?_⟩ (by show s.size - (p + 1) < s.size - p; omega) (by repeat (first | exact trivial | refine ⟨rfl, ?_⟩ | refine ⟨trivial, ?_⟩)) (fun w hw => hw)
            rcases Nat.lt_or_ge j p with h1 | h1
            · exact hpb j h1
            · obtain rfl : j = p := by omega
              exact hc35
      · refine JC_exit ?_
        refine JX_then_exit ?_
        refine JX_thenK_exit ?_
        refine JX_block_exit ?_
        refine JX_then ?_
        refine JC_seq ?_
        refine JC_region ?_
        refine JL_v (vo_assign rfl) nofun (by decide) ?_
        refine JL_nil ?_
        refine JX_then ?_
        refine JC_ret ?_
        refine ret1 rfl rfl ?_
        intro w1 hM; refine SC_end hM ?_; have : nameB s = true := (by simp [nameB, badS_false (fun j hj => hpb j (by simp at hc23; omega))]; simp at hc19; grind); simp [this]
set_option maxRecDepth 8000 in
set_option maxHeartbeats 1000000 in
theorem check3_spec (s : ByteArray) (hs : s.size ≤ 9223372036854775806) (w : World)  : SCalls Try.prog 104 #[.string s] w (fun v => v = .int .i64 (if nameB s then 0 else 30)) := by
  refine enter (N := 6) Try.func104 rfl Try.ntmps104 (Nat.le_of_ble_eq_true rfl) [(0, .string s)] (by repeat (first | exact trivial | refine ⟨rfl, ?_⟩)) (Mem.start w (fun _ => False) (fun b => b < w.heap.size) (fun _ h => h)) ?_
  refine JC_seq ?_
  refine JC_region ?_
  refine JL_v (vo_assign rfl) nofun (by decide) ?_
  refine JL_nil ?_
  refine JX_then ?_
  refine JC_seq ?_
  refine JC_seq ?_
  refine JC_region ?_
  refine JL_v (vo_move rfl) nofun (by decide) ?_
  refine st_scall rfl en117 (by decide) (fun w hw => name_spec s hs w) ?_
  rintro _ rfl
  refine JL_v (vo_not rfl) nofun (by decide) ?_
  refine JL_nil ?_
  refine JX_then ?_
  refine JC_cond _ rfl (fun hc5 => ?_) (fun hc5 => ?_)
  · refine JC_seq ?_
    refine JC_region ?_
    refine JL_v (vo_assign rfl) nofun (by decide) ?_
    refine JL_nil ?_
    refine JX_then ?_
    refine JC_ret ?_
    refine JX_then_ret ?_
    refine ret1 rfl rfl ?_
    intro w1 hM; refine SC_end hM ?_; simp_all
  · refine JC_skip ?_
    refine JX_then ?_
    refine JC_seq ?_
    refine JC_region ?_
    refine JL_v (vo_assign rfl) nofun (by decide) ?_
    refine JL_nil ?_
    refine JX_then ?_
    refine JC_ret ?_
    refine ret1 rfl rfl ?_
    intro w1 hM; refine SC_end hM ?_; simp_all
set_option maxRecDepth 8000 in
set_option maxHeartbeats 1000000 in
theorem mark_spec (m : Mrk) (w : World)  : SCalls Try.prog 103 #[.agg (mrkC m).toArray] w (fun v => v = .bool (markB m)) := by
  refine enter (N := 29) Try.func103 rfl Try.ntmps103 (Nat.le_of_ble_eq_true rfl) [(0, .agg (mrkC m).toArray)] (by repeat (first | exact trivial | refine ⟨rfl, ?_⟩)) (Mem.start w (fun _ => False) (fun b => b < w.heap.size) (fun _ h => h)) ?_
  refine JC_seq ?_
  refine JC_region ?_
  refine st_box rfl (by decide) (fun b1 => ?_)
  refine JL_v (vo_assign rfl) nofun (by decide) ?_
  refine JL_nil ?_
  refine JX_then ?_
  refine JC_seq ?_
  refine JC_seq ?_
  refine JC_joinB 10 ((m.number == 0) && (m.stamp == 0)) ?_ ?_
  · refine JC_region ?_
    refine JL_v (vo_fieldAddr rfl fo26_0) nofun (by decide) ?_
    refine JL_v (vo_load rfl (by first | exact .frz ‹_› | exact .own (by repeat (first | exact .head _ | refine .tail _ ?_))) (by first | exact .cell Try.underlying3 rfl rfl)) nofun (by decide) ?_
    refine JL_v (vo_cmp rfl rfl rfl) nofun (by decide) ?_
    refine JL_v (vo_move rfl) nofun (by decide) ?_
    refine JL_case 6 rfl (fun hg6 => ?_) (fun hg6 => ?_)
    · refine JL_yes rfl rfl ?_
      refine JL_v (vo_fieldAddr rfl fo26_1) nofun (by decide) ?_
      refine JL_yes rfl rfl ?_
      refine JL_v (vo_load rfl (by first | exact .frz ‹_› | exact .own (by repeat (first | exact .head _ | refine .tail _ ?_))) (by first | exact .cell Try.underlying3 rfl rfl)) nofun (by decide) ?_
      refine JL_yes rfl rfl ?_
      refine JL_v (vo_cmp rfl rfl rfl) nofun (by decide) ?_
      refine JL_v (vo_pick rfl rfl) nofun (by decide) ?_
      refine JL_nil ?_
      refine JX_joinB _ ⟨rfl, (by repeat (first | exact trivial | refine ⟨rfl, ?_⟩ | refine ⟨trivial, ?_⟩))⟩ ?_
      simp_all <;> first | omega | grind
    · refine JL_no rfl rfl (by decide) ?_
      refine JL_no rfl rfl (by decide) ?_
      refine JL_no rfl rfl (by decide) ?_
      refine JL_v (vo_pick rfl rfl) nofun (by decide) ?_
      refine JL_nil ?_
      refine JX_joinB _ ⟨rfl, (by repeat (first | exact trivial | refine ⟨rfl, ?_⟩ | refine ⟨trivial, ?_⟩))⟩ ?_
      simp_all <;> first | omega | grind
  · refine JX_then ?_
    refine JC_cond _ rfl (fun hc10 => ?_) (fun hc10 => ?_)
    · refine JC_seq ?_
      refine JC_region ?_
      refine JL_v (vo_assign rfl) nofun (by decide) ?_
      refine JL_nil ?_
      refine JX_then ?_
      refine JC_ret ?_
      refine JX_then_ret ?_
      refine ret1 rfl rfl ?_
      intro w1 hM; refine SC_end hM ?_; congr 1; simp_all [markB, mrkEq] <;> grind
    · refine JC_skip ?_
      refine JX_then ?_
      refine JC_seq ?_
      refine JC_region ?_
      refine JL_v (vo_fieldAddr rfl fo26_0) nofun (by decide) ?_
      refine JL_v (vo_load rfl (by first | exact .frz ‹_› | exact .own (by repeat (first | exact .head _ | refine .tail _ ?_))) (by first | exact .cell Try.underlying3 rfl rfl)) nofun (by decide) ?_
      refine JL_v (vo_cmp rfl rfl rfl) nofun (by decide) ?_
      refine JL_v (vo_move rfl) nofun (by decide) ?_
      refine JL_case 14 rfl (fun hg14 => ?_) (fun hg14 => ?_)
      · refine JL_yes rfl rfl ?_
        refine JL_v (vo_fieldAddr rfl fo26_0) nofun (by decide) ?_
        refine JL_yes rfl rfl ?_
        refine JL_v (vo_load rfl (by first | exact .frz ‹_› | exact .own (by repeat (first | exact .head _ | refine .tail _ ?_))) (by first | exact .cell Try.underlying3 rfl rfl)) nofun (by decide) ?_
        refine JL_yes rfl rfl ?_
        refine JL_v (vo_cmp rfl rfl rfl) nofun (by decide) ?_
        refine JL_v (vo_pick rfl rfl) nofun (by decide) ?_
        refine JL_v (vo_move rfl) nofun (by decide) ?_
        refine JL_case 19 rfl (fun hg19 => ?_) (fun hg19 => ?_)
        · refine JL_yes rfl rfl ?_
          refine JL_v (vo_fieldAddr rfl fo26_1) nofun (by decide) ?_
          refine JL_yes rfl rfl ?_
          refine JL_v (vo_load rfl (by first | exact .frz ‹_› | exact .own (by repeat (first | exact .head _ | refine .tail _ ?_))) (by first | exact .cell Try.underlying3 rfl rfl)) nofun (by decide) ?_
          refine JL_yes rfl rfl ?_
          refine JL_v (vo_cmp rfl rfl rfl) nofun (by decide) ?_
          refine JL_v (vo_pick rfl rfl) nofun (by decide) ?_
          refine JL_v (vo_move rfl) nofun (by decide) ?_
          refine JL_case 24 rfl (fun hg24 => ?_) (fun hg24 => ?_)
          · refine JL_yes rfl rfl ?_
            refine JL_v (vo_fieldAddr rfl fo26_1) nofun (by decide) ?_
            refine JL_yes rfl rfl ?_
            refine JL_v (vo_load rfl (by first | exact .frz ‹_› | exact .own (by repeat (first | exact .head _ | refine .tail _ ?_))) (by first | exact .cell Try.underlying3 rfl rfl)) nofun (by decide) ?_
            refine JL_yes rfl rfl ?_
            refine JL_v (vo_cmp rfl rfl rfl) nofun (by decide) ?_
            refine JL_v (vo_pick rfl rfl) nofun (by decide) ?_
            refine JL_v (vo_assign rfl) nofun (by decide) ?_
            refine JL_nil ?_
            refine JX_then ?_
            refine JC_ret ?_
            refine ret1 rfl rfl ?_
            intro w1 hM; refine SC_end hM ?_; congr 1; simp_all [markB, mrkEq] <;> grind
          · refine JL_no rfl rfl (by decide) ?_
            refine JL_no rfl rfl (by decide) ?_
            refine JL_no rfl rfl (by decide) ?_
            refine JL_v (vo_pick rfl rfl) nofun (by decide) ?_
            refine JL_v (vo_assign rfl) nofun (by decide) ?_
            refine JL_nil ?_
            refine JX_then ?_
            refine JC_ret ?_
            refine ret1 rfl rfl ?_
            intro w1 hM; refine SC_end hM ?_; congr 1; simp_all [markB, mrkEq] <;> grind
        · refine JL_no rfl rfl (by decide) ?_
          refine JL_no rfl rfl (by decide) ?_
          refine JL_no rfl rfl (by decide) ?_
          refine JL_v (vo_pick rfl rfl) nofun (by decide) ?_
          refine JL_v (vo_move rfl) nofun (by decide) ?_
          refine JL_no rfl rfl (by decide) ?_
          refine JL_no rfl rfl (by decide) ?_
          refine JL_no rfl rfl (by decide) ?_
          refine JL_v (vo_pick rfl rfl) nofun (by decide) ?_
          refine JL_v (vo_assign rfl) nofun (by decide) ?_
          refine JL_nil ?_
          refine JX_then ?_
          refine JC_ret ?_
          refine ret1 rfl rfl ?_
          intro w1 hM; refine SC_end hM ?_; congr 1; simp_all [markB, mrkEq] <;> grind
      · refine JL_no rfl rfl (by decide) ?_
        refine JL_no rfl rfl (by decide) ?_
        refine JL_no rfl rfl (by decide) ?_
        refine JL_v (vo_pick rfl rfl) nofun (by decide) ?_
        refine JL_v (vo_move rfl) nofun (by decide) ?_
        refine JL_no rfl rfl (by decide) ?_
        refine JL_no rfl rfl (by decide) ?_
        refine JL_no rfl rfl (by decide) ?_
        refine JL_v (vo_pick rfl rfl) nofun (by decide) ?_
        refine JL_v (vo_move rfl) nofun (by decide) ?_
        refine JL_no rfl rfl (by decide) ?_
        refine JL_no rfl rfl (by decide) ?_
        refine JL_no rfl rfl (by decide) ?_
        refine JL_v (vo_pick rfl rfl) nofun (by decide) ?_
        refine JL_v (vo_assign rfl) nofun (by decide) ?_
        refine JL_nil ?_
        refine JX_then ?_
        refine JC_ret ?_
        refine ret1 rfl rfl ?_
        intro w1 hM; refine SC_end hM ?_; congr 1; simp_all [markB, mrkEq] <;> grind
set_option maxRecDepth 8000 in
set_option maxHeartbeats 1000000 in
theorem right_spec (v : Val) (w : World)  : SCalls Try.prog 102 #[.agg (valC v).toArray] w (fun u => u = .bool (rightB v)) := by
  refine enter (N := 61) Try.func102 rfl Try.ntmps102 (Nat.le_of_ble_eq_true rfl) [(0, .agg (valC v).toArray)] (by repeat (first | exact trivial | refine ⟨rfl, ?_⟩)) (Mem.start w (fun _ => False) (fun b => b < w.heap.size) (fun _ h => h)) ?_
  refine JC_seq ?_
  refine JC_region ?_
  refine st_box rfl (by decide) (fun b1 => ?_)
  refine JL_v (vo_assign rfl) nofun (by decide) ?_
  refine JL_nil ?_
  refine JX_then ?_
  refine JC_seq ?_
  refine JC_seq ?_
  refine JC_region ?_
  refine JL_v (vo_fieldAddr rfl fo24_0) nofun (by decide) ?_
  refine JL_v (vo_load rfl (by first | exact .frz ‹_› | exact .own (by repeat (first | exact .head _ | refine .tail _ ?_))) (by first | exact .cell Try.underlying3 rfl rfl | exact pa_val_sum _)) nofun (by decide) ?_
  refine JL_nil ?_
  refine JX_then ?_
  refine JC_block ?_
  refine JC_seq ?_
  refine JC_region ?_
  refine JL_v (vo_cmp rfl rfl rfl) nofun (by decide) ?_
  refine JL_v (vo_assign rfl) nofun (by decide) ?_
  refine JL_nil ?_
  refine JX_then ?_
  refine JC_cond _ rfl (fun hc5 => ?_) (fun hc5 => ?_)
  · refine JC_seq ?_
    refine JC_region ?_
    refine JL_v (vo_fieldAddr rfl fo24_1) nofun (by decide) ?_
    refine JL_v (vo_load rfl (by first | exact .frz ‹_› | exact .own (by repeat (first | exact .head _ | refine .tail _ ?_))) (by first | exact .cell Try.underlying3 rfl rfl | exact pa_val_sum _)) nofun (by decide) ?_
    refine JL_v (vo_cmp rfl rfl rfl) nofun (by decide) ?_
    refine JL_v (vo_move rfl) nofun (by decide) ?_
    refine JL_case 10 rfl (fun hg10 => ?_) (fun hg10 => ?_)
    · refine JL_yes rfl rfl ?_
      refine JL_v (vo_fieldAddr rfl fo24_1) nofun (by decide) ?_
      refine JL_yes rfl rfl ?_
      refine JL_v (vo_load rfl (by first | exact .frz ‹_› | exact .own (by repeat (first | exact .head _ | refine .tail _ ?_))) (by first | exact .cell Try.underlying3 rfl rfl | exact pa_val_sum _)) nofun (by decide) ?_
      refine JL_yes rfl rfl ?_
      refine JL_v (vo_cmp rfl rfl rfl) nofun (by decide) ?_
      refine JL_v (vo_pick rfl rfl) nofun (by decide) ?_
      refine JL_v (vo_move rfl) nofun (by decide) ?_
      refine JL_case 15 rfl (fun hg15 => ?_) (fun hg15 => ?_)
      · refine JL_yes rfl rfl ?_
        refine JL_v (vo_fieldAddr rfl fo24_2) nofun (by decide) ?_
        refine JL_yes rfl rfl ?_
        refine JL_v (vo_load rfl (by first | exact .frz ‹_› | exact .own (by repeat (first | exact .head _ | refine .tail _ ?_))) (by first | exact .cell Try.underlying3 rfl rfl | exact pa_val_sum _)) nofun (by decide) ?_
        refine JL_yes rfl rfl ?_
        refine JL_v (vo_cmp rfl rfl rfl) nofun (by decide) ?_
        refine JL_v (vo_pick rfl rfl) nofun (by decide) ?_
        refine JL_v (vo_move rfl) nofun (by decide) ?_
        refine JL_case 20 rfl (fun hg20 => ?_) (fun hg20 => ?_)
        · refine JL_yes rfl rfl ?_
          refine JL_v (vo_fieldAddr rfl fo24_3) nofun (by decide) ?_
          refine JL_yes rfl rfl ?_
          refine JL_v (vo_load rfl (by first | exact .frz ‹_› | exact .own (by repeat (first | exact .head _ | refine .tail _ ?_))) (by first | exact PartAt.whole Try.underlying22 rfl sz22 | exact pa_val_sum _)) nofun (by decide) ?_
          refine JL_yes rfl rfl ?_
          refine JL_v (vo_build rfl (by first | exact bl22)) nofun (by decide) ?_
          refine JL_yes rfl rfl ?_
          refine JL_v (vo_eqS rfl rfl rfl eg22 (eqv22 _ _)) nofun (by decide) ?_
          refine JL_v (vo_pick rfl rfl) nofun (by decide) ?_
          refine JL_v (vo_assign rfl) nofun (by decide) ?_
          refine JL_nil ?_
          refine JX_then ?_
          refine JC_ret ?_
          refine JX_block_ret ?_
          refine JX_then_ret ?_
          refine ret1 rfl rfl ?_
          intro w1 hM; refine SC_end hM ?_; congr 1; simp_all [rightB] <;> grind
        · refine JL_no rfl rfl (by decide) ?_
          refine JL_no rfl rfl (by decide) ?_
          refine JL_no rfl rfl (by decide) ?_
          refine JL_no rfl rfl (by decide) ?_
          refine JL_v (vo_pick rfl rfl) nofun (by decide) ?_
          refine JL_v (vo_assign rfl) nofun (by decide) ?_
          refine JL_nil ?_
          refine JX_then ?_
          refine JC_ret ?_
          refine JX_block_ret ?_
          refine JX_then_ret ?_
          refine ret1 rfl rfl ?_
          intro w1 hM; refine SC_end hM ?_; congr 1; simp_all [rightB] <;> grind
      · refine JL_no rfl rfl (by decide) ?_
        refine JL_no rfl rfl (by decide) ?_
        refine JL_no rfl rfl (by decide) ?_
        refine JL_v (vo_pick rfl rfl) nofun (by decide) ?_
        refine JL_v (vo_move rfl) nofun (by decide) ?_
        refine JL_no rfl rfl (by decide) ?_
        refine JL_no rfl rfl (by decide) ?_
        refine JL_no rfl rfl (by decide) ?_
        refine JL_no rfl rfl (by decide) ?_
        refine JL_v (vo_pick rfl rfl) nofun (by decide) ?_
        refine JL_v (vo_assign rfl) nofun (by decide) ?_
        refine JL_nil ?_
        refine JX_then ?_
        refine JC_ret ?_
        refine JX_block_ret ?_
        refine JX_then_ret ?_
        refine ret1 rfl rfl ?_
        intro w1 hM; refine SC_end hM ?_; congr 1; simp_all [rightB] <;> grind
    · refine JL_no rfl rfl (by decide) ?_
      refine JL_no rfl rfl (by decide) ?_
      refine JL_no rfl rfl (by decide) ?_
      refine JL_v (vo_pick rfl rfl) nofun (by decide) ?_
      refine JL_v (vo_move rfl) nofun (by decide) ?_
      refine JL_no rfl rfl (by decide) ?_
      refine JL_no rfl rfl (by decide) ?_
      refine JL_no rfl rfl (by decide) ?_
      refine JL_v (vo_pick rfl rfl) nofun (by decide) ?_
      refine JL_v (vo_move rfl) nofun (by decide) ?_
      refine JL_no rfl rfl (by decide) ?_
      refine JL_no rfl rfl (by decide) ?_
      refine JL_no rfl rfl (by decide) ?_
      refine JL_no rfl rfl (by decide) ?_
      refine JL_v (vo_pick rfl rfl) nofun (by decide) ?_
      refine JL_v (vo_assign rfl) nofun (by decide) ?_
      refine JL_nil ?_
      refine JX_then ?_
      refine JC_ret ?_
      refine JX_block_ret ?_
      refine JX_then_ret ?_
      refine ret1 rfl rfl ?_
      intro w1 hM; refine SC_end hM ?_; congr 1; simp_all [rightB] <;> grind
  · refine JC_seq ?_
    refine JC_region ?_
    refine JL_v (vo_cmp rfl rfl rfl) nofun (by decide) ?_
    refine JL_v (vo_assign rfl) nofun (by decide) ?_
    refine JL_nil ?_
    refine JX_then ?_
    refine JC_cond _ rfl (fun hc26 => ?_) (fun hc26 => ?_)
    · refine JC_seq ?_
      refine JC_region ?_
      refine JL_v (vo_fieldAddr rfl fo24_1) nofun (by decide) ?_
      refine JL_v (vo_load rfl (by first | exact .frz ‹_› | exact .own (by repeat (first | exact .head _ | refine .tail _ ?_))) (by first | exact .cell Try.underlying3 rfl rfl | exact pa_val_sum _)) nofun (by decide) ?_
      refine JL_v (vo_cmp rfl rfl rfl) nofun (by decide) ?_
      refine JL_v (vo_move rfl) nofun (by decide) ?_
      refine JL_case 31 rfl (fun hg31 => ?_) (fun hg31 => ?_)
      · refine JL_yes rfl rfl ?_
        refine JL_v (vo_fieldAddr rfl fo24_1) nofun (by decide) ?_
        refine JL_yes rfl rfl ?_
        refine JL_v (vo_load rfl (by first | exact .frz ‹_› | exact .own (by repeat (first | exact .head _ | refine .tail _ ?_))) (by first | exact .cell Try.underlying3 rfl rfl | exact pa_val_sum _)) nofun (by decide) ?_
        refine JL_yes rfl rfl ?_
        refine JL_v (vo_cmp rfl rfl rfl) nofun (by decide) ?_
        refine JL_v (vo_pick rfl rfl) nofun (by decide) ?_
        refine JL_v (vo_move rfl) nofun (by decide) ?_
        refine JL_case 36 rfl (fun hg36 => ?_) (fun hg36 => ?_)
        · refine JL_yes rfl rfl ?_
          refine JL_v (vo_fieldAddr rfl fo24_2) nofun (by decide) ?_
          refine JL_yes rfl rfl ?_
          refine JL_v (vo_load rfl (by first | exact .frz ‹_› | exact .own (by repeat (first | exact .head _ | refine .tail _ ?_))) (by first | exact .cell Try.underlying3 rfl rfl | exact pa_val_sum _)) nofun (by decide) ?_
          refine JL_yes rfl rfl ?_
          refine JL_v (vo_cmp rfl rfl rfl) nofun (by decide) ?_
          refine JL_v (vo_pick rfl rfl) nofun (by decide) ?_
          refine JL_v (vo_move rfl) nofun (by decide) ?_
          refine JL_case 41 rfl (fun hg41 => ?_) (fun hg41 => ?_)
          · refine JL_yes rfl rfl ?_
            refine JL_v (vo_fieldAddr rfl fo24_2) nofun (by decide) ?_
            refine JL_yes rfl rfl ?_
            refine JL_v (vo_load rfl (by first | exact .frz ‹_› | exact .own (by repeat (first | exact .head _ | refine .tail _ ?_))) (by first | exact .cell Try.underlying3 rfl rfl | exact pa_val_sum _)) nofun (by decide) ?_
            refine JL_yes rfl rfl ?_
            refine JL_v (vo_cmp rfl rfl rfl) nofun (by decide) ?_
            refine JL_v (vo_pick rfl rfl) nofun (by decide) ?_
            refine JL_v (vo_assign rfl) nofun (by decide) ?_
            refine JL_nil ?_
            refine JX_then ?_
            refine JC_ret ?_
            refine JX_block_ret ?_
            refine JX_then_ret ?_
            refine ret1 rfl rfl ?_
            intro w1 hM; refine SC_end hM ?_; congr 1; simp_all [rightB] <;> grind
          · refine JL_no rfl rfl (by decide) ?_
            refine JL_no rfl rfl (by decide) ?_
            refine JL_no rfl rfl (by decide) ?_
            refine JL_v (vo_pick rfl rfl) nofun (by decide) ?_
            refine JL_v (vo_assign rfl) nofun (by decide) ?_
            refine JL_nil ?_
            refine JX_then ?_
            refine JC_ret ?_
            refine JX_block_ret ?_
            refine JX_then_ret ?_
            refine ret1 rfl rfl ?_
            intro w1 hM; refine SC_end hM ?_; congr 1; simp_all [rightB] <;> grind
        · refine JL_no rfl rfl (by decide) ?_
          refine JL_no rfl rfl (by decide) ?_
          refine JL_no rfl rfl (by decide) ?_
          refine JL_v (vo_pick rfl rfl) nofun (by decide) ?_
          refine JL_v (vo_move rfl) nofun (by decide) ?_
          refine JL_no rfl rfl (by decide) ?_
          refine JL_no rfl rfl (by decide) ?_
          refine JL_no rfl rfl (by decide) ?_
          refine JL_v (vo_pick rfl rfl) nofun (by decide) ?_
          refine JL_v (vo_assign rfl) nofun (by decide) ?_
          refine JL_nil ?_
          refine JX_then ?_
          refine JC_ret ?_
          refine JX_block_ret ?_
          refine JX_then_ret ?_
          refine ret1 rfl rfl ?_
          intro w1 hM; refine SC_end hM ?_; congr 1; simp_all [rightB] <;> grind
      · refine JL_no rfl rfl (by decide) ?_
        refine JL_no rfl rfl (by decide) ?_
        refine JL_no rfl rfl (by decide) ?_
        refine JL_v (vo_pick rfl rfl) nofun (by decide) ?_
        refine JL_v (vo_move rfl) nofun (by decide) ?_
        refine JL_no rfl rfl (by decide) ?_
        refine JL_no rfl rfl (by decide) ?_
        refine JL_no rfl rfl (by decide) ?_
        refine JL_v (vo_pick rfl rfl) nofun (by decide) ?_
        refine JL_v (vo_move rfl) nofun (by decide) ?_
        refine JL_no rfl rfl (by decide) ?_
        refine JL_no rfl rfl (by decide) ?_
        refine JL_no rfl rfl (by decide) ?_
        refine JL_v (vo_pick rfl rfl) nofun (by decide) ?_
        refine JL_v (vo_assign rfl) nofun (by decide) ?_
        refine JL_nil ?_
        refine JX_then ?_
        refine JC_ret ?_
        refine JX_block_ret ?_
        refine JX_then_ret ?_
        refine ret1 rfl rfl ?_
        intro w1 hM; refine SC_end hM ?_; congr 1; simp_all [rightB] <;> grind
    · refine JC_seq ?_
      refine JC_region ?_
      refine JL_v (vo_cmp rfl rfl rfl) nofun (by decide) ?_
      refine JL_v (vo_assign rfl) nofun (by decide) ?_
      refine JL_nil ?_
      refine JX_then ?_
      refine JC_cond _ rfl (fun hc46 => ?_) (fun hc46 => ?_)
      · refine JC_seq ?_
        refine JC_region ?_
        refine JL_v (vo_fieldAddr rfl fo24_1) nofun (by decide) ?_
        refine JL_v (vo_load rfl (by first | exact .frz ‹_› | exact .own (by repeat (first | exact .head _ | refine .tail _ ?_))) (by first | exact .cell Try.underlying3 rfl rfl | exact pa_val_sum _)) nofun (by decide) ?_
        refine JL_v (vo_cmp rfl rfl rfl) nofun (by decide) ?_
        refine JL_v (vo_move rfl) nofun (by decide) ?_
        refine JL_case 51 rfl (fun hg51 => ?_) (fun hg51 => ?_)
        · refine JL_yes rfl rfl ?_
          refine JL_v (vo_fieldAddr rfl fo24_2) nofun (by decide) ?_
          refine JL_yes rfl rfl ?_
          refine JL_v (vo_load rfl (by first | exact .frz ‹_› | exact .own (by repeat (first | exact .head _ | refine .tail _ ?_))) (by first | exact .cell Try.underlying3 rfl rfl | exact pa_val_sum _)) nofun (by decide) ?_
          refine JL_yes rfl rfl ?_
          refine JL_v (vo_cmp rfl rfl rfl) nofun (by decide) ?_
          refine JL_v (vo_pick rfl rfl) nofun (by decide) ?_
          refine JL_v (vo_move rfl) nofun (by decide) ?_
          refine JL_case 56 rfl (fun hg56 => ?_) (fun hg56 => ?_)
          · refine JL_yes rfl rfl ?_
            refine JL_v (vo_fieldAddr rfl fo24_2) nofun (by decide) ?_
            refine JL_yes rfl rfl ?_
            refine JL_v (vo_load rfl (by first | exact .frz ‹_› | exact .own (by repeat (first | exact .head _ | refine .tail _ ?_))) (by first | exact .cell Try.underlying3 rfl rfl | exact pa_val_sum _)) nofun (by decide) ?_
            refine JL_yes rfl rfl ?_
            refine JL_v (vo_cmp rfl rfl rfl) nofun (by decide) ?_
            refine JL_v (vo_pick rfl rfl) nofun (by decide) ?_
            refine JL_v (vo_assign rfl) nofun (by decide) ?_
            refine JL_nil ?_
            refine JX_then ?_
            refine JC_ret ?_
            refine JX_block_ret ?_
            refine JX_then_ret ?_
            refine ret1 rfl rfl ?_
            intro w1 hM; refine SC_end hM ?_; congr 1; simp_all [rightB] <;> grind
          · refine JL_no rfl rfl (by decide) ?_
            refine JL_no rfl rfl (by decide) ?_
            refine JL_no rfl rfl (by decide) ?_
            refine JL_v (vo_pick rfl rfl) nofun (by decide) ?_
            refine JL_v (vo_assign rfl) nofun (by decide) ?_
            refine JL_nil ?_
            refine JX_then ?_
            refine JC_ret ?_
            refine JX_block_ret ?_
            refine JX_then_ret ?_
            refine ret1 rfl rfl ?_
            intro w1 hM; refine SC_end hM ?_; congr 1; simp_all [rightB] <;> grind
        · refine JL_no rfl rfl (by decide) ?_
          refine JL_no rfl rfl (by decide) ?_
          refine JL_no rfl rfl (by decide) ?_
          refine JL_v (vo_pick rfl rfl) nofun (by decide) ?_
          refine JL_v (vo_move rfl) nofun (by decide) ?_
          refine JL_no rfl rfl (by decide) ?_
          refine JL_no rfl rfl (by decide) ?_
          refine JL_no rfl rfl (by decide) ?_
          refine JL_v (vo_pick rfl rfl) nofun (by decide) ?_
          refine JL_v (vo_assign rfl) nofun (by decide) ?_
          refine JL_nil ?_
          refine JX_then ?_
          refine JC_ret ?_
          refine JX_block_ret ?_
          refine JX_then_ret ?_
          refine ret1 rfl rfl ?_
          intro w1 hM; refine SC_end hM ?_; congr 1; simp_all [rightB] <;> grind
      · refine JC_skip ?_
        refine JX_block ?_
        refine JX_then ?_
        refine JC_seq ?_
        refine JC_region ?_
        refine JL_v (vo_assign rfl) nofun (by decide) ?_
        refine JL_nil ?_
        refine JX_then ?_
        refine JC_ret ?_
        refine ret1 rfl rfl ?_
        intro w1 hM; refine SC_end hM ?_; congr 1; simp_all [rightB] <;> grind
set_option maxRecDepth 8000 in
set_option maxHeartbeats 1000000 in
theorem own_spec (v : Val) (m : Mk2) (n : Int) (w : World)  : SCalls Try.prog 60 #[.agg (valC v).toArray, .agg (mk2C m).toArray, .int .i64 n] w (fun u => u = .int .i64 (ownB v m n)) := by
  refine enter (N := 49) Try.func60 rfl Try.ntmps60 (Nat.le_of_ble_eq_true rfl) [(0, .agg (valC v).toArray), (1, .agg (mk2C m).toArray), (2, .int .i64 n)] (by repeat (first | exact trivial | refine ⟨rfl, ?_⟩)) (Mem.start w (fun _ => False) (fun b => b < w.heap.size) (fun _ h => h)) ?_
  refine JC_seq ?_
  refine JC_region ?_
  refine st_box rfl (by decide) (fun b3 => ?_)
  refine st_box rfl (by decide) (fun b4 => ?_)
  refine JL_v (vo_assign rfl) nofun (by decide) ?_
  refine JL_nil ?_
  refine JX_then ?_
  refine JC_seq ?_
  refine JC_seq ?_
  refine JC_joinB 23 (decide (v.kind < 1) || decide (v.kind > 3) || (v.kind != 1 && decide (n > 0))) ?_ ?_
  · refine JC_region ?_
    refine JL_v (vo_fieldAddr rfl fo24_0) nofun (by decide) ?_
    refine JL_v (vo_load rfl (by first | exact .frz ‹_› | exact .own (by repeat (first | exact .head _ | refine .tail _ ?_))) (by first | exact .cell Try.underlying3 rfl rfl | exact pa_mk2_a _ | exact pa_mk2_b _)) nofun (by decide) ?_
    refine JL_v (vo_cmp rfl rfl rfl) nofun (by decide) ?_
    refine JL_v (vo_move rfl) nofun (by decide) ?_
    refine JL_case 10 rfl (fun hg10 => ?_) (fun hg10 => ?_)
    · refine JL_no rfl rfl (by decide) ?_
      refine JL_no rfl rfl (by decide) ?_
      refine JL_no rfl rfl (by decide) ?_
      refine JL_v (vo_pick rfl rfl) nofun (by decide) ?_
      refine JL_v (vo_move rfl) nofun (by decide) ?_
      refine JL_no rfl rfl (by decide) ?_
      refine JL_no rfl rfl (by decide) ?_
      refine JL_no rfl rfl (by decide) ?_
      refine JL_no rfl rfl (by decide) ?_
      refine JL_nou rfl rfl (by decide) ?_
      refine JL_nou rfl rfl (by decide) ?_
      refine JL_no rfl rfl (by decide) ?_
      refine JL_v (vo_pick rfl rfl) nofun (by decide) ?_
      refine JL_nil ?_
      refine JX_joinB _ ⟨rfl, (by repeat (first | exact trivial | refine ⟨rfl, ?_⟩ | refine ⟨trivial, ?_⟩))⟩ ?_
      simp_all <;> first | omega | grind
    · refine JL_yes rfl rfl ?_
      refine JL_v (vo_fieldAddr rfl fo24_0) nofun (by decide) ?_
      refine JL_yes rfl rfl ?_
      refine JL_v (vo_load rfl (by first | exact .frz ‹_› | exact .own (by repeat (first | exact .head _ | refine .tail _ ?_))) (by first | exact .cell Try.underlying3 rfl rfl | exact pa_mk2_a _ | exact pa_mk2_b _)) nofun (by decide) ?_
      refine JL_yes rfl rfl ?_
      refine JL_v (vo_cmp rfl rfl rfl) nofun (by decide) ?_
      refine JL_v (vo_pick rfl rfl) nofun (by decide) ?_
      refine JL_v (vo_move rfl) nofun (by decide) ?_
      refine JL_case 15 rfl (fun hg15 => ?_) (fun hg15 => ?_)
      · refine JL_no rfl rfl (by decide) ?_
        refine JL_no rfl rfl (by decide) ?_
        refine JL_no rfl rfl (by decide) ?_
        refine JL_no rfl rfl (by decide) ?_
        refine JL_nou rfl rfl (by decide) ?_
        refine JL_nou rfl rfl (by decide) ?_
        refine JL_no rfl rfl (by decide) ?_
        refine JL_v (vo_pick rfl rfl) nofun (by decide) ?_
        refine JL_nil ?_
        refine JX_joinB _ ⟨rfl, (by repeat (first | exact trivial | refine ⟨rfl, ?_⟩ | refine ⟨trivial, ?_⟩))⟩ ?_
        simp_all <;> first | omega | grind
      · refine JL_yes rfl rfl ?_
        refine JL_v (vo_fieldAddr rfl fo24_0) nofun (by decide) ?_
        refine JL_yes rfl rfl ?_
        refine JL_v (vo_load rfl (by first | exact .frz ‹_› | exact .own (by repeat (first | exact .head _ | refine .tail _ ?_))) (by first | exact .cell Try.underlying3 rfl rfl | exact pa_mk2_a _ | exact pa_mk2_b _)) nofun (by decide) ?_
        refine JL_yes rfl rfl ?_
        refine JL_v (vo_cmp rfl rfl rfl) nofun (by decide) ?_
        refine JL_yes rfl rfl ?_
        refine JL_v (vo_move rfl) nofun (by decide) ?_
        refine JL_case 19 rfl (fun hg19 => ?_) (fun hg19 => ?_)
        · refine JL_yes rfl rfl ?_
          refine JL_v (vo_move rfl) nofun (by decide) ?_
          refine JL_yes rfl rfl ?_
          refine JL_v (vo_cmp rfl rfl rfl) nofun (by decide) ?_
          refine JL_yes rfl rfl ?_
          refine JL_v (vo_pick rfl rfl) nofun (by decide) ?_
          refine JL_v (vo_pick rfl rfl) nofun (by decide) ?_
          refine JL_nil ?_
          refine JX_joinB _ ⟨rfl, (by repeat (first | exact trivial | refine ⟨rfl, ?_⟩ | refine ⟨trivial, ?_⟩))⟩ ?_
          simp_all <;> first | omega | grind
        · refine JL_no rfl rfl (by decide) ?_
          refine JL_no rfl rfl (by decide) ?_
          refine JL_yes rfl rfl ?_
          refine JL_v (vo_pick rfl rfl) nofun (by decide) ?_
          refine JL_v (vo_pick rfl rfl) nofun (by decide) ?_
          refine JL_nil ?_
          refine JX_joinB _ ⟨rfl, (by repeat (first | exact trivial | refine ⟨rfl, ?_⟩ | refine ⟨trivial, ?_⟩))⟩ ?_
          simp_all <;> first | omega | grind
  · refine JX_then ?_
    refine JC_cond _ rfl (fun hc23 => ?_) (fun hc23 => ?_)
    · refine JC_seq ?_
      refine JC_region ?_
      refine JL_v (vo_assign rfl) nofun (by decide) ?_
      refine JL_nil ?_
      refine JX_then ?_
      refine JC_ret ?_
      refine JX_then_ret ?_
      refine ret1 rfl rfl ?_
      intro w1 hM; refine SC_end hM ?_; congr 1; simp_all [ownB] <;> grind
    · refine JC_skip ?_
      refine JX_then ?_
      refine JC_seq ?_
      refine JC_seq ?_
      refine JC_joinB 48 (!rightB v || !markB m.a || !markB m.b || (v.kind != 2 && !mk2Eq m ⟨⟨0,0⟩,⟨0,0⟩⟩)) ?_ ?_
      · refine JC_region ?_
        refine JL_v (vo_load rfl (by first | exact .frz ‹_› | exact .own (by repeat (first | exact .head _ | refine .tail _ ?_))) (by first | exact PartAt.whole Try.underlying24 rfl sz24 | exact pa_mk2_a _ | exact pa_mk2_b _)) nofun (by decide) ?_
        refine st_scall rfl en102 (by decide) (fun w hw => right_spec _ w) ?_
        rintro _ rfl
        refine JL_v (vo_not rfl) nofun (by decide) ?_
        refine JL_v (vo_move rfl) nofun (by decide) ?_
        refine JL_case 27 rfl (fun hg27 => ?_) (fun hg27 => ?_)
        · refine JL_no rfl rfl (by decide) ?_
          refine JL_no rfl rfl (by decide) ?_
          refine JL_no rfl rfl (by decide) ?_
          refine JL_no rfl rfl (by decide) ?_
          refine JL_v (vo_pick rfl rfl) nofun (by decide) ?_
          refine JL_v (vo_move rfl) nofun (by decide) ?_
          refine JL_no rfl rfl (by decide) ?_
          refine JL_no rfl rfl (by decide) ?_
          refine JL_no rfl rfl (by decide) ?_
          refine JL_no rfl rfl (by decide) ?_
          refine JL_v (vo_pick rfl rfl) nofun (by decide) ?_
          refine JL_v (vo_move rfl) nofun (by decide) ?_
          refine JL_no rfl rfl (by decide) ?_
          refine JL_no rfl rfl (by decide) ?_
          refine JL_no rfl rfl (by decide) ?_
          refine JL_no rfl rfl (by decide) ?_
          refine JL_nou rfl rfl (by decide) ?_
          refine JL_nou rfl rfl (by decide) ?_
          refine JL_nou rfl rfl (by decide) ?_
          refine JL_no rfl rfl (by decide) ?_
          refine JL_v (vo_pick rfl rfl) nofun (by decide) ?_
          refine JL_nil ?_
          refine JX_joinB _ ⟨rfl, (by repeat (first | exact trivial | refine ⟨rfl, ?_⟩ | refine ⟨trivial, ?_⟩))⟩ ?_
          simp_all <;> first | omega | grind
        · refine JL_yes rfl rfl ?_
          refine JL_v (vo_indexAddrA rfl rfl Try.underlying27 sz26 (by omega) (by omega)) nofun (by decide) ?_
          refine JL_yes rfl rfl ?_
          refine JL_v (vo_load rfl (by first | exact .frz ‹_› | exact .own (by repeat (first | exact .head _ | refine .tail _ ?_))) (by first | exact PartAt.whole Try.underlying26 rfl sz26 | exact pa_mk2_a _ | exact pa_mk2_b _)) nofun (by decide) ?_
          refine JL_yes rfl rfl ?_
          refine st_scall rfl en103 (by decide) (fun w hw => mark_spec _ w) ?_
          rintro _ rfl
          refine JL_yes rfl rfl ?_
          refine JL_v (vo_not rfl) nofun (by decide) ?_
          refine JL_v (vo_pick rfl rfl) nofun (by decide) ?_
          refine JL_v (vo_move rfl) nofun (by decide) ?_
          refine JL_case 33 rfl (fun hg33 => ?_) (fun hg33 => ?_)
          · refine JL_no rfl rfl (by decide) ?_
            refine JL_no rfl rfl (by decide) ?_
            refine JL_no rfl rfl (by decide) ?_
            refine JL_no rfl rfl (by decide) ?_
            refine JL_v (vo_pick rfl rfl) nofun (by decide) ?_
            refine JL_v (vo_move rfl) nofun (by decide) ?_
            refine JL_no rfl rfl (by decide) ?_
            refine JL_no rfl rfl (by decide) ?_
            refine JL_no rfl rfl (by decide) ?_
            refine JL_no rfl rfl (by decide) ?_
            refine JL_nou rfl rfl (by decide) ?_
            refine JL_nou rfl rfl (by decide) ?_
            refine JL_nou rfl rfl (by decide) ?_
            refine JL_no rfl rfl (by decide) ?_
            refine JL_v (vo_pick rfl rfl) nofun (by decide) ?_
            refine JL_nil ?_
            refine JX_joinB _ ⟨rfl, (by repeat (first | exact trivial | refine ⟨rfl, ?_⟩ | refine ⟨trivial, ?_⟩))⟩ ?_
            simp_all <;> first | omega | grind
          · refine JL_yes rfl rfl ?_
            refine JL_v (vo_indexAddrA rfl rfl Try.underlying27 sz26 (by omega) (by omega)) nofun (by decide) ?_
            refine JL_yes rfl rfl ?_
            refine JL_v (vo_load rfl (by first | exact .frz ‹_› | exact .own (by repeat (first | exact .head _ | refine .tail _ ?_))) (by first | exact PartAt.whole Try.underlying26 rfl sz26 | exact pa_mk2_a _ | exact pa_mk2_b _)) nofun (by decide) ?_
            refine JL_yes rfl rfl ?_
            refine st_scall rfl en103 (by decide) (fun w hw => mark_spec _ w) ?_
            rintro _ rfl
            refine JL_yes rfl rfl ?_
            refine JL_v (vo_not rfl) nofun (by decide) ?_
            refine JL_v (vo_pick rfl rfl) nofun (by decide) ?_
            refine JL_v (vo_move rfl) nofun (by decide) ?_
            refine JL_case 39 rfl (fun hg39 => ?_) (fun hg39 => ?_)
            · refine JL_no rfl rfl (by decide) ?_
              refine JL_no rfl rfl (by decide) ?_
              refine JL_no rfl rfl (by decide) ?_
              refine JL_no rfl rfl (by decide) ?_
              refine JL_nou rfl rfl (by decide) ?_
              refine JL_nou rfl rfl (by decide) ?_
              refine JL_nou rfl rfl (by decide) ?_
              refine JL_no rfl rfl (by decide) ?_
              refine JL_v (vo_pick rfl rfl) nofun (by decide) ?_
              refine JL_nil ?_
              refine JX_joinB _ ⟨rfl, (by repeat (first | exact trivial | refine ⟨rfl, ?_⟩ | refine ⟨trivial, ?_⟩))⟩ ?_
              simp_all <;> first | omega | grind
            · refine JL_yes rfl rfl ?_
              refine JL_v (vo_fieldAddr rfl fo24_0) nofun (by decide) ?_
              refine JL_yes rfl rfl ?_
              refine JL_v (vo_load rfl (by first | exact .frz ‹_› | exact .own (by repeat (first | exact .head _ | refine .tail _ ?_))) (by first | exact .cell Try.underlying3 rfl rfl | exact pa_mk2_a _ | exact pa_mk2_b _)) nofun (by decide) ?_
              refine JL_yes rfl rfl ?_
              refine JL_v (vo_cmp rfl rfl rfl) nofun (by decide) ?_
              refine JL_yes rfl rfl ?_
              refine JL_v (vo_move rfl) nofun (by decide) ?_
              refine JL_case 43 rfl (fun hg43 => ?_) (fun hg43 => ?_)
              · refine JL_yes rfl rfl ?_
                refine JL_v (vo_load rfl (by first | exact .frz ‹_› | exact .own (by repeat (first | exact .head _ | refine .tail _ ?_))) (by first | exact PartAt.whole Try.underlying27 rfl sz27 | exact pa_mk2_a _ | exact pa_mk2_b _)) nofun (by decide) ?_
                refine JL_yes rfl rfl ?_
                refine JL_v (vo_build rfl (by first | exact bl27)) nofun (by decide) ?_
                refine JL_yes rfl rfl ?_
                refine JL_v (vo_eqS rfl rfl rfl eg27 (eqv27 _ _)) nofun (by decide) ?_
                refine JL_yes rfl rfl ?_
                refine JL_v (vo_pick rfl rfl) nofun (by decide) ?_
                refine JL_v (vo_pick rfl rfl) nofun (by decide) ?_
                refine JL_nil ?_
                refine JX_joinB _ ⟨rfl, (by repeat (first | exact trivial | refine ⟨rfl, ?_⟩ | refine ⟨trivial, ?_⟩))⟩ ?_
                simp_all <;> first | omega | grind
              · refine JL_no rfl rfl (by decide) ?_
                refine JL_no rfl rfl (by decide) ?_
                refine JL_no rfl rfl (by decide) ?_
                refine JL_yes rfl rfl ?_
                refine JL_v (vo_pick rfl rfl) nofun (by decide) ?_
                refine JL_v (vo_pick rfl rfl) nofun (by decide) ?_
                refine JL_nil ?_
                refine JX_joinB _ ⟨rfl, (by repeat (first | exact trivial | refine ⟨rfl, ?_⟩ | refine ⟨trivial, ?_⟩))⟩ ?_
                simp_all <;> first | omega | grind
      · refine JX_then ?_
        refine JC_cond _ rfl (fun hc48 => ?_) (fun hc48 => ?_)
        · refine JC_seq ?_
          refine JC_region ?_
          refine JL_v (vo_assign rfl) nofun (by decide) ?_
          refine JL_nil ?_
          refine JX_then ?_
          refine JC_ret ?_
          refine JX_then_ret ?_
          refine ret1 rfl rfl ?_
          intro w1 hM; refine SC_end hM ?_; congr 1; simp_all [ownB] <;> grind
        · refine JC_skip ?_
          refine JX_then ?_
          refine JC_seq ?_
          refine JC_region ?_
          refine JL_v (vo_assign rfl) nofun (by decide) ?_
          refine JL_nil ?_
          refine JX_then ?_
          refine JC_ret ?_
          refine ret1 rfl rfl ?_
          intro w1 hM; refine SC_end hM ?_; congr 1; simp_all [ownB] <;> grind

end Go.Eng
