/-
  Part of the proofs over this seat: L3. Own work; imports the kit.
-/
import Derived.Test.YtdcafpemkpcmpaaRoom1
set_option linter.unusedVariables false
set_option linter.unusedSimpArgs false
namespace Go.Eng
open Go Go.RowKit Go.Proofs
theorem en65 : Enters Try.prog 65 := ⟨_, Try.func65, by kernel_rfl, by kernel_rfl⟩
theorem en66 : Enters Try.prog 66 := ⟨_, Try.func66, by kernel_rfl, by kernel_rfl⟩
theorem en67 : Enters Try.prog 67 := ⟨_, Try.func67, by kernel_rfl, by kernel_rfl⟩
theorem en68 : Enters Try.prog 68 := ⟨_, Try.func68, by kernel_rfl, by kernel_rfl⟩
theorem en69 : Enters Try.prog 69 := ⟨_, Try.func69, by kernel_rfl, by kernel_rfl⟩
theorem en70 : Enters Try.prog 70 := ⟨_, Try.func70, by kernel_rfl, by kernel_rfl⟩
theorem en71 : Enters Try.prog 71 := ⟨_, Try.func71, by kernel_rfl, by kernel_rfl⟩
theorem en72 : Enters Try.prog 72 := ⟨_, Try.func72, by kernel_rfl, by kernel_rfl⟩
theorem en73 : Enters Try.prog 73 := ⟨_, Try.func73, by kernel_rfl, by kernel_rfl⟩
theorem en74 : Enters Try.prog 74 := ⟨_, Try.func74, by kernel_rfl, by kernel_rfl⟩
theorem en75 : Enters Try.prog 75 := ⟨_, Try.func75, by kernel_rfl, by kernel_rfl⟩
theorem en76 : Enters Try.prog 76 := ⟨_, Try.func76, by kernel_rfl, by kernel_rfl⟩
theorem en77 : Enters Try.prog 77 := ⟨_, Try.func77, by kernel_rfl, by kernel_rfl⟩
theorem fo48_0 : fieldOff Try.prog 48 0 = some 0 := by kernel_rfl
theorem fo48_10 : fieldOff Try.prog 48 10 = some 10 := by kernel_rfl
theorem fo48_12 : fieldOff Try.prog 48 12 = some 12 := by kernel_rfl
theorem fo48_14 : fieldOff Try.prog 48 14 = some 14 := by kernel_rfl
theorem fo48_16 : fieldOff Try.prog 48 16 = some 16 := by kernel_rfl
theorem fo48_18 : fieldOff Try.prog 48 18 = some 18 := by kernel_rfl
theorem fo48_2 : fieldOff Try.prog 48 2 = some 2 := by kernel_rfl
theorem fo48_20 : fieldOff Try.prog 48 20 = some 20 := by kernel_rfl
theorem fo48_24 : fieldOff Try.prog 48 24 = some 24 := by kernel_rfl
theorem fo48_4 : fieldOff Try.prog 48 4 = some 4 := by kernel_rfl
theorem fo48_6 : fieldOff Try.prog 48 6 = some 6 := by kernel_rfl
theorem fo48_8 : fieldOff Try.prog 48 8 = some 8 := by kernel_rfl

set_option maxRecDepth 8000 in
set_option maxHeartbeats 1000000 in
theorem hold65_spec (rm : Nat) (v22 v23 : Value) (w : World) (hb : FB (fun b => b < w.heap.size) w rm (roomN v22 v23)) : SCalls Try.prog 65 #[.pointer (some ⟨rm, 0, none⟩)] w (fun u => u = .bool true) := by
  unfold roomN at hb
  refine enter (N := 53) Try.func65 rfl Try.ntmps65 (Nat.le_of_ble_eq_true rfl) [(0, .pointer (some ⟨rm, 0, none⟩))] (by repeat (first | exact trivial | refine ⟨rfl, ?_⟩)) (Mem.start w (fun _ => False) (fun b => b < w.heap.size) (fun _ h => h)) ?_
  refine JC_seq ?_
  refine JC_region ?_
  refine JL_v (vo_assign rfl) nofun (by decide) ?_
  refine JL_nil ?_
  refine JX_then ?_
  refine JC_seq ?_
  refine JC_seq ?_
  refine JC_region ?_
  refine JL_v (vo_assign rfl) nofun (by decide) ?_
  refine JL_nil ?_
  refine JX_then ?_
  refine JC_block ?_
  refine JC_loop (α := Unit) (fun _ => [(0, .pointer (some ⟨rm, 0, none⟩)), (3, .int .i64 0)]) (fun _ => Mem w (fun _ => False) (fun b => b < w.heap.size) (fun b => b < w.heap.size) w  []) (fun _ => 0) () (by repeat (first | exact trivial | refine ⟨rfl, ?_⟩ | refine ⟨trivial, ?_⟩)) (fun w hw => hw) ?_
  rintro _
  refine JC_seq ?_
  refine JC_seq ?_
  refine JC_region ?_
  refine JL_v (vo_move rfl) nofun (by decide) ?_
  refine JL_v (vo_move rfl) nofun (by decide) ?_
  refine JL_v ((by first | exact vo_nilCheck rfl | exact vo_nilCheckF rfl)) nofun (by decide) ?_
  refine JL_v (vo_fieldAddr rfl fo48_0) nofun (by decide) ?_
  refine JL_v (vo_load rfl (by first | exact .frz ‹_› | exact .own (by repeat (first | exact .head _ | refine .tail _ ?_))) (by first | exact .cell Try.underlying33 rfl rfl)) nofun (by decide) ?_
  refine JL_v (vo_len rfl Try.underlying33) nofun (by decide) ?_
  refine JL_v (vo_cmp rfl rfl rfl) nofun (by decide) ?_
  refine JL_nil ?_
  refine JX_then ?_
  refine JC_cond _ rfl (fun hc13 => ?_) (fun hc13 => ?_)
  · exact absurd hc13 (by decide)
  · refine JC_exit ?_
    refine JX_then_exit ?_
    refine JX_thenK_exit ?_
    refine JX_block_exit ?_
    refine JX_then ?_
    refine JC_seq ?_
    refine JC_region ?_
    refine JL_v (vo_assign rfl) nofun (by decide) ?_
    refine JL_nil ?_
    refine JX_then ?_
    refine JC_ret ?_
    refine ret1 rfl rfl ?_
    intro w1 hM; exact SC_end hM rfl
set_option maxRecDepth 8000 in
set_option maxHeartbeats 1000000 in
theorem hold66_spec (rm : Nat) (v22 v23 : Value) (w : World) (hb : FB (fun b => b < w.heap.size) w rm (roomN v22 v23)) : SCalls Try.prog 66 #[.pointer (some ⟨rm, 0, none⟩)] w (fun u => u = .bool true) := by
  unfold roomN at hb
  refine enter (N := 52) Try.func66 rfl Try.ntmps66 (Nat.le_of_ble_eq_true rfl) [(0, .pointer (some ⟨rm, 0, none⟩))] (by repeat (first | exact trivial | refine ⟨rfl, ?_⟩)) (Mem.start w (fun _ => False) (fun b => b < w.heap.size) (fun _ h => h)) ?_
  refine JC_seq ?_
  refine JC_region ?_
  refine JL_v (vo_assign rfl) nofun (by decide) ?_
  refine JL_nil ?_
  refine JX_then ?_
  refine JC_seq ?_
  refine JC_seq ?_
  refine JC_region ?_
  refine JL_v (vo_assign rfl) nofun (by decide) ?_
  refine JL_nil ?_
  refine JX_then ?_
  refine JC_block ?_
  refine JC_loop (α := Unit) (fun _ => [(0, .pointer (some ⟨rm, 0, none⟩)), (3, .int .i64 0)]) (fun _ => Mem w (fun _ => False) (fun b => b < w.heap.size) (fun b => b < w.heap.size) w  []) (fun _ => 0) () (by repeat (first | exact trivial | refine ⟨rfl, ?_⟩ | refine ⟨trivial, ?_⟩)) (fun w hw => hw) ?_
  rintro _
  refine JC_seq ?_
  refine JC_seq ?_
  refine JC_region ?_
  refine JL_v (vo_move rfl) nofun (by decide) ?_
  refine JL_v (vo_move rfl) nofun (by decide) ?_
  refine JL_v ((by first | exact vo_nilCheck rfl | exact vo_nilCheckF rfl)) nofun (by decide) ?_
  refine JL_v (vo_fieldAddr rfl fo48_2) nofun (by decide) ?_
  refine JL_v (vo_load rfl (by first | exact .frz ‹_› | exact .own (by repeat (first | exact .head _ | refine .tail _ ?_))) (by first | exact .cell Try.underlying35 rfl rfl)) nofun (by decide) ?_
  refine JL_v (vo_len rfl Try.underlying35) nofun (by decide) ?_
  refine JL_v (vo_cmp rfl rfl rfl) nofun (by decide) ?_
  refine JL_nil ?_
  refine JX_then ?_
  refine JC_cond _ rfl (fun hc13 => ?_) (fun hc13 => ?_)
  · exact absurd hc13 (by decide)
  · refine JC_exit ?_
    refine JX_then_exit ?_
    refine JX_thenK_exit ?_
    refine JX_block_exit ?_
    refine JX_then ?_
    refine JC_seq ?_
    refine JC_region ?_
    refine JL_v (vo_assign rfl) nofun (by decide) ?_
    refine JL_nil ?_
    refine JX_then ?_
    refine JC_ret ?_
    refine ret1 rfl rfl ?_
    intro w1 hM; exact SC_end hM rfl
set_option maxRecDepth 8000 in
set_option maxHeartbeats 1000000 in
theorem hold67_spec (rm : Nat) (v22 v23 : Value) (w : World) (hb : FB (fun b => b < w.heap.size) w rm (roomN v22 v23)) : SCalls Try.prog 67 #[.pointer (some ⟨rm, 0, none⟩)] w (fun u => u = .bool true) := by
  unfold roomN at hb
  refine enter (N := 52) Try.func67 rfl Try.ntmps67 (Nat.le_of_ble_eq_true rfl) [(0, .pointer (some ⟨rm, 0, none⟩))] (by repeat (first | exact trivial | refine ⟨rfl, ?_⟩)) (Mem.start w (fun _ => False) (fun b => b < w.heap.size) (fun _ h => h)) ?_
  refine JC_seq ?_
  refine JC_region ?_
  refine JL_v (vo_assign rfl) nofun (by decide) ?_
  refine JL_nil ?_
  refine JX_then ?_
  refine JC_seq ?_
  refine JC_seq ?_
  refine JC_region ?_
  refine JL_v (vo_assign rfl) nofun (by decide) ?_
  refine JL_nil ?_
  refine JX_then ?_
  refine JC_block ?_
  refine JC_loop (α := Unit) (fun _ => [(0, .pointer (some ⟨rm, 0, none⟩)), (3, .int .i64 0)]) (fun _ => Mem w (fun _ => False) (fun b => b < w.heap.size) (fun b => b < w.heap.size) w  []) (fun _ => 0) () (by repeat (first | exact trivial | refine ⟨rfl, ?_⟩ | refine ⟨trivial, ?_⟩)) (fun w hw => hw) ?_
  rintro _
  refine JC_seq ?_
  refine JC_seq ?_
  refine JC_region ?_
  refine JL_v (vo_move rfl) nofun (by decide) ?_
  refine JL_v (vo_move rfl) nofun (by decide) ?_
  refine JL_v ((by first | exact vo_nilCheck rfl | exact vo_nilCheckF rfl)) nofun (by decide) ?_
  refine JL_v (vo_fieldAddr rfl fo48_4) nofun (by decide) ?_
  refine JL_v (vo_load rfl (by first | exact .frz ‹_› | exact .own (by repeat (first | exact .head _ | refine .tail _ ?_))) (by first | exact .cell Try.underlying36 rfl rfl)) nofun (by decide) ?_
  refine JL_v (vo_len rfl Try.underlying36) nofun (by decide) ?_
  refine JL_v (vo_cmp rfl rfl rfl) nofun (by decide) ?_
  refine JL_nil ?_
  refine JX_then ?_
  refine JC_cond _ rfl (fun hc13 => ?_) (fun hc13 => ?_)
  · exact absurd hc13 (by decide)
  · refine JC_exit ?_
    refine JX_then_exit ?_
    refine JX_thenK_exit ?_
    refine JX_block_exit ?_
    refine JX_then ?_
    refine JC_seq ?_
    refine JC_region ?_
    refine JL_v (vo_assign rfl) nofun (by decide) ?_
    refine JL_nil ?_
    refine JX_then ?_
    refine JC_ret ?_
    refine ret1 rfl rfl ?_
    intro w1 hM; exact SC_end hM rfl
set_option maxRecDepth 8000 in
set_option maxHeartbeats 1000000 in
theorem hold68_spec (rm : Nat) (v22 v23 : Value) (w : World) (hb : FB (fun b => b < w.heap.size) w rm (roomN v22 v23)) : SCalls Try.prog 68 #[.pointer (some ⟨rm, 0, none⟩)] w (fun u => u = .bool true) := by
  unfold roomN at hb
  refine enter (N := 53) Try.func68 rfl Try.ntmps68 (Nat.le_of_ble_eq_true rfl) [(0, .pointer (some ⟨rm, 0, none⟩))] (by repeat (first | exact trivial | refine ⟨rfl, ?_⟩)) (Mem.start w (fun _ => False) (fun b => b < w.heap.size) (fun _ h => h)) ?_
  refine JC_seq ?_
  refine JC_region ?_
  refine JL_v (vo_assign rfl) nofun (by decide) ?_
  refine JL_nil ?_
  refine JX_then ?_
  refine JC_seq ?_
  refine JC_seq ?_
  refine JC_region ?_
  refine JL_v (vo_assign rfl) nofun (by decide) ?_
  refine JL_nil ?_
  refine JX_then ?_
  refine JC_block ?_
  refine JC_loop (α := Unit) (fun _ => [(0, .pointer (some ⟨rm, 0, none⟩)), (3, .int .i64 0)]) (fun _ => Mem w (fun _ => False) (fun b => b < w.heap.size) (fun b => b < w.heap.size) w  []) (fun _ => 0) () (by repeat (first | exact trivial | refine ⟨rfl, ?_⟩ | refine ⟨trivial, ?_⟩)) (fun w hw => hw) ?_
  rintro _
  refine JC_seq ?_
  refine JC_seq ?_
  refine JC_region ?_
  refine JL_v (vo_move rfl) nofun (by decide) ?_
  refine JL_v (vo_move rfl) nofun (by decide) ?_
  refine JL_v ((by first | exact vo_nilCheck rfl | exact vo_nilCheckF rfl)) nofun (by decide) ?_
  refine JL_v (vo_fieldAddr rfl fo48_6) nofun (by decide) ?_
  refine JL_v (vo_load rfl (by first | exact .frz ‹_› | exact .own (by repeat (first | exact .head _ | refine .tail _ ?_))) (by first | exact .cell Try.underlying37 rfl rfl)) nofun (by decide) ?_
  refine JL_v (vo_len rfl Try.underlying37) nofun (by decide) ?_
  refine JL_v (vo_cmp rfl rfl rfl) nofun (by decide) ?_
  refine JL_nil ?_
  refine JX_then ?_
  refine JC_cond _ rfl (fun hc13 => ?_) (fun hc13 => ?_)
  · exact absurd hc13 (by decide)
  · refine JC_exit ?_
    refine JX_then_exit ?_
    refine JX_thenK_exit ?_
    refine JX_block_exit ?_
    refine JX_then ?_
    refine JC_seq ?_
    refine JC_region ?_
    refine JL_v (vo_assign rfl) nofun (by decide) ?_
    refine JL_nil ?_
    refine JX_then ?_
    refine JC_ret ?_
    refine ret1 rfl rfl ?_
    intro w1 hM; exact SC_end hM rfl
set_option maxRecDepth 8000 in
set_option maxHeartbeats 1000000 in
theorem hold69_spec (rm : Nat) (v22 v23 : Value) (w : World) (hb : FB (fun b => b < w.heap.size) w rm (roomN v22 v23)) : SCalls Try.prog 69 #[.pointer (some ⟨rm, 0, none⟩)] w (fun u => u = .bool true) := by
  unfold roomN at hb
  refine enter (N := 53) Try.func69 rfl Try.ntmps69 (Nat.le_of_ble_eq_true rfl) [(0, .pointer (some ⟨rm, 0, none⟩))] (by repeat (first | exact trivial | refine ⟨rfl, ?_⟩)) (Mem.start w (fun _ => False) (fun b => b < w.heap.size) (fun _ h => h)) ?_
  refine JC_seq ?_
  refine JC_region ?_
  refine JL_v (vo_assign rfl) nofun (by decide) ?_
  refine JL_nil ?_
  refine JX_then ?_
  refine JC_seq ?_
  refine JC_seq ?_
  refine JC_region ?_
  refine JL_v (vo_assign rfl) nofun (by decide) ?_
  refine JL_nil ?_
  refine JX_then ?_
  refine JC_block ?_
  refine JC_loop (α := Unit) (fun _ => [(0, .pointer (some ⟨rm, 0, none⟩)), (3, .int .i64 0)]) (fun _ => Mem w (fun _ => False) (fun b => b < w.heap.size) (fun b => b < w.heap.size) w  []) (fun _ => 0) () (by repeat (first | exact trivial | refine ⟨rfl, ?_⟩ | refine ⟨trivial, ?_⟩)) (fun w hw => hw) ?_
  rintro _
  refine JC_seq ?_
  refine JC_seq ?_
  refine JC_region ?_
  refine JL_v (vo_move rfl) nofun (by decide) ?_
  refine JL_v (vo_move rfl) nofun (by decide) ?_
  refine JL_v ((by first | exact vo_nilCheck rfl | exact vo_nilCheckF rfl)) nofun (by decide) ?_
  refine JL_v (vo_fieldAddr rfl fo48_8) nofun (by decide) ?_
  refine JL_v (vo_load rfl (by first | exact .frz ‹_› | exact .own (by repeat (first | exact .head _ | refine .tail _ ?_))) (by first | exact .cell Try.underlying38 rfl rfl)) nofun (by decide) ?_
  refine JL_v (vo_len rfl Try.underlying38) nofun (by decide) ?_
  refine JL_v (vo_cmp rfl rfl rfl) nofun (by decide) ?_
  refine JL_nil ?_
  refine JX_then ?_
  refine JC_cond _ rfl (fun hc13 => ?_) (fun hc13 => ?_)
  · exact absurd hc13 (by decide)
  · refine JC_exit ?_
    refine JX_then_exit ?_
    refine JX_thenK_exit ?_
    refine JX_block_exit ?_
    refine JX_then ?_
    refine JC_seq ?_
    refine JC_region ?_
    refine JL_v (vo_assign rfl) nofun (by decide) ?_
    refine JL_nil ?_
    refine JX_then ?_
    refine JC_ret ?_
    refine ret1 rfl rfl ?_
    intro w1 hM; exact SC_end hM rfl
set_option maxRecDepth 8000 in
set_option maxHeartbeats 1000000 in
theorem hold70_spec (rm : Nat) (v22 v23 : Value) (w : World) (hb : FB (fun b => b < w.heap.size) w rm (roomN v22 v23)) : SCalls Try.prog 70 #[.pointer (some ⟨rm, 0, none⟩)] w (fun u => u = .bool true) := by
  unfold roomN at hb
  refine enter (N := 53) Try.func70 rfl Try.ntmps70 (Nat.le_of_ble_eq_true rfl) [(0, .pointer (some ⟨rm, 0, none⟩))] (by repeat (first | exact trivial | refine ⟨rfl, ?_⟩)) (Mem.start w (fun _ => False) (fun b => b < w.heap.size) (fun _ h => h)) ?_
  refine JC_seq ?_
  refine JC_region ?_
  refine JL_v (vo_assign rfl) nofun (by decide) ?_
  refine JL_nil ?_
  refine JX_then ?_
  refine JC_seq ?_
  refine JC_seq ?_
  refine JC_region ?_
  refine JL_v (vo_assign rfl) nofun (by decide) ?_
  refine JL_nil ?_
  refine JX_then ?_
  refine JC_block ?_
  refine JC_loop (α := Unit) (fun _ => [(0, .pointer (some ⟨rm, 0, none⟩)), (3, .int .i64 0)]) (fun _ => Mem w (fun _ => False) (fun b => b < w.heap.size) (fun b => b < w.heap.size) w  []) (fun _ => 0) () (by repeat (first | exact trivial | refine ⟨rfl, ?_⟩ | refine ⟨trivial, ?_⟩)) (fun w hw => hw) ?_
  rintro _
  refine JC_seq ?_
  refine JC_seq ?_
  refine JC_region ?_
  refine JL_v (vo_move rfl) nofun (by decide) ?_
  refine JL_v (vo_move rfl) nofun (by decide) ?_
  refine JL_v ((by first | exact vo_nilCheck rfl | exact vo_nilCheckF rfl)) nofun (by decide) ?_
  refine JL_v (vo_fieldAddr rfl fo48_10) nofun (by decide) ?_
  refine JL_v (vo_load rfl (by first | exact .frz ‹_› | exact .own (by repeat (first | exact .head _ | refine .tail _ ?_))) (by first | exact .cell Try.underlying39 rfl rfl)) nofun (by decide) ?_
  refine JL_v (vo_len rfl Try.underlying39) nofun (by decide) ?_
  refine JL_v (vo_cmp rfl rfl rfl) nofun (by decide) ?_
  refine JL_nil ?_
  refine JX_then ?_
  refine JC_cond _ rfl (fun hc13 => ?_) (fun hc13 => ?_)
  · exact absurd hc13 (by decide)
  · refine JC_exit ?_
    refine JX_then_exit ?_
    refine JX_thenK_exit ?_
    refine JX_block_exit ?_
    refine JX_then ?_
    refine JC_seq ?_
    refine JC_region ?_
    refine JL_v (vo_assign rfl) nofun (by decide) ?_
    refine JL_nil ?_
    refine JX_then ?_
    refine JC_ret ?_
    refine ret1 rfl rfl ?_
    intro w1 hM; exact SC_end hM rfl
set_option maxRecDepth 8000 in
set_option maxHeartbeats 1000000 in
theorem hold71_spec (rm : Nat) (v22 v23 : Value) (w : World) (hb : FB (fun b => b < w.heap.size) w rm (roomN v22 v23)) : SCalls Try.prog 71 #[.pointer (some ⟨rm, 0, none⟩)] w (fun u => u = .bool true) := by
  unfold roomN at hb
  refine enter (N := 53) Try.func71 rfl Try.ntmps71 (Nat.le_of_ble_eq_true rfl) [(0, .pointer (some ⟨rm, 0, none⟩))] (by repeat (first | exact trivial | refine ⟨rfl, ?_⟩)) (Mem.start w (fun _ => False) (fun b => b < w.heap.size) (fun _ h => h)) ?_
  refine JC_seq ?_
  refine JC_region ?_
  refine JL_v (vo_assign rfl) nofun (by decide) ?_
  refine JL_nil ?_
  refine JX_then ?_
  refine JC_seq ?_
  refine JC_seq ?_
  refine JC_region ?_
  refine JL_v (vo_assign rfl) nofun (by decide) ?_
  refine JL_nil ?_
  refine JX_then ?_
  refine JC_block ?_
  refine JC_loop (α := Unit) (fun _ => [(0, .pointer (some ⟨rm, 0, none⟩)), (3, .int .i64 0)]) (fun _ => Mem w (fun _ => False) (fun b => b < w.heap.size) (fun b => b < w.heap.size) w  []) (fun _ => 0) () (by repeat (first | exact trivial | refine ⟨rfl, ?_⟩ | refine ⟨trivial, ?_⟩)) (fun w hw => hw) ?_
  rintro _
  refine JC_seq ?_
  refine JC_seq ?_
  refine JC_region ?_
  refine JL_v (vo_move rfl) nofun (by decide) ?_
  refine JL_v (vo_move rfl) nofun (by decide) ?_
  refine JL_v ((by first | exact vo_nilCheck rfl | exact vo_nilCheckF rfl)) nofun (by decide) ?_
  refine JL_v (vo_fieldAddr rfl fo48_12) nofun (by decide) ?_
  refine JL_v (vo_load rfl (by first | exact .frz ‹_› | exact .own (by repeat (first | exact .head _ | refine .tail _ ?_))) (by first | exact .cell Try.underlying40 rfl rfl)) nofun (by decide) ?_
  refine JL_v (vo_len rfl Try.underlying40) nofun (by decide) ?_
  refine JL_v (vo_cmp rfl rfl rfl) nofun (by decide) ?_
  refine JL_nil ?_
  refine JX_then ?_
  refine JC_cond _ rfl (fun hc13 => ?_) (fun hc13 => ?_)
  · exact absurd hc13 (by decide)
  · refine JC_exit ?_
    refine JX_then_exit ?_
    refine JX_thenK_exit ?_
    refine JX_block_exit ?_
    refine JX_then ?_
    refine JC_seq ?_
    refine JC_region ?_
    refine JL_v (vo_assign rfl) nofun (by decide) ?_
    refine JL_nil ?_
    refine JX_then ?_
    refine JC_ret ?_
    refine ret1 rfl rfl ?_
    intro w1 hM; exact SC_end hM rfl
set_option maxRecDepth 8000 in
set_option maxHeartbeats 1000000 in
theorem hold72_spec (rm : Nat) (v22 v23 : Value) (w : World) (hb : FB (fun b => b < w.heap.size) w rm (roomN v22 v23)) : SCalls Try.prog 72 #[.pointer (some ⟨rm, 0, none⟩)] w (fun u => u = .bool true) := by
  unfold roomN at hb
  refine enter (N := 53) Try.func72 rfl Try.ntmps72 (Nat.le_of_ble_eq_true rfl) [(0, .pointer (some ⟨rm, 0, none⟩))] (by repeat (first | exact trivial | refine ⟨rfl, ?_⟩)) (Mem.start w (fun _ => False) (fun b => b < w.heap.size) (fun _ h => h)) ?_
  refine JC_seq ?_
  refine JC_region ?_
  refine JL_v (vo_assign rfl) nofun (by decide) ?_
  refine JL_nil ?_
  refine JX_then ?_
  refine JC_seq ?_
  refine JC_seq ?_
  refine JC_region ?_
  refine JL_v (vo_assign rfl) nofun (by decide) ?_
  refine JL_nil ?_
  refine JX_then ?_
  refine JC_block ?_
  refine JC_loop (α := Unit) (fun _ => [(0, .pointer (some ⟨rm, 0, none⟩)), (3, .int .i64 0)]) (fun _ => Mem w (fun _ => False) (fun b => b < w.heap.size) (fun b => b < w.heap.size) w  []) (fun _ => 0) () (by repeat (first | exact trivial | refine ⟨rfl, ?_⟩ | refine ⟨trivial, ?_⟩)) (fun w hw => hw) ?_
  rintro _
  refine JC_seq ?_
  refine JC_seq ?_
  refine JC_region ?_
  refine JL_v (vo_move rfl) nofun (by decide) ?_
  refine JL_v (vo_move rfl) nofun (by decide) ?_
  refine JL_v ((by first | exact vo_nilCheck rfl | exact vo_nilCheckF rfl)) nofun (by decide) ?_
  refine JL_v (vo_fieldAddr rfl fo48_14) nofun (by decide) ?_
  refine JL_v (vo_load rfl (by first | exact .frz ‹_› | exact .own (by repeat (first | exact .head _ | refine .tail _ ?_))) (by first | exact .cell Try.underlying41 rfl rfl)) nofun (by decide) ?_
  refine JL_v (vo_len rfl Try.underlying41) nofun (by decide) ?_
  refine JL_v (vo_cmp rfl rfl rfl) nofun (by decide) ?_
  refine JL_nil ?_
  refine JX_then ?_
  refine JC_cond _ rfl (fun hc13 => ?_) (fun hc13 => ?_)
  · exact absurd hc13 (by decide)
  · refine JC_exit ?_
    refine JX_then_exit ?_
    refine JX_thenK_exit ?_
    refine JX_block_exit ?_
    refine JX_then ?_
    refine JC_seq ?_
    refine JC_region ?_
    refine JL_v (vo_assign rfl) nofun (by decide) ?_
    refine JL_nil ?_
    refine JX_then ?_
    refine JC_ret ?_
    refine ret1 rfl rfl ?_
    intro w1 hM; exact SC_end hM rfl
set_option maxRecDepth 8000 in
set_option maxHeartbeats 1000000 in
theorem hold73_spec (rm : Nat) (v22 v23 : Value) (w : World) (hb : FB (fun b => b < w.heap.size) w rm (roomN v22 v23)) : SCalls Try.prog 73 #[.pointer (some ⟨rm, 0, none⟩)] w (fun u => u = .bool true) := by
  unfold roomN at hb
  refine enter (N := 60) Try.func73 rfl Try.ntmps73 (Nat.le_of_ble_eq_true rfl) [(0, .pointer (some ⟨rm, 0, none⟩))] (by repeat (first | exact trivial | refine ⟨rfl, ?_⟩)) (Mem.start w (fun _ => False) (fun b => b < w.heap.size) (fun _ h => h)) ?_
  refine JC_seq ?_
  refine JC_region ?_
  refine JL_v (vo_assign rfl) nofun (by decide) ?_
  refine JL_nil ?_
  refine JX_then ?_
  refine JC_seq ?_
  refine JC_seq ?_
  refine JC_region ?_
  refine JL_v (vo_assign rfl) nofun (by decide) ?_
  refine JL_nil ?_
  refine JX_then ?_
  refine JC_block ?_
  refine JC_loop (α := Unit) (fun _ => [(0, .pointer (some ⟨rm, 0, none⟩)), (3, .int .i64 0)]) (fun _ => Mem w (fun _ => False) (fun b => b < w.heap.size) (fun b => b < w.heap.size) w  []) (fun _ => 0) () (by repeat (first | exact trivial | refine ⟨rfl, ?_⟩ | refine ⟨trivial, ?_⟩)) (fun w hw => hw) ?_
  rintro _
  refine JC_seq ?_
  refine JC_seq ?_
  refine JC_region ?_
  refine JL_v (vo_move rfl) nofun (by decide) ?_
  refine JL_v (vo_move rfl) nofun (by decide) ?_
  refine JL_v ((by first | exact vo_nilCheck rfl | exact vo_nilCheckF rfl)) nofun (by decide) ?_
  refine JL_v (vo_fieldAddr rfl fo48_16) nofun (by decide) ?_
  refine JL_v (vo_load rfl (by first | exact .frz ‹_› | exact .own (by repeat (first | exact .head _ | refine .tail _ ?_))) (by first | exact .cell Try.underlying42 rfl rfl)) nofun (by decide) ?_
  refine JL_v (vo_len rfl Try.underlying42) nofun (by decide) ?_
  refine JL_v (vo_cmp rfl rfl rfl) nofun (by decide) ?_
  refine JL_nil ?_
  refine JX_then ?_
  refine JC_cond _ rfl (fun hc13 => ?_) (fun hc13 => ?_)
  · exact absurd hc13 (by decide)
  · refine JC_exit ?_
    refine JX_then_exit ?_
    refine JX_thenK_exit ?_
    refine JX_block_exit ?_
    refine JX_then ?_
    refine JC_seq ?_
    refine JC_region ?_
    refine JL_v (vo_assign rfl) nofun (by decide) ?_
    refine JL_nil ?_
    refine JX_then ?_
    refine JC_ret ?_
    refine ret1 rfl rfl ?_
    intro w1 hM; exact SC_end hM rfl
set_option maxRecDepth 8000 in
set_option maxHeartbeats 1000000 in
theorem hold74_spec (rm : Nat) (v22 v23 : Value) (w : World) (hb : FB (fun b => b < w.heap.size) w rm (roomN v22 v23)) : SCalls Try.prog 74 #[.pointer (some ⟨rm, 0, none⟩)] w (fun u => u = .bool true) := by
  unfold roomN at hb
  refine enter (N := 64) Try.func74 rfl Try.ntmps74 (Nat.le_of_ble_eq_true rfl) [(0, .pointer (some ⟨rm, 0, none⟩))] (by repeat (first | exact trivial | refine ⟨rfl, ?_⟩)) (Mem.start w (fun _ => False) (fun b => b < w.heap.size) (fun _ h => h)) ?_
  refine JC_seq ?_
  refine JC_region ?_
  refine JL_v (vo_assign rfl) nofun (by decide) ?_
  refine JL_nil ?_
  refine JX_then ?_
  refine JC_seq ?_
  refine JC_seq ?_
  refine JC_region ?_
  refine JL_v (vo_assign rfl) nofun (by decide) ?_
  refine JL_nil ?_
  refine JX_then ?_
  refine JC_block ?_
  refine JC_loop (α := Unit) (fun _ => [(0, .pointer (some ⟨rm, 0, none⟩)), (3, .int .i64 0)]) (fun _ => Mem w (fun _ => False) (fun b => b < w.heap.size) (fun b => b < w.heap.size) w  []) (fun _ => 0) () (by repeat (first | exact trivial | refine ⟨rfl, ?_⟩ | refine ⟨trivial, ?_⟩)) (fun w hw => hw) ?_
  rintro _
  refine JC_seq ?_
  refine JC_seq ?_
  refine JC_region ?_
  refine JL_v (vo_move rfl) nofun (by decide) ?_
  refine JL_v (vo_move rfl) nofun (by decide) ?_
  refine JL_v ((by first | exact vo_nilCheck rfl | exact vo_nilCheckF rfl)) nofun (by decide) ?_
  refine JL_v (vo_fieldAddr rfl fo48_18) nofun (by decide) ?_
  refine JL_v (vo_load rfl (by first | exact .frz ‹_› | exact .own (by repeat (first | exact .head _ | refine .tail _ ?_))) (by first | exact .cell Try.underlying43 rfl rfl)) nofun (by decide) ?_
  refine JL_v (vo_len rfl Try.underlying43) nofun (by decide) ?_
  refine JL_v (vo_cmp rfl rfl rfl) nofun (by decide) ?_
  refine JL_nil ?_
  refine JX_then ?_
  refine JC_cond _ rfl (fun hc13 => ?_) (fun hc13 => ?_)
  · exact absurd hc13 (by decide)
  · refine JC_exit ?_
    refine JX_then_exit ?_
    refine JX_thenK_exit ?_
    refine JX_block_exit ?_
    refine JX_then ?_
    refine JC_seq ?_
    refine JC_region ?_
    refine JL_v (vo_assign rfl) nofun (by decide) ?_
    refine JL_nil ?_
    refine JX_then ?_
    refine JC_ret ?_
    refine ret1 rfl rfl ?_
    intro w1 hM; exact SC_end hM rfl
set_option maxRecDepth 8000 in
set_option maxHeartbeats 1000000 in
theorem hold75_spec (rm : Nat) (v22 v23 : Value) (w : World) (hb : FB (fun b => b < w.heap.size) w rm (roomN v22 v23)) : SCalls Try.prog 75 #[.pointer (some ⟨rm, 0, none⟩)] w (fun u => u = .bool true) := by
  unfold roomN at hb
  refine enter (N := 59) Try.func75 rfl Try.ntmps75 (Nat.le_of_ble_eq_true rfl) [(0, .pointer (some ⟨rm, 0, none⟩))] (by repeat (first | exact trivial | refine ⟨rfl, ?_⟩)) (Mem.start w (fun _ => False) (fun b => b < w.heap.size) (fun _ h => h)) ?_
  refine JC_seq ?_
  refine JC_region ?_
  refine JL_v (vo_assign rfl) nofun (by decide) ?_
  refine JL_nil ?_
  refine JX_then ?_
  refine JC_seq ?_
  refine JC_seq ?_
  refine JC_region ?_
  refine JL_v (vo_assign rfl) nofun (by decide) ?_
  refine JL_nil ?_
  refine JX_then ?_
  refine JC_block ?_
  refine JC_loop (α := Unit) (fun _ => [(0, .pointer (some ⟨rm, 0, none⟩)), (3, .int .i64 0)]) (fun _ => Mem w (fun _ => False) (fun b => b < w.heap.size) (fun b => b < w.heap.size) w  []) (fun _ => 0) () (by repeat (first | exact trivial | refine ⟨rfl, ?_⟩ | refine ⟨trivial, ?_⟩)) (fun w hw => hw) ?_
  rintro _
  refine JC_seq ?_
  refine JC_seq ?_
  refine JC_region ?_
  refine JL_v (vo_move rfl) nofun (by decide) ?_
  refine JL_v (vo_move rfl) nofun (by decide) ?_
  refine JL_v ((by first | exact vo_nilCheck rfl | exact vo_nilCheckF rfl)) nofun (by decide) ?_
  refine JL_v (vo_fieldAddr rfl fo48_20) nofun (by decide) ?_
  refine JL_v (vo_load rfl (by first | exact .frz ‹_› | exact .own (by repeat (first | exact .head _ | refine .tail _ ?_))) (by first | exact .cell Try.underlying44 rfl rfl)) nofun (by decide) ?_
  refine JL_v (vo_len rfl Try.underlying44) nofun (by decide) ?_
  refine JL_v (vo_cmp rfl rfl rfl) nofun (by decide) ?_
  refine JL_nil ?_
  refine JX_then ?_
  refine JC_cond _ rfl (fun hc13 => ?_) (fun hc13 => ?_)
  · exact absurd hc13 (by decide)
  · refine JC_exit ?_
    refine JX_then_exit ?_
    refine JX_thenK_exit ?_
    refine JX_block_exit ?_
    refine JX_then ?_
    refine JC_seq ?_
    refine JC_region ?_
    refine JL_v (vo_assign rfl) nofun (by decide) ?_
    refine JL_nil ?_
    refine JX_then ?_
    refine JC_ret ?_
    refine ret1 rfl rfl ?_
    intro w1 hM; exact SC_end hM rfl
set_option maxRecDepth 8000 in
set_option maxHeartbeats 1000000 in
theorem hold77_spec (rm : Nat) (v22 v23 : Value) (w : World) (hb : FB (fun b => b < w.heap.size) w rm (roomN v22 v23)) : SCalls Try.prog 77 #[.pointer (some ⟨rm, 0, none⟩)] w (fun u => u = .bool true) := by
  unfold roomN at hb
  refine enter (N := 65) Try.func77 rfl Try.ntmps77 (Nat.le_of_ble_eq_true rfl) [(0, .pointer (some ⟨rm, 0, none⟩))] (by repeat (first | exact trivial | refine ⟨rfl, ?_⟩)) (Mem.start w (fun _ => False) (fun b => b < w.heap.size) (fun _ h => h)) ?_
  refine JC_seq ?_
  refine JC_region ?_
  refine JL_v (vo_assign rfl) nofun (by decide) ?_
  refine JL_nil ?_
  refine JX_then ?_
  refine JC_seq ?_
  refine JC_seq ?_
  refine JC_region ?_
  refine JL_v (vo_assign rfl) nofun (by decide) ?_
  refine JL_nil ?_
  refine JX_then ?_
  refine JC_block ?_
  refine JC_loop (α := Unit) (fun _ => [(0, .pointer (some ⟨rm, 0, none⟩)), (3, .int .i64 0)]) (fun _ => Mem w (fun _ => False) (fun b => b < w.heap.size) (fun b => b < w.heap.size) w  []) (fun _ => 0) () (by repeat (first | exact trivial | refine ⟨rfl, ?_⟩ | refine ⟨trivial, ?_⟩)) (fun w hw => hw) ?_
  rintro _
  refine JC_seq ?_
  refine JC_seq ?_
  refine JC_region ?_
  refine JL_v (vo_move rfl) nofun (by decide) ?_
  refine JL_v (vo_move rfl) nofun (by decide) ?_
  refine JL_v ((by first | exact vo_nilCheck rfl | exact vo_nilCheckF rfl)) nofun (by decide) ?_
  refine JL_v (vo_fieldAddr rfl fo48_24) nofun (by decide) ?_
  refine JL_v (vo_load rfl (by first | exact .frz ‹_› | exact .own (by repeat (first | exact .head _ | refine .tail _ ?_))) (by first | exact .cell Try.underlying46 rfl rfl)) nofun (by decide) ?_
  refine JL_v (vo_len rfl Try.underlying46) nofun (by decide) ?_
  refine JL_v (vo_cmp rfl rfl rfl) nofun (by decide) ?_
  refine JL_nil ?_
  refine JX_then ?_
  refine JC_cond _ rfl (fun hc13 => ?_) (fun hc13 => ?_)
  · exact absurd hc13 (by decide)
  · refine JC_exit ?_
    refine JX_then_exit ?_
    refine JX_thenK_exit ?_
    refine JX_block_exit ?_
    refine JX_then ?_
    refine JC_seq ?_
    refine JC_region ?_
    refine JL_v (vo_assign rfl) nofun (by decide) ?_
    refine JL_nil ?_
    refine JX_then ?_
    refine JC_ret ?_
    refine ret1 rfl rfl ?_
    intro w1 hM; exact SC_end hM rfl
set_option maxRecDepth 8000 in
set_option maxHeartbeats 1000000 in
theorem hold76_spec (rm : Nat) (v22 v23 : Value) (us : List (Value × Nat)) (w : World) (hb : FB (fun b => b < w.heap.size) w rm (roomN v22 v23)) (hr22 : RVals (fun b => b < w.heap.size) w (us.map (·.1)) v22) (hr23 : RVals (fun b => b < w.heap.size) w (us.map fun p => .int .i64 p.2) v23) (hE : ∀ p ∈ us, LaidE (fun b => b < w.heap.size) w p) : SCalls Try.prog 76 #[.pointer (some ⟨rm, 0, none⟩)] w (fun u => u = .bool true) := by
  unfold roomN at hb
  obtain ⟨A6, c6, rfl, hl6⟩ := hr22.slice
  obtain ⟨A7, c7, rfl, hl7⟩ := hr23.slice
  have hm6 : (us.map (·.1)).length = us.length := by simp
  have hm7 : (us.map fun p => Value.int .i64 p.2).length = us.length := by simp
  refine enter (N := 59) Try.func76 rfl Try.ntmps76 (Nat.le_of_ble_eq_true rfl) [(0, .pointer (some ⟨rm, 0, none⟩))] (by repeat (first | exact trivial | refine ⟨rfl, ?_⟩)) (Mem.start w (fun _ => False) (fun b => b < w.heap.size) (fun _ h => h)) ?_
  refine JC_seq ?_
  refine JC_region ?_
  refine JL_v (vo_assign rfl) nofun (by decide) ?_
  refine JL_nil ?_
  refine JX_then ?_
  refine JC_seq ?_
  refine JC_seq ?_
  refine JC_region ?_
  refine JL_v (vo_assign rfl) nofun (by decide) ?_
  refine JL_nil ?_
  refine JX_then ?_
  refine JC_block ?_
  refine JC_loop (α := { i : Nat // i ≤ us.length }) (fun i => [(0, .pointer (some ⟨rm, 0, none⟩)), (3, .int .i64 i.1)]) (fun _ => Mem w (fun _ => False) (fun b => b < w.heap.size) (fun b => b < w.heap.size) w  []) (fun i => us.length - i.1) ⟨0, by omega⟩ (by repeat (first | exact trivial | refine ⟨rfl, ?_⟩ | refine ⟨trivial, ?_⟩)) (fun w hw => hw) ?_
  rintro ⟨i, hi⟩
  dsimp only
  refine JC_seq ?_
  refine JC_seq ?_
  refine JC_region ?_
  refine JL_v (vo_move rfl) nofun (by decide) ?_
  refine JL_v (vo_move rfl) nofun (by decide) ?_
  refine JL_v ((by first | exact vo_nilCheck rfl | exact vo_nilCheckF rfl)) nofun (by decide) ?_
  refine JL_v (vo_fieldAddr rfl fo48_22) nofun (by decide) ?_
  refine JL_v (vo_load rfl (by first | exact .frz ‹_› | exact .own (by repeat (first | exact .head _ | refine .tail _ ?_))) (by first | exact .cell Try.underlying45 rfl rfl | exact .cell Try.underlying28 rfl (by simpa using hcell6) | exact .cell Try.underlying3 rfl (by simpa using hcell7) | exact pn_all hseg | (exact .cell Try.underlying45 rfl rfl) | (exact .cell Try.underlying34 rfl rfl) | exact pn_all ‹_› | exact pn_val (node_self _ _ _ _) | exact pn_marks (node_self _ _ _ _) | exact pn_name ‹_›)) nofun (by decide) ?_
  refine JL_v (vo_len rfl Try.underlying45) nofun (by decide) ?_
  refine JL_v (vo_cmp rfl rfl rfl) nofun (by decide) ?_
  refine JL_nil ?_
  refine JX_then ?_
  refine JC_cond _ rfl (fun hc13 => ?_) (fun hc13 => ?_)
  · have hil : i < us.length := by simp at hc13; omega
    obtain ⟨en, hen⟩ : ∃ en, us[i]? = some en := ⟨_, List.getElem?_eq_getElem hil⟩
    obtain ⟨b6, o6, c6', cs6, te6, fr6, hv6, hfb6, hcell6⟩ := hr22.at_ (i := i) (u := en.1) (by simp [hen])
    cases hv6
    obtain ⟨b7, o7, c7', cs7, te7, fr7, hv7, hfb7, hcell7⟩ := hr23.at_ (i := i) (u := .int .i64 en.2) (by simp [hen])
    cases hv7
    have hE' := hE en (List.mem_of_getElem? hen)
    obtain ⟨en1, en2⟩ := en
    obtain ⟨ge, room, ce, cse, tee, fre, he1, hel, hfbe, hsegs⟩ := hE'
    dsimp only at hcell6 hcell7 hel hsegs he1
    subst he1
    refine JC_skip ?_
    refine JX_then ?_
    refine JC_seq ?_
    refine JC_block ?_
    refine JC_seq ?_
    refine JC_region ?_
    refine JL_v (vo_move rfl) nofun (by decide) ?_
    refine JL_v ((by first | exact vo_nilCheck rfl | exact vo_nilCheckF rfl)) nofun (by decide) ?_
    refine JL_v (vo_fieldAddr rfl fo48_23) nofun (by decide) ?_
    refine JL_v (vo_load rfl (by first | exact .frz ‹_› | exact .own (by repeat (first | exact .head _ | refine .tail _ ?_))) (by first | exact .cell Try.underlying34 rfl rfl | exact .cell Try.underlying28 rfl (by simpa using hcell6) | exact .cell Try.underlying3 rfl (by simpa using hcell7) | exact pn_all hseg | (exact .cell Try.underlying45 rfl rfl) | (exact .cell Try.underlying34 rfl rfl) | exact pn_all ‹_› | exact pn_val (node_self _ _ _ _) | exact pn_marks (node_self _ _ _ _) | exact pn_name ‹_›)) nofun (by decide) ?_
    refine JL_v (vo_move rfl) nofun (by decide) ?_
    refine JL_v (vo_indexAddr rfl rfl Try.underlying34 sz3 (by omega) (by omega)) nofun (by decide) ?_
    refine JL_v (vo_load rfl (by first | exact .frz ‹_› | exact .own (by repeat (first | exact .head _ | refine .tail _ ?_))) (by first | exact .cell Try.underlying3 rfl rfl | exact .cell Try.underlying28 rfl (by simpa using hcell6) | exact .cell Try.underlying3 rfl (by simpa using hcell7) | exact pn_all hseg | (exact .cell Try.underlying45 rfl rfl) | (exact .cell Try.underlying34 rfl rfl) | exact pn_all ‹_› | exact pn_val (node_self _ _ _ _) | exact pn_marks (node_self _ _ _ _) | exact pn_name ‹_›)) nofun (by decide) ?_
    refine JL_v (vo_assign rfl) nofun (by decide) ?_
    refine JL_nil ?_
    refine JX_then ?_
    refine JC_seq ?_
    refine JC_region ?_
    refine JL_v (vo_move rfl) nofun (by decide) ?_
    refine JL_v (vo_assign rfl) nofun (by decide) ?_
    refine JL_nil ?_
    refine JX_then ?_
    refine JC_block ?_
    refine JC_loop (α := { k : Nat // en2 ≤ k ∧ k ≤ en2 + room }) (fun k => [(0, .pointer (some ⟨rm, 0, none⟩)), (3, .int .i64 i), (4, .int .i64 en2), (5, .int .i64 k.1)]) (fun _ => Mem w (fun _ => False) (fun b => b < w.heap.size) (fun b => b < w.heap.size) w  []) (fun k => en2 + room - k.1) ⟨en2, by omega, by omega⟩ (by repeat (first | exact trivial | refine ⟨rfl, ?_⟩ | refine ⟨trivial, ?_⟩)) (fun w hw => hw) ?_
    rintro ⟨k, hk1, hk2⟩
    dsimp only
    refine JC_seq ?_
    refine JC_seq ?_
    refine JC_region ?_
    refine JL_v (vo_move rfl) nofun (by decide) ?_
    refine JL_v (vo_move rfl) nofun (by decide) ?_
    refine JL_v ((by first | exact vo_nilCheck rfl | exact vo_nilCheckF rfl)) nofun (by decide) ?_
    refine JL_v (vo_fieldAddr rfl fo48_22) nofun (by decide) ?_
    refine JL_v (vo_load rfl (by first | exact .frz ‹_› | exact .own (by repeat (first | exact .head _ | refine .tail _ ?_))) (by first | exact .cell Try.underlying45 rfl rfl | exact .cell Try.underlying28 rfl (by simpa using hcell6) | exact .cell Try.underlying3 rfl (by simpa using hcell7) | exact pn_all hseg | (exact .cell Try.underlying45 rfl rfl) | (exact .cell Try.underlying34 rfl rfl) | exact pn_all ‹_› | exact pn_val (node_self _ _ _ _) | exact pn_marks (node_self _ _ _ _) | exact pn_name ‹_›)) nofun (by decide) ?_
    refine JL_v (vo_move rfl) nofun (by decide) ?_
    refine JL_v (vo_indexAddr rfl rfl Try.underlying45 sz28 (by omega) (by omega)) nofun (by decide) ?_
    refine JL_v (vo_load rfl (by first | exact .frz ‹_› | exact .own (by repeat (first | exact .head _ | refine .tail _ ?_))) (by first | exact .cell Try.underlying28 rfl rfl | exact .cell Try.underlying28 rfl (by simpa using hcell6) | exact .cell Try.underlying3 rfl (by simpa using hcell7) | exact pn_all hseg | (exact .cell Try.underlying45 rfl rfl) | (exact .cell Try.underlying34 rfl rfl) | exact pn_all ‹_› | exact pn_val (node_self _ _ _ _) | exact pn_marks (node_self _ _ _ _) | exact pn_name ‹_›)) nofun (by decide) ?_
    refine JL_v (vo_len rfl Try.underlying28) nofun (by decide) ?_
    refine JL_v (vo_cmp rfl rfl rfl) nofun (by decide) ?_
    refine JL_nil ?_
    refine JX_then ?_
    refine JC_cond _ rfl (fun hc33 => ?_) (fun hc33 => ?_)
    · have hkl : k < en2 + room := by simp at hc33; omega
      have hseg : SegAt cse (0 + k * 41) (nodeC (wordP ((k : Int) - (en2 : Int))) zeroVal zeroMk nilS) := by
        have := hsegs (k - en2) (by omega)
        rw [show en2 + (k - en2) = k by omega, show (((k - en2 : Nat)) : Int) = (k : Int) - en2 by omega] at this
        rw [Nat.zero_add]; exact this
      refine JC_skip ?_
      refine JX_then ?_
      refine JC_seq ?_
      refine JC_block ?_
      refine JC_seq ?_
      refine JC_region ?_
      refine JL_v (vo_move rfl) nofun (by decide) ?_
      refine JL_v ((by first | exact vo_nilCheck rfl | exact vo_nilCheckF rfl)) nofun (by decide) ?_
      refine JL_v (vo_fieldAddr rfl fo48_22) nofun (by decide) ?_
      refine JL_v (vo_load rfl (by first | exact .frz ‹_› | exact .own (by repeat (first | exact .head _ | refine .tail _ ?_))) (by first | exact .cell Try.underlying45 rfl rfl | exact .cell Try.underlying28 rfl (by simpa using hcell6) | exact .cell Try.underlying3 rfl (by simpa using hcell7) | exact pn_all hseg | (exact .cell Try.underlying45 rfl rfl) | (exact .cell Try.underlying34 rfl rfl) | exact pn_all ‹_› | exact pn_val (node_self _ _ _ _) | exact pn_marks (node_self _ _ _ _) | exact pn_name ‹_›)) nofun (by decide) ?_
      refine JL_v (vo_move rfl) nofun (by decide) ?_
      refine JL_v (vo_indexAddr rfl rfl Try.underlying45 sz28 (by omega) (by omega)) nofun (by decide) ?_
      refine JL_v (vo_load rfl (by first | exact .frz ‹_› | exact .own (by repeat (first | exact .head _ | refine .tail _ ?_))) (by first | exact .cell Try.underlying28 rfl rfl | exact .cell Try.underlying28 rfl (by simpa using hcell6) | exact .cell Try.underlying3 rfl (by simpa using hcell7) | exact pn_all hseg | (exact .cell Try.underlying45 rfl rfl) | (exact .cell Try.underlying34 rfl rfl) | exact pn_all ‹_› | exact pn_val (node_self _ _ _ _) | exact pn_marks (node_self _ _ _ _) | exact pn_name ‹_›)) nofun (by decide) ?_
      refine JL_v (vo_move rfl) nofun (by decide) ?_
      refine JL_v (vo_indexAddr rfl rfl Try.underlying28 sz30 (by omega) (by omega)) nofun (by decide) ?_
      refine JL_v (vo_load rfl (by first | exact .frz ‹_› | exact .own (by repeat (first | exact .head _ | refine .tail _ ?_))) (by first | exact PartAt.whole Try.underlying30 rfl sz30 | exact .cell Try.underlying28 rfl (by simpa using hcell6) | exact .cell Try.underlying3 rfl (by simpa using hcell7) | exact pn_all hseg | (exact .cell Try.underlying45 rfl rfl) | (exact .cell Try.underlying34 rfl rfl) | exact pn_all ‹_› | exact pn_val (node_self _ _ _ _) | exact pn_marks (node_self _ _ _ _) | exact pn_name ‹_›)) nofun (by decide) ?_
      refine st_alloc zr30 (by decide) (fun b6 => ?_)
      refine st_storeW rfl rfl sz30 rfl (by repeat (first | exact .head _ _ _ | apply Turn.tail)) (by rfl) ?_
      refine JL_nil ?_
      refine JX_then ?_
      refine JC_seq ?_
      refine JC_drawM 13 (by kernel_rfl) (fun w hw => Mem.drew hw) ?_
      refine JR_v (i := 0) rfl (by kernel_rfl) (by kernel_rfl) rfl (by kernel_rfl) (by kernel_rfl) panic_any (by decide) (vo_fieldAddr rfl fo30_0) (fun w hw => hw) ?_
      refine JR_v (i := 1) rfl (by kernel_rfl) (by kernel_rfl) rfl (by kernel_rfl) (by kernel_rfl) panic_any (by decide) (vo_load rfl (by first | exact .frz ‹_› | exact .own (by repeat (first | exact .head _ | refine .tail _ ?_))) (by first | exact .cell Try.underlying9 rfl rfl | exact .cell Try.underlying28 rfl (by simpa using hcell6) | exact .cell Try.underlying3 rfl (by simpa using hcell7) | exact pn_all hseg | (exact .cell Try.underlying45 rfl rfl) | (exact .cell Try.underlying34 rfl rfl) | exact pn_all ‹_› | exact pn_val (node_self _ _ _ _) | exact pn_marks (node_self _ _ _ _) | exact pn_name ‹_›)) (fun w hw => hw) ?_
      refine JR_v (i := 2) rfl (by kernel_rfl) (by kernel_rfl) rfl (by kernel_rfl) (by kernel_rfl) panic_any (by decide) (vo_move rfl) (fun w hw => hw) ?_
      refine JR_v (i := 3) rfl (by kernel_rfl) (by kernel_rfl) rfl (by kernel_rfl) (by kernel_rfl) panic_any (by decide) (vo_move rfl) (fun w hw => hw) ?_
      refine JR_v (i := 4) rfl (by kernel_rfl) (by kernel_rfl) rfl (by kernel_rfl) (by kernel_rfl) panic_any (by decide) (vo_sub rfl rfl (by omega) (by omega)) (fun w hw => hw) ?_
      refine JR_split [5] (by kernel_rfl) rfl (all1 ?_)
      refine JK_scall rfl trivial rfl en107 (by decide) (fun w hw => word_spec ((k : Int) - (en2 : Int)) (by omega) w) (fun w hw => hw) ?_
      rintro _ rfl
      refine JR_v (i := 6) rfl (by kernel_rfl) (by kernel_rfl) rfl (by kernel_rfl) (by kernel_rfl) panic_any (by decide) (vo_scmp rfl rfl rfl) (fun w hw => hw) ?_
      refine JR_v (i := 7) rfl (by kernel_rfl) (by kernel_rfl) rfl (by kernel_rfl) (by kernel_rfl) panic_any (by decide) (vo_move rfl) (fun w hw => hw) ?_
      refine JR_case 53 rfl (fun hg53 => ?_) (fun hg53 => ?_)
      · refine JR_vn (i := 8) rfl rfl rfl (by kernel_rfl) (by kernel_rfl) rfl (by kernel_rfl) (by kernel_rfl) panic_any (by decide) (fun w hw => hw) ?_
        refine JR_vn (i := 9) rfl rfl rfl (by kernel_rfl) (by kernel_rfl) rfl (by kernel_rfl) (by kernel_rfl) panic_any (by decide) (fun w hw => hw) ?_
        refine JR_vn (i := 10) rfl rfl rfl (by kernel_rfl) (by kernel_rfl) rfl (by kernel_rfl) (by kernel_rfl) panic_any (by decide) (fun w hw => hw) ?_
        refine JR_vn (i := 11) rfl rfl rfl (by kernel_rfl) (by kernel_rfl) rfl (by kernel_rfl) (by kernel_rfl) panic_any (by decide) (fun w hw => hw) ?_
        refine JR_v (i := 12) rfl (by kernel_rfl) (by kernel_rfl) rfl (by kernel_rfl) (by kernel_rfl) panic_any (by decide) (vo_pick rfl rfl) (fun w hw => hw) ?_
        refine JR_done (by kernel_rfl) ?_
        refine JX_then ?_
        refine JC_cond true rfl (fun _ => ?_) (fun h => Bool.noConfusion h)
        refine JC_seq ?_
        refine JC_region ?_
        refine JL_v (vo_assign rfl) nofun (by decide) ?_
        refine JL_nil ?_
        refine JX_then ?_
        refine JC_ret ?_
        refine JX_block_ret ?_
        refine JX_then_ret ?_
        refine JX_thenK_ret ?_
        refine JX_block_ret ?_
        refine JX_block_ret ?_
        refine JX_then_ret ?_
        refine JX_thenK_ret ?_
        refine JX_block_ret ?_
        refine JX_then_ret ?_
        refine ret1 rfl rfl ?_
        intro w1 hM; first | exact SC_end hM rfl | exact absurd hc58 (by decide) | (exfalso; simp [beq, nodeC] at hg53)
      · refine JR_vy (i := 8) rfl rfl rfl (by kernel_rfl) (by kernel_rfl) rfl (by kernel_rfl) (by kernel_rfl) panic_any (by decide) (vo_fieldAddr rfl fo30_3) (fun w hw => hw) ?_
        refine JR_vy (i := 9) rfl rfl rfl (by kernel_rfl) (by kernel_rfl) rfl (by kernel_rfl) (by kernel_rfl) panic_any (by decide) (vo_load rfl (by first | exact .frz ‹_› | exact .own (by repeat (first | exact .head _ | refine .tail _ ?_))) (by first | exact .cell Try.underlying28 rfl rfl | exact .cell Try.underlying28 rfl (by simpa using hcell6) | exact .cell Try.underlying3 rfl (by simpa using hcell7) | exact pn_all hseg | (exact .cell Try.underlying45 rfl rfl) | (exact .cell Try.underlying34 rfl rfl) | exact pn_all ‹_› | exact pn_val (node_self _ _ _ _) | exact pn_marks (node_self _ _ _ _) | exact pn_name ‹_›)) (fun w hw => hw) ?_
        refine JR_vy (i := 10) rfl rfl rfl (by kernel_rfl) (by kernel_rfl) rfl (by kernel_rfl) (by kernel_rfl) panic_any (by decide) (vo_len rfl Try.underlying28) (fun w hw => hw) ?_
        refine JR_vy (i := 11) rfl rfl rfl (by kernel_rfl) (by kernel_rfl) rfl (by kernel_rfl) (by kernel_rfl) panic_any (by decide) (vo_cmp rfl rfl rfl) (fun w hw => hw) ?_
        refine JR_v (i := 12) rfl (by kernel_rfl) (by kernel_rfl) rfl (by kernel_rfl) (by kernel_rfl) panic_any (by decide) (vo_pick rfl rfl) (fun w hw => hw) ?_
        refine JR_done (by kernel_rfl) ?_
        refine JX_then ?_
        refine JC_cond _ rfl (fun hc58 => ?_) (fun hc58 => ?_)
        · refine JC_seq ?_
          refine JC_region ?_
          refine JL_v (vo_assign rfl) nofun (by decide) ?_
          refine JL_nil ?_
          refine JX_then ?_
          refine JC_ret ?_
          refine JX_block_ret ?_
          refine JX_then_ret ?_
          refine JX_thenK_ret ?_
          refine JX_block_ret ?_
          refine JX_block_ret ?_
          refine JX_then_ret ?_
          refine JX_thenK_ret ?_
          refine JX_block_ret ?_
          refine JX_then_ret ?_
          refine ret1 rfl rfl ?_
          intro w1 hM; first | exact SC_end hM rfl | exact absurd hc58 (by decide) | (exfalso; simp [beq, nodeC] at hg53)
        · refine JC_skip ?_
          refine JX_block ?_
          refine JX_then ?_
          refine JC_region ?_
          refine JL_v (vo_move rfl) nofun (by decide) ?_
          refine JL_v (vo_add rfl rfl (by omega) (by omega)) nofun (by decide) ?_
          refine JL_v (vo_assign rfl) nofun (by decide) ?_
          refine JL_nil ?_
          refine JX_loop ⟨k + 1, by omega, by omega⟩ (by show en2 + room - (k + 1) < en2 + room - k; omega) (by repeat (first | exact trivial | refine ⟨rfl, ?_⟩ | refine ⟨trivial, ?_⟩)) (fun w hw => hw.sub (List.nil_sublist _))
    · refine JC_exit ?_
      refine JX_then_exit ?_
      refine JX_thenK_exit ?_
      refine JX_block_exit ?_
      refine JX_block ?_
      refine JX_then ?_
      refine JC_region ?_
      refine JL_v (vo_move rfl) nofun (by decide) ?_
      refine JL_v (vo_add rfl rfl (by omega) (by omega)) nofun (by decide) ?_
      refine JL_v (vo_assign rfl) nofun (by decide) ?_
      refine JL_nil ?_
      refine JX_loop ⟨i + 1, by omega⟩ (by show us.length - (i + 1) < us.length - i; omega) (by repeat (first | exact trivial | refine ⟨rfl, ?_⟩ | refine ⟨trivial, ?_⟩)) (fun w hw => hw.sub (List.nil_sublist _))
  · refine JC_exit ?_
    refine JX_then_exit ?_
    refine JX_thenK_exit ?_
    refine JX_block_exit ?_
    refine JX_then ?_
    refine JC_seq ?_
    refine JC_region ?_
    refine JL_v (vo_assign rfl) nofun (by decide) ?_
    refine JL_nil ?_
    refine JX_then ?_
    refine JC_ret ?_
    refine ret1 rfl rfl ?_
    intro w1 hM; first | exact SC_end hM rfl | exact absurd hc58 (by decide) | (exfalso; simp [beq, nodeC] at hg53)
set_option maxRecDepth 8000 in
set_option maxHeartbeats 1000000 in
theorem hold_spec (rm : Nat) (v22 v23 : Value) (us : List (Value × Nat)) (w : World) (hb : FB (fun b => b < w.heap.size) w rm (roomN v22 v23)) (hr22 : RVals (fun b => b < w.heap.size) w (us.map (·.1)) v22) (hr23 : RVals (fun b => b < w.heap.size) w (us.map fun p => .int .i64 p.2) v23) (hE : ∀ p ∈ us, LaidE (fun b => b < w.heap.size) w p) : SCalls Try.prog 16 #[.pointer (some ⟨rm, 0, none⟩)] w (fun u => u = .bool true) := by
  refine enter (N := 70) Try.func16 rfl Try.ntmps16 (Nat.le_of_ble_eq_true rfl) [(0, .pointer (some ⟨rm, 0, none⟩))] (by repeat (first | exact trivial | refine ⟨rfl, ?_⟩)) (Mem.start w (fun _ => False) (fun b => b < w.heap.size) (fun _ h => h)) ?_
  refine JC_seq ?_
  refine JC_region ?_
  refine JL_v (vo_assign rfl) nofun (by decide) ?_
  refine JL_nil ?_
  refine JX_then ?_
  refine JC_seq ?_
  refine JC_region ?_
  refine JL_v (vo_assign rfl) nofun (by decide) ?_
  refine JL_nil ?_
  refine JX_then ?_
  refine JC_seq ?_
  refine JC_region ?_
  refine JL_v (vo_move rfl) nofun (by decide) ?_
  refine JL_v (vo_move rfl) nofun (by decide) ?_
  refine JL_case 5 rfl (fun hg5 => ?_) (fun hg5 => absurd hg5 (by simp))
  refine JL_yes rfl rfl ?_
  refine JL_v (vo_move rfl) nofun (by decide) ?_
  refine JL_yes rfl rfl ?_
  refine st_scall rfl en65 (by decide) (fun w hw => hold65_spec rm v22 v23 w (hw.ext_all.fb _ _ hb)) ?_
  rintro _ rfl
  refine JL_v (vo_pick rfl rfl) nofun (by decide) ?_
  refine JL_v (vo_assign rfl) nofun (by decide) ?_
  refine JL_nil ?_
  refine JX_then ?_
  refine JC_seq ?_
  refine JC_region ?_
  refine JL_v (vo_move rfl) nofun (by decide) ?_
  refine JL_v (vo_move rfl) nofun (by decide) ?_
  refine JL_case 10 rfl (fun hg10 => ?_) (fun hg10 => absurd hg10 (by simp))
  refine JL_yes rfl rfl ?_
  refine JL_v (vo_move rfl) nofun (by decide) ?_
  refine JL_yes rfl rfl ?_
  refine st_scall rfl en66 (by decide) (fun w hw => hold66_spec rm v22 v23 w (hw.ext_all.fb _ _ hb)) ?_
  rintro _ rfl
  refine JL_v (vo_pick rfl rfl) nofun (by decide) ?_
  refine JL_v (vo_assign rfl) nofun (by decide) ?_
  refine JL_nil ?_
  refine JX_then ?_
  refine JC_seq ?_
  refine JC_region ?_
  refine JL_v (vo_move rfl) nofun (by decide) ?_
  refine JL_v (vo_move rfl) nofun (by decide) ?_
  refine JL_case 15 rfl (fun hg15 => ?_) (fun hg15 => absurd hg15 (by simp))
  refine JL_yes rfl rfl ?_
  refine JL_v (vo_move rfl) nofun (by decide) ?_
  refine JL_yes rfl rfl ?_
  refine st_scall rfl en67 (by decide) (fun w hw => hold67_spec rm v22 v23 w (hw.ext_all.fb _ _ hb)) ?_
  rintro _ rfl
  refine JL_v (vo_pick rfl rfl) nofun (by decide) ?_
  refine JL_v (vo_assign rfl) nofun (by decide) ?_
  refine JL_nil ?_
  refine JX_then ?_
  refine JC_seq ?_
  refine JC_region ?_
  refine JL_v (vo_move rfl) nofun (by decide) ?_
  refine JL_v (vo_move rfl) nofun (by decide) ?_
  refine JL_case 20 rfl (fun hg20 => ?_) (fun hg20 => absurd hg20 (by simp))
  refine JL_yes rfl rfl ?_
  refine JL_v (vo_move rfl) nofun (by decide) ?_
  refine JL_yes rfl rfl ?_
  refine st_scall rfl en68 (by decide) (fun w hw => hold68_spec rm v22 v23 w (hw.ext_all.fb _ _ hb)) ?_
  rintro _ rfl
  refine JL_v (vo_pick rfl rfl) nofun (by decide) ?_
  refine JL_v (vo_assign rfl) nofun (by decide) ?_
  refine JL_nil ?_
  refine JX_then ?_
  refine JC_seq ?_
  refine JC_region ?_
  refine JL_v (vo_move rfl) nofun (by decide) ?_
  refine JL_v (vo_move rfl) nofun (by decide) ?_
  refine JL_case 25 rfl (fun hg25 => ?_) (fun hg25 => absurd hg25 (by simp))
  refine JL_yes rfl rfl ?_
  refine JL_v (vo_move rfl) nofun (by decide) ?_
  refine JL_yes rfl rfl ?_
  refine st_scall rfl en69 (by decide) (fun w hw => hold69_spec rm v22 v23 w (hw.ext_all.fb _ _ hb)) ?_
  rintro _ rfl
  refine JL_v (vo_pick rfl rfl) nofun (by decide) ?_
  refine JL_v (vo_assign rfl) nofun (by decide) ?_
  refine JL_nil ?_
  refine JX_then ?_
  refine JC_seq ?_
  refine JC_region ?_
  refine JL_v (vo_move rfl) nofun (by decide) ?_
  refine JL_v (vo_move rfl) nofun (by decide) ?_
  refine JL_case 30 rfl (fun hg30 => ?_) (fun hg30 => absurd hg30 (by simp))
  refine JL_yes rfl rfl ?_
  refine JL_v (vo_move rfl) nofun (by decide) ?_
  refine JL_yes rfl rfl ?_
  refine st_scall rfl en70 (by decide) (fun w hw => hold70_spec rm v22 v23 w (hw.ext_all.fb _ _ hb)) ?_
  rintro _ rfl
  refine JL_v (vo_pick rfl rfl) nofun (by decide) ?_
  refine JL_v (vo_assign rfl) nofun (by decide) ?_
  refine JL_nil ?_
  refine JX_then ?_
  refine JC_seq ?_
  refine JC_region ?_
  refine JL_v (vo_move rfl) nofun (by decide) ?_
  refine JL_v (vo_move rfl) nofun (by decide) ?_
  refine JL_case 35 rfl (fun hg35 => ?_) (fun hg35 => absurd hg35 (by simp))
  refine JL_yes rfl rfl ?_
  refine JL_v (vo_move rfl) nofun (by decide) ?_
  refine JL_yes rfl rfl ?_
  refine st_scall rfl en71 (by decide) (fun w hw => hold71_spec rm v22 v23 w (hw.ext_all.fb _ _ hb)) ?_
  rintro _ rfl
  refine JL_v (vo_pick rfl rfl) nofun (by decide) ?_
  refine JL_v (vo_assign rfl) nofun (by decide) ?_
  refine JL_nil ?_
  refine JX_then ?_
  refine JC_seq ?_
  refine JC_region ?_
  refine JL_v (vo_move rfl) nofun (by decide) ?_
  refine JL_v (vo_move rfl) nofun (by decide) ?_
  refine JL_case 40 rfl (fun hg40 => ?_) (fun hg40 => absurd hg40 (by simp))
  refine JL_yes rfl rfl ?_
  refine JL_v (vo_move rfl) nofun (by decide) ?_
  refine JL_yes rfl rfl ?_
  refine st_scall rfl en72 (by decide) (fun w hw => hold72_spec rm v22 v23 w (hw.ext_all.fb _ _ hb)) ?_
  rintro _ rfl
  refine JL_v (vo_pick rfl rfl) nofun (by decide) ?_
  refine JL_v (vo_assign rfl) nofun (by decide) ?_
  refine JL_nil ?_
  refine JX_then ?_
  refine JC_seq ?_
  refine JC_region ?_
  refine JL_v (vo_move rfl) nofun (by decide) ?_
  refine JL_v (vo_move rfl) nofun (by decide) ?_
  refine JL_case 45 rfl (fun hg45 => ?_) (fun hg45 => absurd hg45 (by simp))
  refine JL_yes rfl rfl ?_
  refine JL_v (vo_move rfl) nofun (by decide) ?_
  refine JL_yes rfl rfl ?_
  refine st_scall rfl en73 (by decide) (fun w hw => hold73_spec rm v22 v23 w (hw.ext_all.fb _ _ hb)) ?_
  rintro _ rfl
  refine JL_v (vo_pick rfl rfl) nofun (by decide) ?_
  refine JL_v (vo_assign rfl) nofun (by decide) ?_
  refine JL_nil ?_
  refine JX_then ?_
  refine JC_seq ?_
  refine JC_region ?_
  refine JL_v (vo_move rfl) nofun (by decide) ?_
  refine JL_v (vo_move rfl) nofun (by decide) ?_
  refine JL_case 50 rfl (fun hg50 => ?_) (fun hg50 => absurd hg50 (by simp))
  refine JL_yes rfl rfl ?_
  refine JL_v (vo_move rfl) nofun (by decide) ?_
  refine JL_yes rfl rfl ?_
  refine st_scall rfl en74 (by decide) (fun w hw => hold74_spec rm v22 v23 w (hw.ext_all.fb _ _ hb)) ?_
  rintro _ rfl
  refine JL_v (vo_pick rfl rfl) nofun (by decide) ?_
  refine JL_v (vo_assign rfl) nofun (by decide) ?_
  refine JL_nil ?_
  refine JX_then ?_
  refine JC_seq ?_
  refine JC_region ?_
  refine JL_v (vo_move rfl) nofun (by decide) ?_
  refine JL_v (vo_move rfl) nofun (by decide) ?_
  refine JL_case 55 rfl (fun hg55 => ?_) (fun hg55 => absurd hg55 (by simp))
  refine JL_yes rfl rfl ?_
  refine JL_v (vo_move rfl) nofun (by decide) ?_
  refine JL_yes rfl rfl ?_
  refine st_scall rfl en75 (by decide) (fun w hw => hold75_spec rm v22 v23 w (hw.ext_all.fb _ _ hb)) ?_
  rintro _ rfl
  refine JL_v (vo_pick rfl rfl) nofun (by decide) ?_
  refine JL_v (vo_assign rfl) nofun (by decide) ?_
  refine JL_nil ?_
  refine JX_then ?_
  refine JC_seq ?_
  refine JC_region ?_
  refine JL_v (vo_move rfl) nofun (by decide) ?_
  refine JL_v (vo_move rfl) nofun (by decide) ?_
  refine JL_case 60 rfl (fun hg60 => ?_) (fun hg60 => absurd hg60 (by simp))
  refine JL_yes rfl rfl ?_
  refine JL_v (vo_move rfl) nofun (by decide) ?_
  refine JL_yes rfl rfl ?_
  refine st_scall rfl en76 (by decide) (fun w hw => hold76_spec rm v22 v23 us w (hw.ext_all.fb _ _ hb) (hr22.ext hw.ext_all) (hr23.ext hw.ext_all) (fun p hp => (hE p hp).ext hw.ext_all)) ?_
  rintro _ rfl
  refine JL_v (vo_pick rfl rfl) nofun (by decide) ?_
  refine JL_v (vo_assign rfl) nofun (by decide) ?_
  refine JL_nil ?_
  refine JX_then ?_
  refine JC_seq ?_
  refine JC_region ?_
  refine JL_v (vo_move rfl) nofun (by decide) ?_
  refine JL_v (vo_move rfl) nofun (by decide) ?_
  refine JL_case 65 rfl (fun hg65 => ?_) (fun hg65 => absurd hg65 (by simp))
  refine JL_yes rfl rfl ?_
  refine JL_v (vo_move rfl) nofun (by decide) ?_
  refine JL_yes rfl rfl ?_
  refine st_scall rfl en77 (by decide) (fun w hw => hold77_spec rm v22 v23 w (hw.ext_all.fb _ _ hb)) ?_
  rintro _ rfl
  refine JL_v (vo_pick rfl rfl) nofun (by decide) ?_
  refine JL_v (vo_assign rfl) nofun (by decide) ?_
  refine JL_nil ?_
  refine JX_then ?_
  refine JC_seq ?_
  refine JC_region ?_
  refine JL_v (vo_move rfl) nofun (by decide) ?_
  refine JL_v (vo_assign rfl) nofun (by decide) ?_
  refine JL_nil ?_
  refine JX_then ?_
  refine JC_ret ?_
  refine ret1 rfl rfl ?_
  intro w1 hM; exact SC_end hM rfl

end Go.Eng
