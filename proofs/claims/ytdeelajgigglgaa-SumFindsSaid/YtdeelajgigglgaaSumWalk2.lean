/-
  Part of the proofs over this seat: S5 S6 G5 S7 G6 S8 G7 G8 G9 G10. Own work; imports the kit.
-/
import Derived.Test.YtdeelajgigglgaaSumWalk1
import Derived.Test.YtdeelajgigglgaaEng3
set_option linter.unusedVariables false
set_option linter.unusedSimpArgs false
namespace Go.Eng
open Go Go.RowKit Go.Proofs
theorem en55 : Enters Try.prog 55 := ⟨_, Try.func55, by kernel_rfl, by kernel_rfl⟩
theorem fo157_0 : fieldOff Try.prog 157 0 = some 0 := by kernel_rfl
theorem fo157_1 : fieldOff Try.prog 157 1 = some 1 := by kernel_rfl
theorem sz3 : (Try.prog.info? 3).map (·.size) = some 1 := by kernel_rfl

set_option maxRecDepth 8000 in
set_option maxHeartbeats 1000000 in
theorem next_spec (ring : List UInt8) (p : Nat) (hp : p < ring.length) (hl : ring.length ≤ 1000000) (c : UInt8) (b A cap : Nat) (w : World) (hL : Holds (Rol b A cap ring p) w) : MCalls Try.prog 59 #[.pointer (some ⟨b, 0, none⟩), .int .u8 c.toNat] w (Rol b A cap ring p) (fun u L' => u = .int .u32 (rsum (m32 (highA ring.length (win (ring.set p c) ((p + 1) % ring.length)))) (m32 (lowS (win (ring.set p c) ((p + 1) % ring.length))))) ∧ L' = Rol b A cap (ring.set p c) ((p + 1) % ring.length)) := by
  obtain ⟨x, hx⟩ : ∃ x, ring[p]? = some x := ⟨_, List.getElem?_eq_getElem hp⟩
  obtain ⟨rr, hw1, hw2⟩ := win_step hx c
  obtain ⟨L, hLe⟩ : ∃ L, L = Rol b A cap ring p := ⟨_, rfl⟩
  have hM0 : Mem w (EL L) (ZL L w) (ZL L w) w [.blk b (.cells #[.slice (some ⟨A, 0, none⟩) ring.length cap, .int .i64 p, .int .u32 (m32 (lowS (win ring p))), .int .u32 (m32 (highA ring.length (win ring p)))] 157 (0, 0)), .row (.slice (some ⟨A, 0, none⟩) ring.length cap) 5 1 ring.length (bytesC ring)] w := by
    have := Mem.startL (hLe ▸ hL)
    rw [hLe] at this ⊢
    exact this
  rw [← hLe]
  refine enter (N := 75) Try.func59 rfl Try.ntmps59 (Nat.le_of_ble_eq_true rfl) [(0, .pointer (some ⟨b, 0, none⟩)), (1, .int .u8 c.toNat)] (by repeat (first | exact trivial | refine ⟨rfl, ?_⟩)) (hM0) ?_
  refine JC_seq ?_
  refine JC_region ?_
  refine JL_v (vo_assign rfl) nofun (by decide) ?_
  refine JL_nil ?_
  refine JX_then ?_
  refine JC_seq ?_
  refine JC_seq ?_
  refine JC_region ?_
  refine JL_v (vo_move rfl) nofun (by decide) ?_
  refine JL_v ((by first | exact vo_nilCheck rfl | exact vo_nilCheckF rfl)) nofun (by decide) ?_
  refine JL_v (vo_fieldAddr rfl fo157_0) nofun (by decide) ?_
  refine JL_v (vo_load rfl (by first | exact .frz ‹_› | exact .own (by repeat (first | exact .head _ | refine .tail _ ?_))) (by first | exact .cell Try.underlying54 rfl rfl)) nofun (by decide) ?_
  refine JL_v (vo_len rfl Try.underlying54) nofun (by decide) ?_
  refine JL_v (vo_assign rfl) nofun (by decide) ?_
  refine JL_nil ?_
  refine JX_then ?_
  refine JC_seq ?_
  refine JC_region ?_
  refine JL_v (vo_move rfl) nofun (by decide) ?_
  refine JL_v (vo_cmp rfl rfl rfl) nofun (by decide) ?_
  refine JL_nil ?_
  refine JX_then ?_
  refine JC_cond _ rfl (fun hc13 => ?_) (fun hc13 => ?_)
  · refine JC_seq ?_
    refine JC_drawM 11 (by kernel_rfl) (fun w hw => Mem.drew hw) ?_
    refine JR_v (i := 0) rfl (by kernel_rfl) (by kernel_rfl) rfl (by kernel_rfl) (by kernel_rfl) (panic_Then (panic_Then panic_body)) (by decide) (vo_move rfl) (fun w hw => hw) ?_
    refine JR_v (i := 1) rfl (by kernel_rfl) (by kernel_rfl) rfl (by kernel_rfl) (by kernel_rfl) (panic_Then (panic_Then panic_body)) (by decide) ((by first | exact vo_nilCheck rfl | exact vo_nilCheckF rfl)) (fun w hw => hw) ?_
    refine JR_v (i := 2) rfl (by kernel_rfl) (by kernel_rfl) rfl (by kernel_rfl) (by kernel_rfl) (panic_Then (panic_Then panic_body)) (by decide) (vo_fieldAddr rfl fo157_0) (fun w hw => hw) ?_
    refine JR_v (i := 3) rfl (by kernel_rfl) (by kernel_rfl) rfl (by kernel_rfl) (by kernel_rfl) (panic_Then (panic_Then panic_body)) (by decide) (vo_load rfl (by first | exact .frz ‹_› | exact .own (by repeat (first | exact .head _ | refine .tail _ ?_))) (by first | exact .cell Try.underlying54 rfl rfl)) (fun w hw => hw) ?_
    refine JR_v (i := 4) rfl (by kernel_rfl) (by kernel_rfl) rfl (by kernel_rfl) (by kernel_rfl) (panic_Then (panic_Then panic_body)) (by decide) (vo_move rfl) (fun w hw => hw) ?_
    refine JR_v (i := 5) rfl (by kernel_rfl) (by kernel_rfl) rfl (by kernel_rfl) (by kernel_rfl) (panic_Then (panic_Then panic_body)) (by decide) ((by first | exact vo_nilCheck rfl | exact vo_nilCheckF rfl)) (fun w hw => hw) ?_
    refine JR_v (i := 6) rfl (by kernel_rfl) (by kernel_rfl) rfl (by kernel_rfl) (by kernel_rfl) (panic_Then (panic_Then panic_body)) (by decide) (vo_fieldAddr rfl fo157_1) (fun w hw => hw) ?_
    refine JR_v (i := 7) rfl (by kernel_rfl) (by kernel_rfl) rfl (by kernel_rfl) (by kernel_rfl) (panic_Then (panic_Then panic_body)) (by decide) (vo_load rfl (by first | exact .frz ‹_› | exact .own (by repeat (first | exact .head _ | refine .tail _ ?_))) (by first | exact .cell Try.underlying3 rfl rfl)) (fun w hw => hw) ?_
    refine JR_v (i := 8) rfl (by kernel_rfl) (by kernel_rfl) rfl (by kernel_rfl) (by kernel_rfl) (panic_Then (panic_Then panic_body)) (by decide) (vo_indexAddr rfl rfl Try.underlying54 sz5 (by omega) (by omega)) (fun w hw => hw) ?_
    refine JR_v (i := 9) rfl (by kernel_rfl) (by kernel_rfl) rfl (by kernel_rfl) (by kernel_rfl) (panic_Then (panic_Then panic_body)) (by decide) (vo_loadRow rfl (by repeat (first | exact .head _ | apply List.Mem.tail)) (.cell Try.underlying5 rfl (by simpa using bytesC_get hx))) (fun w hw => hw) ?_
    refine JR_v (i := 10) rfl (by kernel_rfl) (by kernel_rfl) rfl (by kernel_rfl) (by kernel_rfl) (panic_Then (panic_Then panic_body)) (by decide) (vo_assign rfl) (fun w hw => hw) ?_
    refine JR_done (by kernel_rfl) ?_
    refine JX_then ?_
    refine JC_seq ?_
    refine JC_draw (F := fun w1 => ∃ xs, Mem w (EL L) (ZL L w) (ZL L w) w [.blk b (.cells #[.slice (some ⟨A, 0, none⟩) ring.length cap, .int .i64 p, .int .u32 (m32 (lowS (win ring p))), .int .u32 (m32 (highA ring.length (win ring p)))] 157 (0, 0)), .row (.slice (some ⟨A, 0, none⟩) ring.length cap) 5 1 ring.length xs] w1) 21 (by kernel_rfl) (fun w hw => Mem.drew hw) ?_
    refine JR_v (i := 0) rfl (by kernel_rfl) (by kernel_rfl) rfl (by kernel_rfl) (by kernel_rfl) (panic_Then (panic_Then panic_body)) (by decide) (vo_ex (fun _ => vo_move rfl)) (fun w hw => ⟨_, hw⟩) ?_
    refine JR_v (i := 1) rfl (by kernel_rfl) (by kernel_rfl) rfl (by kernel_rfl) (by kernel_rfl) (panic_Then (panic_Then panic_body)) (by decide) (vo_ex (fun _ => (by first | exact vo_nilCheck rfl | exact vo_nilCheckF rfl))) (fun w hw => ⟨_, hw⟩) ?_
    refine JR_v (i := 2) rfl (by kernel_rfl) (by kernel_rfl) rfl (by kernel_rfl) (by kernel_rfl) (panic_Then (panic_Then panic_body)) (by decide) (vo_ex (fun _ => vo_fieldAddr rfl fo157_0)) (fun w hw => ⟨_, hw⟩) ?_
    refine JR_v (i := 3) rfl (by kernel_rfl) (by kernel_rfl) rfl (by kernel_rfl) (by kernel_rfl) (panic_Then (panic_Then panic_body)) (by decide) (vo_ex (fun _ => vo_load rfl (by first | exact .frz ‹_› | exact .own (by repeat (first | exact .head _ | refine .tail _ ?_))) (by first | exact .cell Try.underlying54 rfl rfl))) (fun w hw => ⟨_, hw⟩) ?_
    refine JR_v (i := 4) rfl (by kernel_rfl) (by kernel_rfl) rfl (by kernel_rfl) (by kernel_rfl) (panic_Then (panic_Then panic_body)) (by decide) (vo_ex (fun _ => vo_move rfl)) (fun w hw => ⟨_, hw⟩) ?_
    refine JR_v (i := 5) rfl (by kernel_rfl) (by kernel_rfl) rfl (by kernel_rfl) (by kernel_rfl) (panic_Then (panic_Then panic_body)) (by decide) (vo_ex (fun _ => (by first | exact vo_nilCheck rfl | exact vo_nilCheckF rfl))) (fun w hw => ⟨_, hw⟩) ?_
    refine JR_v (i := 6) rfl (by kernel_rfl) (by kernel_rfl) rfl (by kernel_rfl) (by kernel_rfl) (panic_Then (panic_Then panic_body)) (by decide) (vo_ex (fun _ => vo_fieldAddr rfl fo157_1)) (fun w hw => ⟨_, hw⟩) ?_
    refine JR_v (i := 7) rfl (by kernel_rfl) (by kernel_rfl) rfl (by kernel_rfl) (by kernel_rfl) (panic_Then (panic_Then panic_body)) (by decide) (vo_ex (fun _ => vo_load rfl (by first | exact .frz ‹_› | exact .own (by repeat (first | exact .head _ | refine .tail _ ?_))) (by first | exact .cell Try.underlying3 rfl rfl))) (fun w hw => ⟨_, hw⟩) ?_
    refine JR_v (i := 8) rfl (by kernel_rfl) (by kernel_rfl) rfl (by kernel_rfl) (by kernel_rfl) (panic_Then (panic_Then panic_body)) (by decide) (vo_ex (fun _ => vo_move rfl)) (fun w hw => ⟨_, hw⟩) ?_
    refine JR_v (i := 9) rfl (by kernel_rfl) (by kernel_rfl) rfl (by kernel_rfl) (by kernel_rfl) (panic_Then (panic_Then panic_body)) (by decide) (vo_ex (fun _ => vo_move rfl)) (fun w hw => ⟨_, hw⟩) ?_
    refine JR_v (i := 10) rfl (by kernel_rfl) (by kernel_rfl) rfl (by kernel_rfl) (by kernel_rfl) (panic_Then (panic_Then panic_body)) (by decide) (vo_ex (fun _ => vo_move rfl)) (fun w hw => ⟨_, hw⟩) ?_
    refine JR_v (i := 11) rfl (by kernel_rfl) (by kernel_rfl) rfl (by kernel_rfl) (by kernel_rfl) (panic_Then (panic_Then panic_body)) (by decide) (vo_ex (fun _ => (by first | exact vo_nilCheck rfl | exact vo_nilCheckF rfl))) (fun w hw => ⟨_, hw⟩) ?_
    refine JR_v (i := 12) rfl (by kernel_rfl) (by kernel_rfl) rfl (by kernel_rfl) (by kernel_rfl) (panic_Then (panic_Then panic_body)) (by decide) (vo_ex (fun _ => vo_fieldAddr rfl fo157_1)) (fun w hw => ⟨_, hw⟩) ?_
    refine JR_v (i := 13) rfl (by kernel_rfl) (by kernel_rfl) rfl (by kernel_rfl) (by kernel_rfl) (panic_Then (panic_Then panic_body)) (by decide) (vo_ex (fun _ => vo_load rfl (by first | exact .frz ‹_› | exact .own (by repeat (first | exact .head _ | refine .tail _ ?_))) (by first | exact .cell Try.underlying3 rfl rfl))) (fun w hw => ⟨_, hw⟩) ?_
    refine JR_v (i := 14) rfl (by kernel_rfl) (by kernel_rfl) rfl (by kernel_rfl) (by kernel_rfl) (panic_Then (panic_Then panic_body)) (by decide) (vo_ex (fun _ => vo_add rfl rfl (by omega) (by omega))) (fun w hw => ⟨_, hw⟩) ?_
    refine JR_v (i := 15) rfl (by kernel_rfl) (by kernel_rfl) rfl (by kernel_rfl) (by kernel_rfl) (panic_Then (panic_Then panic_body)) (by decide) (vo_ex (fun _ => vo_move rfl)) (fun w hw => ⟨_, hw⟩) ?_
    refine JR_v (i := 16) rfl (by kernel_rfl) (by kernel_rfl) rfl (by kernel_rfl) (by kernel_rfl) (panic_Then (panic_Then panic_body)) (by decide) (vo_ex (fun _ => vo_rem rfl rfl (by omega) (by omega))) (fun w hw => ⟨_, hw⟩) ?_
    refine JR_v (i := 17) rfl (by kernel_rfl) (by kernel_rfl) rfl (by kernel_rfl) (by kernel_rfl) (panic_Then (panic_Then panic_body)) (by decide) (vo_ex (fun _ => vo_indexAddr rfl rfl Try.underlying54 sz5 (by omega) (by omega))) (fun w hw => ⟨_, hw⟩) ?_
    refine JR_split [18] (by kernel_rfl) rfl (all1 ?_)
    refine JK_do _ rfl rfl trivial (do_storeRow rfl rfl sz5 (by exact one_of_all rfl) (by show 0 + (p : Int).toNat * 1 + 1 ≤ ring.length * 1; omega) (by repeat (first | exact .head _ _ _ | apply Turn.tail))) (fun w hw => ⟨_, hw⟩) ?_
    refine JR_v (i := 19) rfl (by kernel_rfl) (by kernel_rfl) rfl (by kernel_rfl) (by kernel_rfl) (panic_Then (panic_Then panic_body)) (by decide) (vo_ex (fun _ => (by first | exact vo_nilCheck rfl | exact vo_nilCheckF rfl))) (fun w hw => ⟨_, hw⟩) ?_
    refine JR_v (i := 20) rfl (by kernel_rfl) (by kernel_rfl) rfl (by kernel_rfl) (by kernel_rfl) (panic_Then (panic_Then panic_body)) (by decide) (vo_ex (fun _ => vo_fieldAddr rfl fo157_1)) (fun w hw => ⟨_, hw⟩) ?_
    refine JR_store rfl (by kernel_rfl) (by kernel_rfl) rfl rfl rfl sz3 (by first | exact one_of_all rfl | assumption) (by repeat (first | exact .head _ _ _ | apply Turn.tail)) (by exact Nat.le_of_ble_eq_true rfl) (by rfl) ?_
    refine JX_then ?_
    refine JC_seq ?_
    refine JC_region ?_
    refine JL_v (vo_move rfl) nofun (by decide) ?_
    refine JL_v ((by first | exact vo_nilCheck rfl | exact vo_nilCheckF rfl)) nofun (by decide) ?_
    refine JL_v (vo_fieldAddr rfl fo157_2) nofun (by decide) ?_
    refine JL_v (vo_load rfl (by first | exact .frz ‹_› | exact .own (by repeat (first | exact .head _ | refine .tail _ ?_))) (by first | exact .cell Try.underlying100 rfl rfl)) nofun (by decide) ?_
    refine JL_v (vo_move rfl) nofun (by decide) ?_
    refine JL_v (vo_convInt rfl Try.underlying5 Try.underlying100) nofun (by decide) ?_
    refine JL_v (vo_move rfl) nofun (by decide) ?_
    refine JL_v (vo_convInt rfl Try.underlying5 Try.underlying100) nofun (by decide) ?_
    refine JL_v (vo_arith rfl rfl rfl) nofun (by decide) ?_
    refine JL_v (vo_arith rfl rfl rfl) nofun (by decide) ?_
    refine JL_v ((by first | exact vo_nilCheck rfl | exact vo_nilCheckF rfl)) nofun (by decide) ?_
    refine JL_v (vo_fieldAddr rfl fo157_2) nofun (by decide) ?_
    refine st_store rfl rfl sz100 (by first | exact one_of_all rfl | assumption) (by repeat (first | exact .head _ _ _ | apply Turn.tail)) (by exact Nat.le_of_ble_eq_true rfl) (by rfl) ?_
    refine JL_nil ?_
    refine JX_then ?_
    refine JC_drawM 17 (by kernel_rfl) (fun w hw => Mem.drew hw) ?_
    refine JR_v (i := 0) rfl (by kernel_rfl) (by kernel_rfl) rfl (by kernel_rfl) (by kernel_rfl) (panic_Then panic_body) (by decide) (vo_move rfl) (fun w hw => hw) ?_
    refine JR_v (i := 1) rfl (by kernel_rfl) (by kernel_rfl) rfl (by kernel_rfl) (by kernel_rfl) (panic_Then panic_body) (by decide) ((by first | exact vo_nilCheck rfl | exact vo_nilCheckF rfl)) (fun w hw => hw) ?_
    refine JR_v (i := 2) rfl (by kernel_rfl) (by kernel_rfl) rfl (by kernel_rfl) (by kernel_rfl) (panic_Then panic_body) (by decide) (vo_fieldAddr rfl fo157_3) (fun w hw => hw) ?_
    refine JR_v (i := 3) rfl (by kernel_rfl) (by kernel_rfl) rfl (by kernel_rfl) (by kernel_rfl) (panic_Then panic_body) (by decide) (vo_load rfl (by first | exact .frz ‹_› | exact .own (by repeat (first | exact .head _ | refine .tail _ ?_))) (by first | exact .cell Try.underlying100 rfl rfl)) (fun w hw => hw) ?_
    refine JR_v (i := 4) rfl (by kernel_rfl) (by kernel_rfl) rfl (by kernel_rfl) (by kernel_rfl) (panic_Then panic_body) (by decide) (vo_move rfl) (fun w hw => hw) ?_
    refine JR_v (i := 5) rfl (by kernel_rfl) (by kernel_rfl) rfl (by kernel_rfl) (by kernel_rfl) (panic_Then panic_body) (by decide) ((by first | exact vo_nilCheck rfl | exact vo_nilCheckF rfl)) (fun w hw => hw) ?_
    refine JR_v (i := 6) rfl (by kernel_rfl) (by kernel_rfl) rfl (by kernel_rfl) (by kernel_rfl) (panic_Then panic_body) (by decide) (vo_fieldAddr rfl fo157_2) (fun w hw => hw) ?_
    refine JR_v (i := 7) rfl (by kernel_rfl) (by kernel_rfl) rfl (by kernel_rfl) (by kernel_rfl) (panic_Then panic_body) (by decide) (vo_load rfl (by first | exact .frz ‹_› | exact .own (by repeat (first | exact .head _ | refine .tail _ ?_))) (by first | exact .cell Try.underlying100 rfl rfl)) (fun w hw => hw) ?_
    refine JR_v (i := 8) rfl (by kernel_rfl) (by kernel_rfl) rfl (by kernel_rfl) (by kernel_rfl) (panic_Then panic_body) (by decide) (vo_move rfl) (fun w hw => hw) ?_
    refine JR_v (i := 9) rfl (by kernel_rfl) (by kernel_rfl) rfl (by kernel_rfl) (by kernel_rfl) (panic_Then panic_body) (by decide) (vo_convInt rfl Try.underlying3 Try.underlying100) (fun w hw => hw) ?_
    refine JR_v (i := 10) rfl (by kernel_rfl) (by kernel_rfl) rfl (by kernel_rfl) (by kernel_rfl) (panic_Then panic_body) (by decide) (vo_move rfl) (fun w hw => hw) ?_
    refine JR_v (i := 11) rfl (by kernel_rfl) (by kernel_rfl) rfl (by kernel_rfl) (by kernel_rfl) (panic_Then panic_body) (by decide) (vo_convInt rfl Try.underlying5 Try.underlying100) (fun w hw => hw) ?_
    refine JR_v (i := 12) rfl (by kernel_rfl) (by kernel_rfl) rfl (by kernel_rfl) (by kernel_rfl) (panic_Then panic_body) (by decide) (vo_arith rfl rfl rfl) (fun w hw => hw) ?_
    refine JR_v (i := 13) rfl (by kernel_rfl) (by kernel_rfl) rfl (by kernel_rfl) (by kernel_rfl) (panic_Then panic_body) (by decide) (vo_arith rfl rfl rfl) (fun w hw => hw) ?_
    refine JR_v (i := 14) rfl (by kernel_rfl) (by kernel_rfl) rfl (by kernel_rfl) (by kernel_rfl) (panic_Then panic_body) (by decide) (vo_arith rfl rfl rfl) (fun w hw => hw) ?_
    refine JR_v (i := 15) rfl (by kernel_rfl) (by kernel_rfl) rfl (by kernel_rfl) (by kernel_rfl) (panic_Then panic_body) (by decide) ((by first | exact vo_nilCheck rfl | exact vo_nilCheckF rfl)) (fun w hw => hw) ?_
    refine JR_v (i := 16) rfl (by kernel_rfl) (by kernel_rfl) rfl (by kernel_rfl) (by kernel_rfl) (panic_Then panic_body) (by decide) (vo_fieldAddr rfl fo157_3) (fun w hw => hw) ?_
    refine JR_store rfl (by kernel_rfl) (by kernel_rfl) rfl rfl rfl sz100 (by first | exact one_of_all rfl | assumption) (by repeat (first | exact .head _ _ _ | apply Turn.tail)) (by exact Nat.le_of_ble_eq_true rfl) (by rfl) ?_
    refine JX_then ?_
    refine JC_seq ?_
    refine JC_region ?_
    refine JL_v (vo_move rfl) nofun (by decide) ?_
    refine st_scall rfl en55 (by decide) (fun w1 hw => sum_spec b _ _ _ _ w1 (hw.own _ (.head _))) ?_
    rintro _ rfl
    refine JL_v (vo_assign rfl) nofun (by decide) ?_
    refine JL_nil ?_
    refine JX_then ?_
    refine JC_ret ?_
    refine ret1 rfl rfl ?_
    intro w1 hM
    have hE1 : IntKind.u32.wrap (m32 (lowS (win ring p)) + IntKind.u32.wrap (IntKind.u32.wrap c.toNat - IntKind.u32.wrap x.toNat)) = m32 (lowS (win (ring.set p c) ((p + 1) % ring.length))) := by
      rw [hw1, hw2]; simp only [wrap32]; exact roll_low x c rr
    have hE2 : IntKind.u32.wrap (m32 (highA ring.length (win ring p)) + IntKind.u32.wrap (m32 (lowS (win (ring.set p c) ((p + 1) % ring.length))) - IntKind.u32.wrap (IntKind.u32.wrap ring.length * IntKind.u32.wrap x.toNat))) = m32 (highA ring.length (win (ring.set p c) ((p + 1) % ring.length))) := by
      rw [hw1, hw2]; simp only [wrap32]; exact roll_high x c rr ring.length (by have := win_length ring p; rw [hw1] at this; simp at this; omega)
    have h3 : laid (bytesC ring) (0 + (p : Int).toNat * 1) (Value.cells (.int .u8 c.toNat)).toList = bytesC (ring.set p c) := by
      rw [show 0 + (p : Int).toNat * 1 = p by omega]; exact laid_set ring p c hp
    have h4 : ((p : Int) + 1) % (ring.length : Int) = ((p + 1) % ring.length : Nat) := by simp
    refine MC_end hM ⟨?_, ?_⟩
    · show Value.int .u32 (rsum (IntKind.u32.wrap (m32 (highA ring.length (win ring p)) + IntKind.u32.wrap (IntKind.u32.wrap (m32 (lowS (win ring p)) + IntKind.u32.wrap (IntKind.u32.wrap c.toNat - IntKind.u32.wrap x.toNat)) - IntKind.u32.wrap (IntKind.u32.wrap ring.length * IntKind.u32.wrap x.toNat)))) (IntKind.u32.wrap (m32 (lowS (win ring p)) + IntKind.u32.wrap (IntKind.u32.wrap c.toNat - IntKind.u32.wrap x.toNat)))) = _
      rw [hE1, hE2]
    · unfold Rol rolO
      rw [List.length_set, ← h3, ← h4, ← hE2, ← hE1]
      rfl
  · exfalso
    have h0 : ¬ ring = [] := (by intro e; simp [e] at hp)
    simp at hc13
    first | exact h0 hc13 | omega

end Go.Eng

set_option linter.unusedVariables false
set_option linter.unusedSimpArgs false
namespace Go.Eng
open Go Go.RowKit Go.Proofs
theorem en53 : Enters Try.prog 53 := ⟨_, Try.func53, by kernel_rfl, by kernel_rfl⟩
theorem en58 : Enters Try.prog 58 := ⟨_, Try.func58, by kernel_rfl, by kernel_rfl⟩

set_option maxRecDepth 8000 in
set_option maxHeartbeats 1000000 in
theorem whole_spec (old : List UInt8) (A : Option Addr) (cap : Nat) (k : Int) (hk : 0 ≤ k) (hk2 : (k + 1) * 512 ≤ old.length) (hcap : old.length ≤ cap) (hc2 : cap ≤ 9223372036854775807) (c : Nat) (w : World) (hfb : FB (fun b => b < w.heap.size) w c (.cells #[.slice A old.length cap] 54 (0, 0))) : SCalls Try.prog 53 #[.int .i64 k, .pointer (some ⟨c, 0, none⟩)] w (fun u => u = Go.sliced A (k * 512).toNat ((k + 1) * 512).toNat cap 1) := by
  refine enter (N := 11) Try.func53 rfl Try.ntmps53 (Nat.le_of_ble_eq_true rfl) [(0, .int .i64 k), (1, .pointer (some ⟨c, 0, none⟩))] (by repeat (first | exact trivial | refine ⟨rfl, ?_⟩)) (Mem.start w (fun _ => False) (fun b => b < w.heap.size) (fun _ h => h)) ?_
  refine JC_seq ?_
  refine JC_region ?_
  refine JL_v (vo_assign rfl) nofun (by decide) ?_
  refine JL_nil ?_
  refine JX_then ?_
  refine JC_seq ?_
  refine JC_region ?_
  refine JL_v (vo_load rfl (by first | exact .frz ‹_› | exact .own (by repeat (first | exact .head _ | refine .tail _ ?_))) (by first | exact .cell Try.underlying54 rfl rfl)) nofun (by decide) ?_
  refine JL_v (vo_move rfl) nofun (by decide) ?_
  refine JL_v (vo_mul rfl rfl (by omega) (by omega)) nofun (by decide) ?_
  refine JL_v (vo_move rfl) nofun (by decide) ?_
  refine JL_v (vo_add rfl rfl (by omega) (by omega)) nofun (by decide) ?_
  refine JL_v (vo_mul rfl rfl (by omega) (by omega)) nofun (by decide) ?_
  refine JL_v (vo_sliceLH rfl rfl rfl Try.underlying54 sz5 (by omega) (by omega) (by omega)) nofun (by decide) ?_
  refine JL_v (vo_assign rfl) nofun (by decide) ?_
  refine JL_nil ?_
  refine JX_then ?_
  refine JC_ret ?_
  refine ret1 rfl rfl ?_
  intro w1 hM
  exact SC_end hM rfl
set_option maxRecDepth 8000 in
set_option maxHeartbeats 1000000 in
theorem here_spec (old here : List UInt8) (A : Option Addr) (cap : Nat) (k : Int) (hk : 0 ≤ k) (hk2 : (k + 1) * 512 ≤ old.length) (hcap : old.length ≤ cap) (hc2 : cap ≤ 9223372036854775807) (c bw bh : Nat) (vh : Value) (w : World) (hfb : FB (fun b => b < w.heap.size) w c (.cells #[.slice A old.length cap] 54 (0, 0))) (hfw : FB (fun b => b < w.heap.size) w bw (.cells #[.func (.func 53) #[] #[.pointer (some ⟨c, 0, none⟩)]] 99 (0, 0))) (hfh : FB (fun b => b < w.heap.size) w bh (.cells #[vh] 54 (0, 0))) (hro : RVals (fun b => b < w.heap.size) w (bytesC old) (.slice A old.length cap)) (hrh : RVals (fun b => b < w.heap.size) w (bytesC here) vh) : SCalls Try.prog 57 #[.int .i64 k, .pointer (some ⟨bw, 0, none⟩), .pointer (some ⟨bh, 0, none⟩)] w (fun u => u = .bool (decide ((old.drop (k * 512).toNat).take 512 = here))) := by
  have hrs : RVals (fun b => b < w.heap.size) w (bytesC ((old.drop (k * 512).toNat).take 512)) (Go.sliced A (k * 512).toNat ((k + 1) * 512).toNat cap 1) := by
    have := hro.sliced (l := (k * 512).toNat) (h := ((k + 1) * 512).toNat) (by omega) (by omega)
    rw [bytesC_slice, show ((k + 1) * 512).toNat - (k * 512).toNat = 512 by omega] at this
    exact this
  obtain ⟨Ah, ch, rfl, _, _⟩ := bytes_slice hrh
  refine enter (N := 10) Try.func57 rfl Try.ntmps57 (Nat.le_of_ble_eq_true rfl) [(0, .int .i64 k), (1, .pointer (some ⟨bw, 0, none⟩)), (2, .pointer (some ⟨bh, 0, none⟩))] (by repeat (first | exact trivial | refine ⟨rfl, ?_⟩)) (Mem.start w (fun _ => False) (fun b => b < w.heap.size) (fun _ h => h)) ?_
  refine JC_seq ?_
  refine JC_region ?_
  refine JL_v (vo_assign rfl) nofun (by decide) ?_
  refine JL_nil ?_
  refine JX_then ?_
  refine JC_seq ?_
  refine JC_drawM 6 (by kernel_rfl) (fun w hw => Mem.drew hw) ?_
  refine JR_v (i := 0) rfl (by kernel_rfl) (by kernel_rfl) rfl (by kernel_rfl) (by kernel_rfl) (panic_Then panic_body) (by decide) (vo_load rfl (by first | exact .frz ‹_› | exact .own (by repeat (first | exact .head _ | refine .tail _ ?_))) (by first | exact .cell Try.underlying99 rfl rfl)) (fun w hw => hw) ?_
  refine JR_v (i := 1) rfl (by kernel_rfl) (by kernel_rfl) rfl (by kernel_rfl) (by kernel_rfl) (panic_Then panic_body) (by decide) (vo_move rfl) (fun w hw => hw) ?_
  refine JR_v (i := 3) rfl (by kernel_rfl) (by kernel_rfl) rfl (by kernel_rfl) (by kernel_rfl) (panic_Then panic_body) (by decide) (vo_load rfl (by first | exact .frz ‹_› | exact .own (by repeat (first | exact .head _ | refine .tail _ ?_))) (by first | exact .cell Try.underlying54 rfl rfl)) (fun w hw => hw) ?_
  refine JR_split [2] (by kernel_rfl) rfl (all1 ?_)
  refine JK_scallF rfl trivial rfl rfl en53 (by decide) (fun w1 hw => whole_spec old A cap k hk hk2 hcap hc2 c w1 (hw.ext_all.fb _ _ hfb)) (fun w hw => hw) ?_
  rintro _ rfl
  refine JR_split [4] (by kernel_rfl) rfl (all1 ?_)
  refine JK_scall rfl trivial rfl en58 (by decide) (fun w1 hw => equal_spec _ _ _ _ w1 (hrs.ext hw.ext_all) (hrh.ext hw.ext_all)) (fun w hw => hw) ?_
  rintro _ rfl
  refine JR_v (i := 5) rfl (by kernel_rfl) (by kernel_rfl) rfl (by kernel_rfl) (by kernel_rfl) (panic_Then panic_body) (by decide) (vo_assign rfl) (fun w hw => hw) ?_
  refine JR_done (by kernel_rfl) ?_
  refine JX_then ?_
  refine JC_ret ?_
  refine ret1 rfl rfl ?_
  intro w1 hM
  exact SC_end hM rfl

end Go.Eng

set_option linter.unusedVariables false
set_option linter.unusedSimpArgs false
namespace Go.Eng
open Go Go.RowKit Go.Proofs
def idxI (q : Int → Bool) : List Int → Int → Int
  | [], _ => -1
  | k :: ks, i => if q k then i else idxI q ks (i + 1)
def intsC (l : List Int) : List Value := l.map fun k => .int .i64 k
theorem drop_of_get {α : Type} {l : List α} {i : Nat} {x : α} (h : l[i]? = some x) : l.drop i = x :: l.drop (i + 1) := by
  obtain ⟨hi, rfl⟩ := List.getElem?_eq_some_iff.1 h
  exact List.drop_eq_getElem_cons hi
/-- the document's answer -/
def firstK (old here : List UInt8) : Nat → Nat → Nat
  | 0, k => k
  | n + 1, k => if (k + 1) * 512 ≤ old.length ∧ (old.drop (k * 512)).take 512 ≠ here then firstK old here n (k + 1) else k
end Go.Eng

set_option linter.unusedVariables false
set_option linter.unusedSimpArgs false
namespace Go.Eng
open Go Go.RowKit Go.Proofs


set_option maxRecDepth 8000 in
set_option maxHeartbeats 1000000 in
theorem index_spec (ks : List Int) (v : Value) (g : FuncId) (heg : Enters Try.prog g) (ca : Array Value) (q : Int → Bool) (hl : ks.length ≤ 1000000) (w : World) (hr : RVals (fun b => b < w.heap.size) w (intsC ks) v) (hY : ∀ k ∈ ks, ∀ w1, Ext (fun b => b < w.heap.size) w (fun b => b < w1.heap.size) w1 → SCalls Try.prog g (#[.int .i64 k] ++ ca) w1 (fun u => u = .bool (q k))) : SCalls Try.prog 56 #[v, .func (.func g) #[] ca] w (fun u => u = .int .i64 (idxI q ks 0)) := by
  obtain ⟨A, c, rfl, hn⟩ := hr.slice
  have hlen : (intsC ks).length = ks.length := by simp [intsC]
  refine enter (N := 19) Try.func56 rfl Try.ntmps56 (Nat.le_of_ble_eq_true rfl) [(0, .slice A (intsC ks).length c), (1, .func (.func g) #[] ca)] (by repeat (first | exact trivial | refine ⟨rfl, ?_⟩)) (Mem.start w (fun _ => False) (fun b => b < w.heap.size) (fun _ h => h)) ?_
  refine JC_seq ?_
  refine JC_region ?_
  refine JL_v (vo_assign rfl) nofun (by decide) ?_
  refine JL_nil ?_
  refine JX_then ?_
  refine JC_seq ?_
  refine JC_seq ?_
  refine JC_region ?_
  refine JL_v (vo_move rfl) nofun (by decide) ?_
  refine JL_v (vo_len rfl Try.underlying26) nofun (by decide) ?_
  refine JL_v (vo_move rfl) nofun (by decide) ?_
  refine JL_nil ?_
  refine JX_then ?_
  refine JC_block ?_
  refine JC_loop (α := { i : Nat // i ≤ ks.length ∧ idxI q (ks.drop i) i = idxI q ks 0 }) (fun i => [(0, .slice A (intsC ks).length c), (1, .func (.func g) #[] ca), (7, .int .i64 (intsC ks).length), (8, .int .i64 i.1)]) (fun i => Mem w (fun _ => False) (fun b => b < w.heap.size) (fun b => b < w.heap.size) w []) (fun i => ks.length - i.1) ⟨0, by omega, by simp⟩ (by repeat (first | exact trivial | refine ⟨rfl, ?_⟩ | refine ⟨trivial, ?_⟩)) (fun w hw => hw) ?_
  rintro ⟨i, hile, hinv⟩
  dsimp only
  refine JC_seq ?_
  refine JC_region ?_
  refine JL_v (vo_cmp rfl rfl rfl) nofun (by decide) ?_
  refine JL_nil ?_
  refine JX_then ?_
  refine JC_seq ?_
  refine JC_cond _ rfl (fun hc9 => ?_) (fun hc9 => ?_)
  · have hil : i < ks.length := by simp at hc9; omega
    obtain ⟨k, hk⟩ : ∃ k, ks[i]? = some k := ⟨_, List.getElem?_eq_getElem hil⟩
    obtain ⟨b1, o1, c1, cs1, te1, fr1, hv1, hfb1, hcell⟩ := hr.at_ (i := i) (u := .int .i64 k) (by simp [intsC, hk])
    cases hv1
    have hd := drop_of_get hk
    refine JC_skip ?_
    refine JX_then ?_
    refine JC_seq ?_
    refine JC_block ?_
    refine JC_seq ?_
    refine JC_region ?_
    refine JL_v (vo_move rfl) nofun (by decide) ?_
    refine JL_v (vo_assign rfl) nofun (by decide) ?_
    refine JL_nil ?_
    refine JX_then ?_
    refine JC_seq ?_
    refine JC_region ?_
    refine JL_v (vo_move rfl) nofun (by decide) ?_
    refine JL_v (vo_move rfl) nofun (by decide) ?_
    refine JL_v (vo_move rfl) nofun (by decide) ?_
    refine JL_v (vo_indexAddr rfl rfl Try.underlying26 sz3 (by omega) (by omega)) nofun (by decide) ?_
    refine JL_v (vo_load rfl (by first | exact .frz ‹_› | exact .own (by repeat (first | exact .head _ | refine .tail _ ?_))) (by first | exact .cell Try.underlying3 rfl rfl | exact .cell Try.underlying3 rfl (by simpa using hcell))) nofun (by decide) ?_
    refine st_scallF rfl rfl heg (by decide) (fun w1 hw => hY k (List.mem_of_getElem? hk) w1 hw.ext_all) ?_
    rintro _ rfl
    refine JL_nil ?_
    refine JX_then ?_
    refine JC_cond _ rfl (fun hc16 => ?_) (fun hc16 => ?_)
    · refine JC_seq ?_
      refine JC_region ?_
      refine JL_v (vo_move rfl) nofun (by decide) ?_
      refine JL_v (vo_assign rfl) nofun (by decide) ?_
      refine JL_nil ?_
      refine JX_then ?_
      refine JC_ret ?_
      refine JX_block_ret ?_
      refine JX_then_ret ?_
      refine JX_thenK_ret ?_
      refine JX_block_ret ?_
      refine JX_then_ret ?_
      refine ret1 rfl rfl ?_
      intro w1 hM
      refine SC_end hM ?_
      rw [← hinv, hd, idxI, hc16]; rfl
    · refine JC_skip ?_
      refine JX_block ?_
      refine JX_then ?_
      refine JC_region ?_
      refine JL_v (vo_add rfl rfl (by omega) (by omega)) nofun (by decide) ?_
      refine JL_v (vo_move rfl) nofun (by decide) ?_
      refine JL_nil ?_
      refine JX_loop ⟨i + 1, hil, ?_⟩ (by show ks.length - (i + 1) < ks.length - i; omega) (by repeat (first | exact trivial | refine ⟨rfl, ?_⟩ | refine ⟨trivial, ?_⟩)) (fun w hw => hw)
      rw [← hinv, hd, idxI, hc16]; simp
  · refine JC_exit ?_
    refine JX_then_exit ?_
    refine JX_thenK_exit ?_
    refine JX_block_exit ?_
    refine JX_then ?_
    refine JC_seq ?_
    refine JC_region ?_
    refine JL_v (vo_assign rfl) nofun (by decide) ?_
    refine JL_nil ?_
    refine JX_then ?_
    refine JC_ret ?_
    refine ret1 rfl rfl ?_
    intro w1 hM
    refine SC_end hM ?_
    have hi : i = ks.length := by simp at hc9; omega
    rw [← hinv, hi, List.drop_length]; rfl

end Go.Eng

set_option linter.unusedVariables false
set_option linter.unusedSimpArgs false
namespace Go.Eng
open Go Go.RowKit Go.Proofs
def piece (l : List UInt8) (i : Nat) : List UInt8 := (l.drop i).take 512
theorem piece_length {l : List UInt8} {i : Nat} (h : i + 512 ≤ l.length) : (piece l i).length = 512 := by simp [piece]; omega
/-- the first whole piece of old bytes that is these -/
def pieceAt (old here : List UInt8) : Option Nat := (List.range (old.length / 512)).find? fun k => decide (piece old (k * 512) = here)
def findF (old b : List UInt8) (i : Nat) : List (Int × Int) :=
  if h : i + 512 ≤ b.length then
    match pieceAt old (piece b i) with
    | some k => ((i : Int), (k : Int)) :: findF old b (i + 512)
    | none => findF old b (i + 1)
  else []
termination_by b.length - i
decreasing_by all_goals omega
theorem pieceAt_some {old here : List UInt8} {k : Nat} (hk : (k + 1) * 512 ≤ old.length) (he : piece old (k * 512) = here) (hb : ∀ j, j < k → piece old (j * 512) ≠ here) : pieceAt old here = some k := by
  unfold pieceAt
  rw [List.find?_range_eq_some]
  refine ⟨by simpa using he, by simp; omega, fun j hj => by simpa using hb j hj⟩
theorem pieceAt_none {old here : List UInt8} {k : Nat} (hk : old.length < (k + 1) * 512) (hb : ∀ j, j < k → piece old (j * 512) ≠ here) : pieceAt old here = none := by
  unfold pieceAt
  rw [List.find?_eq_none]
  intro j hj
  simp at hj
  simpa using hb j (by omega)
theorem bytes_sliced {Z : Nat → Prop} {w : World} {l : List UInt8} {A : Option Addr} {c : Nat} {lo hi : Int} (hr : RVals Z w (bytesC l) (.slice A l.length c)) (h0 : 0 ≤ lo) (h1 : lo ≤ hi) (h2 : hi ≤ l.length) :
    RVals Z w (bytesC ((l.drop lo.toNat).take (hi.toNat - lo.toNat))) (Go.sliced A lo.toNat hi.toNat c 1) := by
  have := hr.sliced (l := lo.toNat) (h := hi.toNat) (by omega) (by omega)
  rwa [bytesC_slice] at this
theorem zr60 : (Try.prog.info? 60).bind (·.zero) = some (.agg (fdC (0, 0)).toArray) := by kernel_rfl
theorem ap60 : (Try.prog.info? 60).map (fun i => (i.zero, i.size, i.bytes)) = some (some (.agg (fdC (0, 0)).toArray), 2, 16) := by kernel_rfl
theorem bl60 (a b : Int) : Try.prog.built 60 [(0, .int .i64 a), (1, .int .i64 b)] = some (fdC (a, b)).toArray := by kernel_rfl
end Go.Eng

set_option linter.unusedVariables false
set_option linter.unusedSimpArgs false
namespace Go.Eng
open Go Go.RowKit Go.Proofs
theorem en52 : Enters Try.prog 52 := ⟨_, Try.func52, by kernel_rfl, by kernel_rfl⟩

set_option maxRecDepth 8000 in
set_option maxHeartbeats 1000000 in
theorem reffind_spec (old b : List UInt8) (hl1 : old.length ≤ 1000000) (hl2 : b.length ≤ 1000000) (v1 v2 : Value) (w : World) (hr1 : RVals (fun b => b < w.heap.size) w (bytesC old) v1) (hr2 : RVals (fun b => b < w.heap.size) w (bytesC b) v2) : OCalls Try.prog 13 #[v1, v2] w 60 2 (fun n xs => n = (findF old b 0).length ∧ xs = (findF old b 0).flatMap fdC) := by
  obtain ⟨A1, c1, rfl, hn1, hc1⟩ := bytes_slice hr1
  obtain ⟨A2, c2, rfl, hn2, hc2⟩ := bytes_slice hr2
  refine enter (N := 54) Try.func13 rfl Try.ntmps13 (Nat.le_of_ble_eq_true rfl) [(0, .slice A1 old.length c1), (1, .slice A2 b.length c2)] (by repeat (first | exact trivial | refine ⟨rfl, ?_⟩)) (Mem.start w (fun _ => False) (fun b => b < w.heap.size) (fun _ h => h)) ?_
  refine JC_seq ?_
  refine JC_region ?_
  refine JL_v (vo_assign rfl) nofun (by decide) ?_
  refine JL_nil ?_
  refine JX_then ?_
  refine JC_seq ?_
  refine JC_region ?_
  refine JL_v (vo_assign rfl) nofun (by decide) ?_
  refine JL_nil ?_
  refine JX_then ?_
  refine JC_seq ?_
  refine JC_seq ?_
  refine JC_region ?_
  refine JL_nilrow 60 2 ?_
  refine JL_v (vo_assign rfl) nofun (by decide) ?_
  refine JL_nil ?_
  refine JX_then ?_
  refine JC_block ?_
  refine JC_loop (α := { x : Nat × List (Int × Int) × Value // x.1 ≤ b.length ∧ x.2.1.length ≤ x.1 ∧ x.2.1 ++ findF old b x.1 = findF old b 0 }) (fun x => [(0, .slice A1 old.length c1), (1, .slice A2 b.length c2), (5, x.1.2.2), (6, .int .i64 x.1.1)]) (fun x => Mem w (fun _ => False) (fun b => b < w.heap.size) (fun b => b < w.heap.size) w  [.row x.1.2.2 60 2 x.1.2.1.length (x.1.2.1.flatMap fdC)]) (fun x => b.length - x.1.1) ⟨(0, [], _), by simp, by simp, by simp⟩ (by repeat (first | exact trivial | refine ⟨rfl, ?_⟩ | refine ⟨trivial, ?_⟩)) (fun w hw => hw) ?_
  rintro ⟨⟨i, out, vl⟩, hib, hoi, hinv⟩
  dsimp only at hib hoi hinv ⊢
  refine JC_seq ?_
  refine JC_seq ?_
  refine JC_region ?_
  refine JL_v (vo_move rfl) nofun (by decide) ?_
  refine JL_v (vo_add rfl rfl (by omega) (by omega)) nofun (by decide) ?_
  refine JL_v (vo_move rfl) nofun (by decide) ?_
  refine JL_v (vo_len rfl Try.underlying54) nofun (by decide) ?_
  refine JL_v (vo_cmp rfl rfl rfl) nofun (by decide) ?_
  refine JL_nil ?_
  refine JX_then ?_
  refine JC_cond _ rfl (fun hc12 => ?_) (fun hc12 => ?_)
  · have hi5 : i + 512 ≤ b.length := by simp at hc12; omega
    have hfi := hinv
    rw [findF, dif_pos hi5] at hfi
    refine JC_skip ?_
    refine JX_then ?_
    refine JC_block ?_
    refine JC_seq ?_
    refine JC_region ?_
    refine JL_v (vo_assign rfl) nofun (by decide) ?_
    refine JL_nil ?_
    refine JX_then ?_
    refine JC_seq ?_
    refine JC_block ?_
    refine JC_loop (α := { k : Nat // k * 512 ≤ old.length ∧ ∀ j, j < k → piece old (j * 512) ≠ piece b i }) (fun k => [(0, .slice A1 old.length c1), (1, .slice A2 b.length c2), (5, vl), (6, .int .i64 i), (7, .int .i64 k.1)]) (fun k => Mem w (fun _ => False) (fun b => b < w.heap.size) (fun b => b < w.heap.size) w  [.row vl 60 2 out.length (out.flatMap fdC)]) (fun k => old.length - k.1 * 512) ⟨0, by omega, by intro j hj; omega⟩ (by repeat (first | exact trivial | refine ⟨rfl, ?_⟩ | refine ⟨trivial, ?_⟩)) (fun w hw => hw) ?_
    rintro ⟨k, hk0, hbef⟩
    dsimp only
    refine JC_seq ?_
    refine JC_seq ?_
    refine JC_joinB 34 (decide (((k : Int) + 1) * 512 ≤ old.length) && !decide (piece old (k * 512) = piece b i)) ?_ ?_
    · refine JC_drawM 22 (by kernel_rfl) (fun w hw => Mem.drew hw) ?_
      refine JR_v (i := 0) rfl (by kernel_rfl) (by kernel_rfl) rfl (by kernel_rfl) (by kernel_rfl) (panic_then (panic_Then (panic_Then (panic_then (panic_block (panic_Then (panic_block (panic_then (panic_block (panic_Then panic_body)))))))))) (by decide) (vo_move rfl) (fun w hw => hw) ?_
      refine JR_v (i := 1) rfl (by kernel_rfl) (by kernel_rfl) rfl (by kernel_rfl) (by kernel_rfl) (panic_then (panic_Then (panic_Then (panic_then (panic_block (panic_Then (panic_block (panic_then (panic_block (panic_Then panic_body)))))))))) (by decide) (vo_add rfl rfl (by omega) (by omega)) (fun w hw => hw) ?_
      refine JR_v (i := 2) rfl (by kernel_rfl) (by kernel_rfl) rfl (by kernel_rfl) (by kernel_rfl) (panic_then (panic_Then (panic_Then (panic_then (panic_block (panic_Then (panic_block (panic_then (panic_block (panic_Then panic_body)))))))))) (by decide) (vo_mul rfl rfl (by omega) (by omega)) (fun w hw => hw) ?_
      refine JR_v (i := 3) rfl (by kernel_rfl) (by kernel_rfl) rfl (by kernel_rfl) (by kernel_rfl) (panic_then (panic_Then (panic_Then (panic_then (panic_block (panic_Then (panic_block (panic_then (panic_block (panic_Then panic_body)))))))))) (by decide) (vo_move rfl) (fun w hw => hw) ?_
      refine JR_v (i := 4) rfl (by kernel_rfl) (by kernel_rfl) rfl (by kernel_rfl) (by kernel_rfl) (panic_then (panic_Then (panic_Then (panic_then (panic_block (panic_Then (panic_block (panic_then (panic_block (panic_Then panic_body)))))))))) (by decide) (vo_len rfl Try.underlying54) (fun w hw => hw) ?_
      refine JR_v (i := 5) rfl (by kernel_rfl) (by kernel_rfl) rfl (by kernel_rfl) (by kernel_rfl) (panic_then (panic_Then (panic_Then (panic_then (panic_block (panic_Then (panic_block (panic_then (panic_block (panic_Then panic_body)))))))))) (by decide) (vo_cmp rfl rfl rfl) (fun w hw => hw) ?_
      refine JR_v (i := 6) rfl (by kernel_rfl) (by kernel_rfl) rfl (by kernel_rfl) (by kernel_rfl) (panic_then (panic_Then (panic_Then (panic_then (panic_block (panic_Then (panic_block (panic_then (panic_block (panic_Then panic_body)))))))))) (by decide) (vo_move rfl) (fun w hw => hw) ?_
      refine JR_case 19 rfl (fun hg19 => ?_) (fun hg19 => ?_)
      · have hk1 : (k + 1) * 512 ≤ old.length := by simp at hg19; omega
        have hp1 : RVals (fun b => b < w.heap.size) w (bytesC (piece old (k * 512))) (Go.sliced A1 ((k : Int) * 512).toNat (((k : Int) + 1) * 512).toNat c1 1) := by
          have := bytes_sliced (lo := (k : Int) * 512) (hi := ((k : Int) + 1) * 512) hr1 (by omega) (by omega) (by omega)
          rw [show (((k : Int) + 1) * 512).toNat - ((k : Int) * 512).toNat = 512 by omega, show ((k : Int) * 512).toNat = k * 512 by omega] at this
          rw [show ((k : Int) * 512).toNat = k * 512 by omega]
          exact this
        have hp2 : RVals (fun b => b < w.heap.size) w (bytesC (piece b i)) (Go.sliced A2 (i : Int).toNat ((i : Int) + 512).toNat c2 1) := by
          have := bytes_sliced (lo := (i : Int)) (hi := (i : Int) + 512) hr2 (by omega) (by omega) (by omega)
          rw [show ((i : Int) + 512).toNat - (i : Int).toNat = 512 by omega, show (i : Int).toNat = i by omega] at this
          rw [show (i : Int).toNat = i by omega]
          exact this
        have hpl : (piece old (k * 512)).length = (piece b i).length := by rw [piece_length (by omega), piece_length hi5]
        refine JR_vy (i := 7) rfl rfl rfl (by kernel_rfl) (by kernel_rfl) rfl (by kernel_rfl) (by kernel_rfl) (panic_then (panic_Then (panic_Then (panic_then (panic_block (panic_Then (panic_block (panic_then (panic_block (panic_Then panic_body)))))))))) (by decide) (vo_move rfl) (fun w hw => hw) ?_
        refine JR_vy (i := 8) rfl rfl rfl (by kernel_rfl) (by kernel_rfl) rfl (by kernel_rfl) (by kernel_rfl) (panic_then (panic_Then (panic_Then (panic_then (panic_block (panic_Then (panic_block (panic_then (panic_block (panic_Then panic_body)))))))))) (by decide) (vo_move rfl) (fun w hw => hw) ?_
        refine JR_vy (i := 9) rfl rfl rfl (by kernel_rfl) (by kernel_rfl) rfl (by kernel_rfl) (by kernel_rfl) (panic_then (panic_Then (panic_Then (panic_then (panic_block (panic_Then (panic_block (panic_then (panic_block (panic_Then panic_body)))))))))) (by decide) (vo_mul rfl rfl (by omega) (by omega)) (fun w hw => hw) ?_
        refine JR_vy (i := 10) rfl rfl rfl (by kernel_rfl) (by kernel_rfl) rfl (by kernel_rfl) (by kernel_rfl) (panic_then (panic_Then (panic_Then (panic_then (panic_block (panic_Then (panic_block (panic_then (panic_block (panic_Then panic_body)))))))))) (by decide) (vo_move rfl) (fun w hw => hw) ?_
        refine JR_vy (i := 11) rfl rfl rfl (by kernel_rfl) (by kernel_rfl) rfl (by kernel_rfl) (by kernel_rfl) (panic_then (panic_Then (panic_Then (panic_then (panic_block (panic_Then (panic_block (panic_then (panic_block (panic_Then panic_body)))))))))) (by decide) (vo_add rfl rfl (by omega) (by omega)) (fun w hw => hw) ?_
        refine JR_vy (i := 12) rfl rfl rfl (by kernel_rfl) (by kernel_rfl) rfl (by kernel_rfl) (by kernel_rfl) (panic_then (panic_Then (panic_Then (panic_then (panic_block (panic_Then (panic_block (panic_then (panic_block (panic_Then panic_body)))))))))) (by decide) (vo_mul rfl rfl (by omega) (by omega)) (fun w hw => hw) ?_
        refine JR_vy (i := 13) rfl rfl rfl (by kernel_rfl) (by kernel_rfl) rfl (by kernel_rfl) (by kernel_rfl) (panic_then (panic_Then (panic_Then (panic_then (panic_block (panic_Then (panic_block (panic_then (panic_block (panic_Then panic_body)))))))))) (by decide) (vo_sliceLH rfl rfl rfl Try.underlying54 sz5 (by omega) (by omega) (by omega)) (fun w hw => hw) ?_
        refine JR_vy (i := 14) rfl rfl rfl (by kernel_rfl) (by kernel_rfl) rfl (by kernel_rfl) (by kernel_rfl) (panic_then (panic_Then (panic_Then (panic_then (panic_block (panic_Then (panic_block (panic_then (panic_block (panic_Then panic_body)))))))))) (by decide) (vo_move rfl) (fun w hw => hw) ?_
        refine JR_vy (i := 15) rfl rfl rfl (by kernel_rfl) (by kernel_rfl) rfl (by kernel_rfl) (by kernel_rfl) (panic_then (panic_Then (panic_Then (panic_then (panic_block (panic_Then (panic_block (panic_then (panic_block (panic_Then panic_body)))))))))) (by decide) (vo_move rfl) (fun w hw => hw) ?_
        refine JR_vy (i := 16) rfl rfl rfl (by kernel_rfl) (by kernel_rfl) rfl (by kernel_rfl) (by kernel_rfl) (panic_then (panic_Then (panic_Then (panic_then (panic_block (panic_Then (panic_block (panic_then (panic_block (panic_Then panic_body)))))))))) (by decide) (vo_move rfl) (fun w hw => hw) ?_
        refine JR_vy (i := 17) rfl rfl rfl (by kernel_rfl) (by kernel_rfl) rfl (by kernel_rfl) (by kernel_rfl) (panic_then (panic_Then (panic_Then (panic_then (panic_block (panic_Then (panic_block (panic_then (panic_block (panic_Then panic_body)))))))))) (by decide) (vo_add rfl rfl (by omega) (by omega)) (fun w hw => hw) ?_
        refine JR_vy (i := 18) rfl rfl rfl (by kernel_rfl) (by kernel_rfl) rfl (by kernel_rfl) (by kernel_rfl) (panic_then (panic_Then (panic_Then (panic_then (panic_block (panic_Then (panic_block (panic_then (panic_block (panic_Then panic_body)))))))))) (by decide) (vo_sliceLH rfl rfl rfl Try.underlying54 sz5 (by omega) (by omega) (by omega)) (fun w hw => hw) ?_
        refine JR_split [19] (by kernel_rfl) rfl (all1 ?_)
        refine JK_scall rfl ⟨19, rfl, rfl⟩ rfl en52 (by decide) (fun w1 hw => refsame_spec _ _ hpl _ _ w1 (hp1.ext hw.ext_all) (hp2.ext hw.ext_all)) (fun w hw => hw) ?_
        rintro _ rfl
        refine JR_vy (i := 20) rfl rfl rfl (by kernel_rfl) (by kernel_rfl) rfl (by kernel_rfl) (by kernel_rfl) (panic_then (panic_Then (panic_Then (panic_then (panic_block (panic_Then (panic_block (panic_then (panic_block (panic_Then panic_body)))))))))) (by decide) (vo_not rfl) (fun w hw => hw) ?_
        refine JR_v (i := 21) rfl (by kernel_rfl) (by kernel_rfl) rfl (by kernel_rfl) (by kernel_rfl) (panic_then (panic_Then (panic_Then (panic_then (panic_block (panic_Then (panic_block (panic_then (panic_block (panic_Then panic_body)))))))))) (by decide) (vo_pick rfl rfl) (fun w hw => hw) ?_
        refine JR_done (by kernel_rfl) ?_
        refine JX_joinB _ ⟨rfl, (by repeat (first | exact trivial | refine ⟨rfl, ?_⟩ | refine ⟨trivial, ?_⟩))⟩ ?_
        simp_all [piece] <;> omega
      · refine JR_vn (i := 7) rfl rfl rfl (by kernel_rfl) (by kernel_rfl) rfl (by kernel_rfl) (by kernel_rfl) (panic_then (panic_Then (panic_Then (panic_then (panic_block (panic_Then (panic_block (panic_then (panic_block (panic_Then panic_body)))))))))) (by decide) (fun w hw => hw) ?_
        refine JR_vn (i := 8) rfl rfl rfl (by kernel_rfl) (by kernel_rfl) rfl (by kernel_rfl) (by kernel_rfl) (panic_then (panic_Then (panic_Then (panic_then (panic_block (panic_Then (panic_block (panic_then (panic_block (panic_Then panic_body)))))))))) (by decide) (fun w hw => hw) ?_
        refine JR_vn (i := 9) rfl rfl rfl (by kernel_rfl) (by kernel_rfl) rfl (by kernel_rfl) (by kernel_rfl) (panic_then (panic_Then (panic_Then (panic_then (panic_block (panic_Then (panic_block (panic_then (panic_block (panic_Then panic_body)))))))))) (by decide) (fun w hw => hw) ?_
        refine JR_vn (i := 10) rfl rfl rfl (by kernel_rfl) (by kernel_rfl) rfl (by kernel_rfl) (by kernel_rfl) (panic_then (panic_Then (panic_Then (panic_then (panic_block (panic_Then (panic_block (panic_then (panic_block (panic_Then panic_body)))))))))) (by decide) (fun w hw => hw) ?_
        refine JR_vn (i := 11) rfl rfl rfl (by kernel_rfl) (by kernel_rfl) rfl (by kernel_rfl) (by kernel_rfl) (panic_then (panic_Then (panic_Then (panic_then (panic_block (panic_Then (panic_block (panic_then (panic_block (panic_Then panic_body)))))))))) (by decide) (fun w hw => hw) ?_
        refine JR_vn (i := 12) rfl rfl rfl (by kernel_rfl) (by kernel_rfl) rfl (by kernel_rfl) (by kernel_rfl) (panic_then (panic_Then (panic_Then (panic_then (panic_block (panic_Then (panic_block (panic_then (panic_block (panic_Then panic_body)))))))))) (by decide) (fun w hw => hw) ?_
        refine JR_vn (i := 13) rfl rfl rfl (by kernel_rfl) (by kernel_rfl) rfl (by kernel_rfl) (by kernel_rfl) (panic_then (panic_Then (panic_Then (panic_then (panic_block (panic_Then (panic_block (panic_then (panic_block (panic_Then panic_body)))))))))) (by decide) (fun w hw => hw) ?_
        refine JR_vn (i := 14) rfl rfl rfl (by kernel_rfl) (by kernel_rfl) rfl (by kernel_rfl) (by kernel_rfl) (panic_then (panic_Then (panic_Then (panic_then (panic_block (panic_Then (panic_block (panic_then (panic_block (panic_Then panic_body)))))))))) (by decide) (fun w hw => hw) ?_
        refine JR_vn (i := 15) rfl rfl rfl (by kernel_rfl) (by kernel_rfl) rfl (by kernel_rfl) (by kernel_rfl) (panic_then (panic_Then (panic_Then (panic_then (panic_block (panic_Then (panic_block (panic_then (panic_block (panic_Then panic_body)))))))))) (by decide) (fun w hw => hw) ?_
        refine JR_vn (i := 16) rfl rfl rfl (by kernel_rfl) (by kernel_rfl) rfl (by kernel_rfl) (by kernel_rfl) (panic_then (panic_Then (panic_Then (panic_then (panic_block (panic_Then (panic_block (panic_then (panic_block (panic_Then panic_body)))))))))) (by decide) (fun w hw => hw) ?_
        refine JR_vn (i := 17) rfl rfl rfl (by kernel_rfl) (by kernel_rfl) rfl (by kernel_rfl) (by kernel_rfl) (panic_then (panic_Then (panic_Then (panic_then (panic_block (panic_Then (panic_block (panic_then (panic_block (panic_Then panic_body)))))))))) (by decide) (fun w hw => hw) ?_
        refine JR_vn (i := 18) rfl rfl rfl (by kernel_rfl) (by kernel_rfl) rfl (by kernel_rfl) (by kernel_rfl) (panic_then (panic_Then (panic_Then (panic_then (panic_block (panic_Then (panic_block (panic_then (panic_block (panic_Then panic_body)))))))))) (by decide) (fun w hw => hw) ?_
        refine JR_vn (i := 19) rfl rfl rfl (by kernel_rfl) (by kernel_rfl) rfl (by kernel_rfl) (by kernel_rfl) (panic_then (panic_Then (panic_Then (panic_then (panic_block (panic_Then (panic_block (panic_then (panic_block (panic_Then panic_body)))))))))) (by decide) (fun w hw => hw) ?_
        refine JR_vn (i := 20) rfl rfl rfl (by kernel_rfl) (by kernel_rfl) rfl (by kernel_rfl) (by kernel_rfl) (panic_then (panic_Then (panic_Then (panic_then (panic_block (panic_Then (panic_block (panic_then (panic_block (panic_Then panic_body)))))))))) (by decide) (fun w hw => hw) ?_
        refine JR_v (i := 21) rfl (by kernel_rfl) (by kernel_rfl) rfl (by kernel_rfl) (by kernel_rfl) (panic_then (panic_Then (panic_Then (panic_then (panic_block (panic_Then (panic_block (panic_then (panic_block (panic_Then panic_body)))))))))) (by decide) (vo_pick rfl rfl) (fun w hw => hw) ?_
        refine JR_done (by kernel_rfl) ?_
        refine JX_joinB _ ⟨rfl, (by repeat (first | exact trivial | refine ⟨rfl, ?_⟩ | refine ⟨trivial, ?_⟩))⟩ ?_
        simp_all [piece] <;> omega
    · refine JX_then ?_
      refine JC_cond _ rfl (fun hc34 => ?_) (fun hc34 => ?_)
      · have hk1 : (k + 1) * 512 ≤ old.length := by simp at hc34; omega
        have hne : piece old (k * 512) ≠ piece b i := by simp at hc34; exact hc34.2
        refine JC_skip ?_
        refine JX_then ?_
        refine JC_block ?_
        refine JC_region ?_
        refine JL_v (vo_move rfl) nofun (by decide) ?_
        refine JL_v (vo_add rfl rfl (by omega) (by omega)) nofun (by decide) ?_
        refine JL_v (vo_assign rfl) nofun (by decide) ?_
        refine JL_nil ?_
        refine JX_block ?_
        refine JX_loop ⟨k + 1, by omega, fun j hj => ?_⟩ (by show old.length - (k + 1) * 512 < old.length - k * 512; omega) (by repeat (first | exact trivial | refine ⟨rfl, ?_⟩ | refine ⟨trivial, ?_⟩)) (fun w hw => hw)
        by_cases h9 : j = k
        · subst h9; exact hne
        · exact hbef j (by omega)
      · refine JC_exit ?_
        refine JX_then_exit ?_
        refine JX_thenK_exit ?_
        refine JX_block_exit ?_
        refine JX_then ?_
        refine JC_seq ?_
        refine JC_region ?_
        refine JL_v (vo_move rfl) nofun (by decide) ?_
        refine JL_v (vo_add rfl rfl (by omega) (by omega)) nofun (by decide) ?_
        refine JL_v (vo_mul rfl rfl (by omega) (by omega)) nofun (by decide) ?_
        refine JL_v (vo_move rfl) nofun (by decide) ?_
        refine JL_v (vo_len rfl Try.underlying54) nofun (by decide) ?_
        refine JL_v (vo_cmp rfl rfl rfl) nofun (by decide) ?_
        refine JL_nil ?_
        refine JX_then ?_
        refine JC_cond _ rfl (fun hc42 => ?_) (fun hc42 => ?_)
        · have hk1 : (k + 1) * 512 ≤ old.length := by simp at hc42; omega
          have heq : piece old (k * 512) = piece b i := by
            simp at hc34
            exact hc34 (by omega)
          rw [pieceAt_some hk1 heq hbef] at hfi
          refine JC_seq ?_
          refine JC_region ?_
          refine JL_v (vo_move rfl) nofun (by decide) ?_
          refine JL_v (vo_move rfl) nofun (by decide) ?_
          refine JL_v (vo_move rfl) nofun (by decide) ?_
          refine JL_v (vo_build rfl (by first | exact bl60 _ _)) nofun (by decide) ?_
          refine st_bslice1 rfl Try.underlying55 (by first | exact zr60) sz60 (by exact Nat.le_of_ble_eq_true rfl) (by exact Nat.ne_of_gt (Nat.le_of_ble_eq_true rfl)) (by decide) (fun b47 => ?_)
          refine st_appendB rfl rfl Try.underlying55 ap60 (by rfl) (by decide) (by first | exact .frz ‹_› | exact .own (by repeat (first | exact .head _ | refine .tail _ ?_))) (by repeat (first | exact .head _ | apply TurnF.tail)) (by rfl) (by first | exact one_of_all rfl | assumption) (by omega) (by decide) (by decide) (fun v48 => ?_)
          refine JL_v (vo_assign rfl) nofun (by decide) ?_
          refine JL_nil ?_
          refine JX_then ?_
          refine JC_region ?_
          refine JL_v (vo_move rfl) nofun (by decide) ?_
          refine JL_v (vo_add rfl rfl (by omega) (by omega)) nofun (by decide) ?_
          refine JL_v (vo_assign rfl) nofun (by decide) ?_
          refine JL_nil ?_
          refine JX_block ?_
          refine JX_loop ⟨(i + 512, out ++ [((i : Int), (k : Int))], v48), hi5, by simp; omega, by simpa using hfi⟩ (by show b.length - (i + 512) < b.length - i; omega) (by repeat (first | exact trivial | refine ⟨rfl, ?_⟩ | refine ⟨trivial, ?_⟩)) (fun w hw => ?_)
          have := hw.sub (.cons _ (List.Sublist.refl _))
          simpa [List.flatMap_append, Value.cells] using this
        · have hk1 : old.length < (k + 1) * 512 := by simp at hc42; omega
          rw [pieceAt_none hk1 hbef] at hfi
          refine JC_region ?_
          refine JL_v (vo_move rfl) nofun (by decide) ?_
          refine JL_v (vo_add rfl rfl (by omega) (by omega)) nofun (by decide) ?_
          refine JL_v (vo_assign rfl) nofun (by decide) ?_
          refine JL_nil ?_
          refine JX_block ?_
          refine JX_loop ⟨(i + 1, out, vl), by show i + 1 ≤ b.length; omega, by show out.length ≤ i + 1; omega, by simpa using hfi⟩ (by show b.length - (i + 1) < b.length - i; omega) (by repeat (first | exact trivial | refine ⟨rfl, ?_⟩ | refine ⟨trivial, ?_⟩)) (fun w hw => hw)
  · refine JC_exit ?_
    refine JX_then_exit ?_
    refine JX_thenK_exit ?_
    refine JX_block_exit ?_
    refine JX_then ?_
    refine JC_seq ?_
    refine JC_region ?_
    refine JL_v (vo_move rfl) nofun (by decide) ?_
    refine JL_v (vo_assign rfl) nofun (by decide) ?_
    refine JL_nil ?_
    refine JX_then ?_
    refine JC_ret ?_
    refine ret1 rfl rfl ?_
    intro w1 hM
    have hend : findF old b i = [] := by rw [findF, dif_neg (by simp at hc12; omega)]
    rw [hend, List.append_nil] at hinv
    exact OC_end hM (.head _) ⟨by rw [← hinv], by rw [← hinv]⟩

end Go.Eng

set_option linter.unusedVariables false
set_option linter.unusedSimpArgs false
namespace Go.Eng
open Go Go.RowKit Go.Proofs
/-- a roller's sum over a window -/
def wsum (l : List UInt8) : Int := rsum (m32 (highA l.length l)) (m32 (lowS l))
/-- the numbers of the pieces of a sum -/
def ofSum (old : List UInt8) (n : Nat) (x : Int) : List Nat := (List.range n).filter fun k => decide (wsum (piece old (k * 512)) = x)
theorem ofSum_succ (old : List UInt8) (n : Nat) (x : Int) : ofSum old (n + 1) x = ofSum old n x ++ (if wsum (piece old (n * 512)) = x then [n] else []) := by
  unfold ofSum
  rw [List.range_succ, List.filter_append]
  congr 1
  by_cases h : wsum (piece old (n * 512)) = x <;> simp [h]
theorem pieceAt_ofSum (old here : List UInt8) : pieceAt old here = (ofSum old (old.length / 512) (wsum here)).find? fun k => decide (piece old (k * 512) = here) := by
  unfold pieceAt ofSum
  rw [List.find?_filter]
  congr 1
  funext k
  by_cases h : piece old (k * 512) = here
  · simp [h]
  · simp [h]
theorem idxI_find (q : Int → Bool) : ∀ (ks : List Nat) (i : Int), 0 ≤ i →
    (idxI q (ks.map Int.ofNat) i = -1 ∧ ks.find? (fun (k : Nat) => q (Int.ofNat k)) = none) ∨ ∃ (j : Nat) (k : Nat), idxI q (ks.map Int.ofNat) i = i + j ∧ ks[j]? = some k ∧ ks.find? (fun (k : Nat) => q (Int.ofNat k)) = some k
  | [], i, hi => .inl ⟨rfl, rfl⟩
  | k :: ks, i, hi => by
    simp only [List.map_cons, idxI]
    by_cases h : q (Int.ofNat k) = true
    · refine .inr ⟨0, k, by rw [if_pos h]; simp, rfl, ?_⟩
      simp only [List.find?, h]
    · have h' : q (Int.ofNat k) = false := by simpa using h
      rw [h', if_neg (by simp)]
      rcases idxI_find q ks (i + 1) (by omega) with ⟨h1, h2⟩ | ⟨j, k', h1, h2, h3⟩
      · exact .inl ⟨h1, by simp only [List.find?, h']; exact h2⟩
      · exact .inr ⟨j + 1, k', by rw [h1]; omega, by simpa using h2, by simp only [List.find?, h']; exact h3⟩
end Go.Eng

set_option linter.unusedVariables false
set_option linter.unusedSimpArgs false
namespace Go.Eng
open Go Go.RowKit Go.Proofs
/-- the groups so far: sum, the row's value, the pieces -/
abbrev Grp := List (Int × Value × List Nat)
def grpM (st : Grp) : List (Int × Value) := st.map fun e => (e.1, e.2.1)
def natsC (l : List Nat) : List Value := intsC (l.map Int.ofNat)
def grpR (st : Grp) : List Res := rowsR 3 (st.map fun e => (e.2.1, natsC e.2.2))
def grpG (st : Grp) (x : Int) : List Nat := ((st.find? fun e => decide (e.1 = x)).map (·.2.2)).getD []
theorem natsC_length (l : List Nat) : (natsC l).length = l.length := by simp [natsC, intsC]
theorem natsC_snoc (l : List Nat) (k : Nat) : natsC (l ++ [k]) = natsC l ++ [.int .i64 k] := by simp [natsC, intsC]
theorem grp_split (st : Grp) (x : Int) : (∃ s1 e s2, st = s1 ++ e :: s2 ∧ e.1 = x ∧ ∀ p ∈ s1, p.1 ≠ x) ∨ ∀ p ∈ st, p.1 ≠ x := by
  induction st with
  | nil => exact .inr (by simp)
  | cons p st ih =>
    by_cases h : p.1 = x
    · exact .inl ⟨[], p, st, rfl, h, by simp⟩
    · rcases ih with ⟨s1, e, s2, rfl, h1, h2⟩ | h1
      · refine .inl ⟨p :: s1, e, s2, rfl, h1, fun q hq => ?_⟩
        rcases List.mem_cons.1 hq with rfl | hq
        · exact h
        · exact h2 q hq
      · refine .inr fun q hq => ?_
        rcases List.mem_cons.1 hq with rfl | hq
        · exact h
        · exact h1 q hq
theorem aget_none {l : List (Int × Value)} {x : Int} (h : ∀ p ∈ l, p.1 ≠ x) : aget l x = none ∧ ∀ v, aset l x v = l ++ [(x, v)] := by
  induction l with
  | nil => exact ⟨rfl, fun v => rfl⟩
  | cons p l ih =>
    have h1 := ih (fun q hq => h q (.tail _ hq))
    have h2 := h p (.head _)
    exact ⟨by simp [aget, h2, h1.1], fun v => by simp [aset, h2, h1.2 v]⟩
theorem aget_mid {s1 s2 : List (Int × Value)} {x : Int} {u : Value} (h : ∀ p ∈ s1, p.1 ≠ x) : aget (s1 ++ (x, u) :: s2) x = some u ∧ ∀ v, aset (s1 ++ (x, u) :: s2) x v = s1 ++ (x, v) :: s2 := by
  induction s1 with
  | nil => exact ⟨by simp [aget], fun v => by simp [aset]⟩
  | cons p s1 ih =>
    have h1 := ih (fun q hq => h q (.tail _ hq))
    have h2 := h p (.head _)
    exact ⟨by simp [aget, h2, h1.1], fun v => by simp [aset, h2, h1.2 v]⟩
theorem grpG_none {st : Grp} {x : Int} (h : ∀ p ∈ st, p.1 ≠ x) : grpG st x = [] := by
  unfold grpG
  rw [List.find?_eq_none.2 (fun p hp => by simpa using h p hp)]; rfl
theorem grpG_mid {s1 s2 : Grp} {x : Int} {u : Value} {ks : List Nat} (h : ∀ p ∈ s1, p.1 ≠ x) : grpG (s1 ++ (x, u, ks) :: s2) x = ks := by
  unfold grpG
  rw [List.find?_append, List.find?_eq_none.2 (fun p hp => by simpa using h p hp)]
  simp
theorem grpG_other_mid {s1 s2 : Grp} {x y : Int} {u v : Value} {ks ls : List Nat} (hy : x ≠ y) : grpG (s1 ++ (x, u, ks) :: s2) y = grpG (s1 ++ (x, v, ls) :: s2) y := by
  unfold grpG
  rw [List.find?_append, List.find?_append]
  simp [hy]
theorem grpG_snoc {st : Grp} {x y : Int} {u : Value} {ks : List Nat} (h : ∀ p ∈ st, p.1 ≠ x) : grpG (st ++ [(x, u, ks)]) y = if x = y then ks else grpG st y := by
  unfold grpG
  rw [List.find?_append]
  by_cases hy : x = y
  · subst hy
    rw [List.find?_eq_none.2 (fun p hp => by simpa using h p hp)]
    simp
  · simp [hy]
end Go.Eng

set_option linter.unusedVariables false
set_option linter.unusedSimpArgs false
namespace Go.Eng
open Go Go.RowKit Go.Proofs
structure At14 (old : List UInt8) where
  k : Nat
  st : Grp
  o : Obj
  hk : k ≤ old.length / 512
  hm : MapO (.int .u32) (fun a => Value.int .u32 a) (grpM st) o
  hg : ∀ x, grpG st x = ofSum old k x
theorem grp_snoc {old : List UInt8} {st : Grp} {k : Nat} {x : Int} (hx : wsum (piece old (k * 512)) = x) (hg : ∀ y, grpG st y = ofSum old k y) (hn : ∀ p ∈ st, p.1 ≠ x) (v : Value) : ∀ y, grpG (st ++ [(x, v, [k])]) y = ofSum old (k + 1) y := fun y => by
  rw [grpG_snoc hn, ofSum_succ, ← hg y]
  by_cases h : x = y
  · subst h
    rw [if_pos rfl, if_pos hx, grpG_none hn]; rfl
  · rw [if_neg h, if_neg (by rw [hx]; exact h), List.append_nil]
theorem grp_mid {old : List UInt8} {s1 s2 : Grp} {k : Nat} {x : Int} {u : Value} {ks : List Nat} (hx : wsum (piece old (k * 512)) = x) (hg : ∀ y, grpG (s1 ++ (x, u, ks) :: s2) y = ofSum old k y) (hn : ∀ p ∈ s1, p.1 ≠ x) (v : Value) : ∀ y, grpG (s1 ++ (x, v, ks ++ [k]) :: s2) y = ofSum old (k + 1) y := fun y => by
  rw [ofSum_succ, ← hg y]
  by_cases h : x = y
  · subst h
    rw [if_pos hx, grpG_mid hn, grpG_mid hn]
  · rw [if_neg (by rw [hx]; exact h), List.append_nil, grpG_other_mid h]
theorem grpM_mid (s1 s2 : Grp) (x : Int) (u : Value) (ks : List Nat) : grpM (s1 ++ (x, u, ks) :: s2) = grpM s1 ++ (x, u) :: grpM s2 := by simp [grpM]
theorem grpR_mid (s1 s2 : Grp) (x : Int) (u : Value) (ks : List Nat) : grpR (s1 ++ (x, u, ks) :: s2) = grpR s1 ++ .row u 3 1 (natsC ks).length (natsC ks) :: grpR s2 := by simp [grpR, rowsR]
theorem grpM_ne {s : Grp} {x : Int} (h : ∀ p ∈ s, p.1 ≠ x) : ∀ p ∈ grpM s, p.1 ≠ x := by
  intro p hp
  obtain ⟨q, hq, rfl⟩ := List.mem_map.1 hp
  exact h q hq
theorem zr26 : (Try.prog.info? 26).bind (·.zero) = some (.slice none 0 0) := by kernel_rfl
end Go.Eng

set_option linter.unusedVariables false
set_option linter.unusedSimpArgs false
namespace Go.Eng
open Go Go.RowKit Go.Proofs
/-- what a look into the groups gives -/
theorem grp_look {Z : Nat → Prop} {w : World} {st : Grp} (h : ∀ p ∈ st.map (fun e => (e.2.1, natsC e.2.2)), RVals Z w p.2 p.1) (x : Int) : RVals Z w (natsC (grpG st x)) ((aget (grpM st) x).getD (.slice none 0 0)) := by
  rcases grp_split st x with ⟨s1, ⟨y, u, ks⟩, s2, rfl, hy, hne⟩ | hne
  · have hy' : y = x := hy
    subst hy'
    rw [grpG_mid hne, grpM_mid, (aget_mid (grpM_ne hne)).1]
    exact h (u, natsC ks) (List.mem_map.2 ⟨(y, u, ks), by simp, rfl⟩)
  · rw [grpG_none hne, (aget_none (grpM_ne hne)).1]
    exact RVals.nil
end Go.Eng
namespace Go.Eng
open Go Go.RowKit Go.Proofs
structure In14 (old b : List UInt8) (out : List (Int × Int)) (i0 : Nat) where
  i : Nat
  hge : i0 ≤ i
  ring : List UInt8
  p : Nat
  h5 : i + 512 ≤ b.length
  hr : ring.length = 512
  hp : p < 512
  hw : win ring p = piece b i
  hinv : out ++ findF old b i = findF old b 0
  ho : out.length ≤ i
theorem In14.sum {old b : List UInt8} {out : List (Int × Int)} {i0 : Nat} (x : In14 old b out i0) : rsum (m32 (highA x.ring.length (win x.ring x.p))) (m32 (lowS (win x.ring x.p))) = wsum (piece b x.i) := by
  rw [x.hw, x.hr]; unfold wsum; rw [piece_length x.h5]
theorem piece_next {b : List UInt8} {i : Nat} (h : i + 1 + 512 ≤ b.length) {y c : UInt8} {r : List UInt8} (h1 : piece b i = y :: r) (hc : b[i + 512]? = some c) : piece b (i + 1) = r ++ [c] := by
  unfold piece at *
  have hi : i < b.length := by omega
  rw [List.drop_eq_getElem_cons hi, List.take_succ_cons] at h1
  have h2 : r = (b.drop (i + 1)).take 511 := by
    have := (List.cons.inj h1).2
    exact this.symm
  rw [h2, show (512 : Nat) = 511 + 1 by rfl, List.take_add_one, List.getElem?_drop, show i + 1 + 511 = i + 512 by omega, hc]
  rfl
end Go.Eng
