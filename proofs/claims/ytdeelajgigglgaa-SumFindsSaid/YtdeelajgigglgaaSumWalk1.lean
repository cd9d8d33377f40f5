/-
  Part of the proofs over this seat: G1 S1 S2 G2 S3 G3 S4 G4. Own work; imports the kit.
-/
import Derived.Test.YtdeelajgigglgaaProg
import Derived.Test.YtdeelajgigglgaaEng3
set_option linter.unusedVariables false
set_option linter.unusedSimpArgs false
namespace Go.Eng
open Go Go.RowKit Go.Proofs
theorem bytes_at {Z : Nat → Prop} {w : World} {l : List UInt8} {v : Value} (hr : RVals Z w (bytesC l) v) {i : Nat} {b : UInt8} (hi : l[i]? = some b) : ∃ k o c cs te fr, v = .slice (some ⟨k, o, none⟩) l.length c ∧ FB Z w k (.cells cs te fr) ∧ cs[o + i]? = some (.int .u8 b.toNat) := by
  obtain ⟨k, o, c, cs, te, fr, h1, h2, h3⟩ := hr.at_ (bytesC_get hi)
  exact ⟨k, o, c, cs, te, fr, by rw [h1, bytesC_length], h2, h3⟩
theorem bytes_slice {Z : Nat → Prop} {w : World} {l : List UInt8} {v : Value} (hr : RVals Z w (bytesC l) v) : ∃ A c, v = .slice A l.length c ∧ l.length ≤ c ∧ c ≤ 9223372036854775807 := by
  obtain ⟨A, c, rfl, h1, h2, _⟩ := hr
  rw [bytesC_length] at h1
  exact ⟨A, c, by rw [bytesC_length], h1, h2⟩
theorem u8_ne {a b : UInt8} : ((a.toNat : Int) != (b.toNat : Int)) = !(a == b) := by
  rw [Bool.eq_iff_iff]
  simp [← UInt8.toNat_inj]
  omega
end Go.Eng

set_option linter.unusedVariables false
set_option linter.unusedSimpArgs false
namespace Go.Eng
open Go Go.RowKit Go.Proofs
theorem sz5 : (Try.prog.info? 5).map (·.size) = some 1 := by kernel_rfl
theorem take_snoc_get {α : Type} {l : List α} {i : Nat} {x : α} (h : l[i]? = some x) : l.take (i + 1) = l.take i ++ [x] := by
  obtain ⟨hi, rfl⟩ := List.getElem?_eq_some_iff.1 h
  rw [List.take_succ_eq_append_getElem hi]

set_option maxRecDepth 8000 in
set_option maxHeartbeats 1000000 in
theorem same_spec (l1 l2 : List UInt8) (v1 v2 : Value) (w : World) (hr1 : RVals (fun b => b < w.heap.size) w (bytesC l1) v1) (hr2 : RVals (fun b => b < w.heap.size) w (bytesC l2) v2) : SCalls Try.prog 16 #[v1, v2] w (fun u => u = .bool (decide (l1 = l2))) := by
  obtain ⟨A1, c1, rfl, hn1, hc1⟩ := bytes_slice hr1
  obtain ⟨A2, c2, rfl, hn2, hc2⟩ := bytes_slice hr2
  refine enter (N := 26) Try.func16 rfl Try.ntmps16 (Nat.le_of_ble_eq_true rfl) [(0, .slice A1 l1.length c1), (1, .slice A2 l2.length c2)] (by repeat (first | exact trivial | refine ⟨rfl, ?_⟩)) (Mem.start w (fun _ => False) (fun b => b < w.heap.size) (fun _ h => h)) ?_
  refine JC_seq ?_
  refine JC_region ?_
  refine JL_v (vo_assign rfl) nofun (by decide) ?_
  refine JL_nil ?_
  refine JX_then ?_
  refine JC_seq ?_
  refine JC_seq ?_
  refine JC_region ?_
  refine JL_v (vo_move rfl) nofun (by decide) ?_
  refine JL_v (vo_len rfl Try.underlying54) nofun (by decide) ?_
  refine JL_v (vo_move rfl) nofun (by decide) ?_
  refine JL_v (vo_len rfl Try.underlying54) nofun (by decide) ?_
  refine JL_v (vo_cmp rfl rfl rfl) nofun (by decide) ?_
  refine JL_nil ?_
  refine JX_then ?_
  refine JC_cond _ rfl (fun hc10 => ?_) (fun hc10 => ?_)
  · refine JC_seq ?_
    refine JC_region ?_
    refine JL_v (vo_assign rfl) nofun (by decide) ?_
    refine JL_nil ?_
    refine JX_then ?_
    refine JC_ret ?_
    refine JX_then_ret ?_
    refine ret1 rfl rfl ?_
    intro w1 hM
    refine SC_end hM ?_
    rw [decide_eq_false]
    intro e
    subst e
    simp at hc10
  · refine JC_skip ?_
    refine JX_then ?_
    refine JC_seq ?_
    refine JC_seq ?_
    refine JC_region ?_
    refine JL_v (vo_assign rfl) nofun (by decide) ?_
    refine JL_nil ?_
    refine JX_then ?_
    refine JC_block ?_
    have hlen : l1.length = l2.length := by simp at hc10; omega
    refine JC_loop (α := { i : Nat // i ≤ l1.length ∧ l1.take i = l2.take i }) (fun i => [(0, .slice A1 l1.length c1), (1, .slice A2 l2.length c2), (5, .int .i64 i.1)]) (fun i => Mem w (fun _ => False) (fun b => b < w.heap.size) (fun b => b < w.heap.size) w []) (fun i => l1.length - i.1) ⟨0, by omega, by simp⟩ (by repeat (first | exact trivial | refine ⟨rfl, ?_⟩ | refine ⟨trivial, ?_⟩)) (fun w hw => hw) ?_
    rintro ⟨i, hile, hinv⟩
    dsimp only
    refine JC_seq ?_
    refine JC_seq ?_
    refine JC_region ?_
    refine JL_v (vo_move rfl) nofun (by decide) ?_
    refine JL_v (vo_move rfl) nofun (by decide) ?_
    refine JL_v (vo_len rfl Try.underlying54) nofun (by decide) ?_
    refine JL_v (vo_cmp rfl rfl rfl) nofun (by decide) ?_
    refine JL_nil ?_
    refine JX_then ?_
    refine JC_cond _ rfl (fun hc14 => ?_) (fun hc14 => ?_)
    · have hil : i < l1.length := by simp at hc14; omega
      obtain ⟨x, hx⟩ : ∃ x, l1[i]? = some x := ⟨_, List.getElem?_eq_getElem hil⟩
      obtain ⟨y, hy⟩ : ∃ y, l2[i]? = some y := ⟨_, List.getElem?_eq_getElem (by omega)⟩
      obtain ⟨b1', o1', c1', cs1, te1, fr1, hv1, hfb1, hcell1⟩ := bytes_at hr1 hx
      cases hv1
      obtain ⟨b2', o2', c2', cs2, te2, fr2, hv2, hfb2, hcell2⟩ := bytes_at hr2 hy
      cases hv2
      refine JC_skip ?_
      refine JX_then ?_
      refine JC_seq ?_
      refine JC_block ?_
      refine JC_seq ?_
      refine JC_drawM 9 (by kernel_rfl) (fun w hw => Mem.drew hw) ?_
      refine JR_v (i := 0) rfl (by kernel_rfl) (by kernel_rfl) rfl (by kernel_rfl) (by kernel_rfl) (panic_Then (panic_block (panic_Then (panic_then (panic_block (panic_Then panic_body)))))) (by decide) (vo_move rfl) (fun w hw => hw) ?_
      refine JR_v (i := 1) rfl (by kernel_rfl) (by kernel_rfl) rfl (by kernel_rfl) (by kernel_rfl) (panic_Then (panic_block (panic_Then (panic_then (panic_block (panic_Then panic_body)))))) (by decide) (vo_move rfl) (fun w hw => hw) ?_
      refine JR_v (i := 2) rfl (by kernel_rfl) (by kernel_rfl) rfl (by kernel_rfl) (by kernel_rfl) (panic_Then (panic_block (panic_Then (panic_then (panic_block (panic_Then panic_body)))))) (by decide) (vo_indexAddr rfl rfl Try.underlying54 sz5 (by omega) (by omega)) (fun w hw => hw) ?_
      refine JR_v (i := 3) rfl (by kernel_rfl) (by kernel_rfl) rfl (by kernel_rfl) (by kernel_rfl) (panic_Then (panic_block (panic_Then (panic_then (panic_block (panic_Then panic_body)))))) (by decide) (vo_load rfl (by first | exact .frz ‹_› | exact .own (by repeat (first | exact .head _ | refine .tail _ ?_))) (by first | exact .cell Try.underlying5 rfl rfl | exact .cell Try.underlying5 rfl (by simpa using hcell1) | exact .cell Try.underlying5 rfl (by simpa using hcell2))) (fun w hw => hw) ?_
      refine JR_v (i := 4) rfl (by kernel_rfl) (by kernel_rfl) rfl (by kernel_rfl) (by kernel_rfl) (panic_Then (panic_block (panic_Then (panic_then (panic_block (panic_Then panic_body)))))) (by decide) (vo_move rfl) (fun w hw => hw) ?_
      refine JR_v (i := 5) rfl (by kernel_rfl) (by kernel_rfl) rfl (by kernel_rfl) (by kernel_rfl) (panic_Then (panic_block (panic_Then (panic_then (panic_block (panic_Then panic_body)))))) (by decide) (vo_move rfl) (fun w hw => hw) ?_
      refine JR_v (i := 6) rfl (by kernel_rfl) (by kernel_rfl) rfl (by kernel_rfl) (by kernel_rfl) (panic_Then (panic_block (panic_Then (panic_then (panic_block (panic_Then panic_body)))))) (by decide) (vo_indexAddr rfl rfl Try.underlying54 sz5 (by omega) (by omega)) (fun w hw => hw) ?_
      refine JR_v (i := 7) rfl (by kernel_rfl) (by kernel_rfl) rfl (by kernel_rfl) (by kernel_rfl) (panic_Then (panic_block (panic_Then (panic_then (panic_block (panic_Then panic_body)))))) (by decide) (vo_load rfl (by first | exact .frz ‹_› | exact .own (by repeat (first | exact .head _ | refine .tail _ ?_))) (by first | exact .cell Try.underlying5 rfl rfl | exact .cell Try.underlying5 rfl (by simpa using hcell1) | exact .cell Try.underlying5 rfl (by simpa using hcell2))) (fun w hw => hw) ?_
      refine JR_v (i := 8) rfl (by kernel_rfl) (by kernel_rfl) rfl (by kernel_rfl) (by kernel_rfl) (panic_Then (panic_block (panic_Then (panic_then (panic_block (panic_Then panic_body)))))) (by decide) (vo_cmp rfl rfl rfl) (fun w hw => hw) ?_
      refine JR_done (by kernel_rfl) ?_
      refine JX_then ?_
      refine JC_cond _ rfl (fun hc25 => ?_) (fun hc25 => ?_)
      · refine JC_seq ?_
        refine JC_region ?_
        refine JL_v (vo_assign rfl) nofun (by decide) ?_
        refine JL_nil ?_
        refine JX_then ?_
        refine JC_ret ?_
        refine JX_block_ret ?_
        refine JX_then_ret ?_
        refine JX_thenK_ret ?_
        refine JX_block_ret ?_
        refine JX_then_ret ?_
        refine ret1 rfl rfl ?_
        intro w1 hM
        refine SC_end hM ?_
        have hxy : ¬ x = y := by simpa [u8_ne] using hc25
        rw [decide_eq_false]
        intro e
        subst e
        rw [hx] at hy
        cases hy
        exact hxy rfl
      · refine JC_skip ?_
        refine JX_block ?_
        refine JX_then ?_
        refine JC_region ?_
        refine JL_v (vo_move rfl) nofun (by decide) ?_
        refine JL_v (vo_add rfl rfl (by omega) (by omega)) nofun (by decide) ?_
        refine JL_v (vo_assign rfl) nofun (by decide) ?_
        refine JL_nil ?_
        have hxy : x = y := by simpa [u8_ne] using hc25
        subst hxy
        refine JX_loop ⟨i + 1, hil, by rw [take_snoc_get hx, take_snoc_get hy, hinv]⟩ (by show l1.length - (i + 1) < l1.length - i; omega) (by repeat (first | exact trivial | refine ⟨rfl, ?_⟩ | refine ⟨trivial, ?_⟩)) (fun w hw => hw)
    · refine JC_exit ?_
      refine JX_then_exit ?_
      refine JX_thenK_exit ?_
      refine JX_block_exit ?_
      refine JX_then ?_
      refine JC_seq ?_
      refine JC_region ?_
      refine JL_v (vo_assign rfl) nofun (by decide) ?_
      refine JL_nil ?_
      refine JX_then ?_
      refine JC_ret ?_
      refine ret1 rfl rfl ?_
      intro w1 hM
      have hi : i = l1.length := by simp at hc14; omega
      subst hi
      refine SC_end hM ?_
      rw [decide_eq_true]
      rw [List.take_length, hlen, List.take_length] at hinv
      exact hinv
set_option maxRecDepth 8000 in
set_option maxHeartbeats 1000000 in
theorem refsame_spec (l1 l2 : List UInt8) (hlen : l1.length = l2.length) (v1 v2 : Value) (w : World) (hr1 : RVals (fun b => b < w.heap.size) w (bytesC l1) v1) (hr2 : RVals (fun b => b < w.heap.size) w (bytesC l2) v2) : SCalls Try.prog 52 #[v1, v2] w (fun u => u = .bool (decide (l1 = l2))) := by
  obtain ⟨A1, c1, rfl, hn1, hc1⟩ := bytes_slice hr1
  obtain ⟨A2, c2, rfl, hn2, hc2⟩ := bytes_slice hr2
  refine enter (N := 21) Try.func52 rfl Try.ntmps52 (Nat.le_of_ble_eq_true rfl) [(0, .slice A1 l1.length c1), (1, .slice A2 l2.length c2)] (by repeat (first | exact trivial | refine ⟨rfl, ?_⟩)) (Mem.start w (fun _ => False) (fun b => b < w.heap.size) (fun _ h => h)) ?_
  refine JC_seq ?_
  refine JC_region ?_
  refine JL_v (vo_assign rfl) nofun (by decide) ?_
  refine JL_nil ?_
  refine JX_then ?_
  refine JC_seq ?_
  refine JC_seq ?_
  refine JC_region ?_
  refine JL_v (vo_assign rfl) nofun (by decide) ?_
  refine JL_nil ?_
  refine JX_then ?_
  refine JC_block ?_
  refine JC_loop (α := { i : Nat // i ≤ l1.length ∧ l1.take i = l2.take i }) (fun i => [(0, .slice A1 l1.length c1), (1, .slice A2 l2.length c2), (5, .int .i64 i.1)]) (fun i => Mem w (fun _ => False) (fun b => b < w.heap.size) (fun b => b < w.heap.size) w []) (fun i => l1.length - i.1) ⟨0, by omega, by simp⟩ (by repeat (first | exact trivial | refine ⟨rfl, ?_⟩ | refine ⟨trivial, ?_⟩)) (fun w hw => hw) ?_
  rintro ⟨i, hile, hinv⟩
  dsimp only
  refine JC_seq ?_
  refine JC_seq ?_
  refine JC_region ?_
  refine JL_v (vo_move rfl) nofun (by decide) ?_
  refine JL_v (vo_move rfl) nofun (by decide) ?_
  refine JL_v (vo_len rfl Try.underlying54) nofun (by decide) ?_
  refine JL_v (vo_cmp rfl rfl rfl) nofun (by decide) ?_
  refine JL_nil ?_
  refine JX_then ?_
  refine JC_cond _ rfl (fun hc9 => ?_) (fun hc9 => ?_)
  · have hil : i < l1.length := by simp at hc9; omega
    obtain ⟨x, hx⟩ : ∃ x, l1[i]? = some x := ⟨_, List.getElem?_eq_getElem hil⟩
    obtain ⟨y, hy⟩ : ∃ y, l2[i]? = some y := ⟨_, List.getElem?_eq_getElem (by omega)⟩
    obtain ⟨b1', o1', c1', cs1, te1, fr1, hv1, hfb1, hcell1⟩ := bytes_at hr1 hx
    cases hv1
    obtain ⟨b2', o2', c2', cs2, te2, fr2, hv2, hfb2, hcell2⟩ := bytes_at hr2 hy
    cases hv2
    refine JC_skip ?_
    refine JX_then ?_
    refine JC_seq ?_
    refine JC_block ?_
    refine JC_seq ?_
    refine JC_drawM 9 (by kernel_rfl) (fun w hw => Mem.drew hw) ?_
    refine JR_v (i := 0) rfl (by kernel_rfl) (by kernel_rfl) rfl (by kernel_rfl) (by kernel_rfl) (panic_Then (panic_block (panic_Then (panic_then (panic_block (panic_Then panic_body)))))) (by decide) (vo_move rfl) (fun w hw => hw) ?_
    refine JR_v (i := 1) rfl (by kernel_rfl) (by kernel_rfl) rfl (by kernel_rfl) (by kernel_rfl) (panic_Then (panic_block (panic_Then (panic_then (panic_block (panic_Then panic_body)))))) (by decide) (vo_move rfl) (fun w hw => hw) ?_
    refine JR_v (i := 2) rfl (by kernel_rfl) (by kernel_rfl) rfl (by kernel_rfl) (by kernel_rfl) (panic_Then (panic_block (panic_Then (panic_then (panic_block (panic_Then panic_body)))))) (by decide) (vo_indexAddr rfl rfl Try.underlying54 sz5 (by omega) (by omega)) (fun w hw => hw) ?_
    refine JR_v (i := 3) rfl (by kernel_rfl) (by kernel_rfl) rfl (by kernel_rfl) (by kernel_rfl) (panic_Then (panic_block (panic_Then (panic_then (panic_block (panic_Then panic_body)))))) (by decide) (vo_load rfl (by first | exact .frz ‹_› | exact .own (by repeat (first | exact .head _ | refine .tail _ ?_))) (by first | exact .cell Try.underlying5 rfl rfl | exact .cell Try.underlying5 rfl (by simpa using hcell1) | exact .cell Try.underlying5 rfl (by simpa using hcell2))) (fun w hw => hw) ?_
    refine JR_v (i := 4) rfl (by kernel_rfl) (by kernel_rfl) rfl (by kernel_rfl) (by kernel_rfl) (panic_Then (panic_block (panic_Then (panic_then (panic_block (panic_Then panic_body)))))) (by decide) (vo_move rfl) (fun w hw => hw) ?_
    refine JR_v (i := 5) rfl (by kernel_rfl) (by kernel_rfl) rfl (by kernel_rfl) (by kernel_rfl) (panic_Then (panic_block (panic_Then (panic_then (panic_block (panic_Then panic_body)))))) (by decide) (vo_move rfl) (fun w hw => hw) ?_
    refine JR_v (i := 6) rfl (by kernel_rfl) (by kernel_rfl) rfl (by kernel_rfl) (by kernel_rfl) (panic_Then (panic_block (panic_Then (panic_then (panic_block (panic_Then panic_body)))))) (by decide) (vo_indexAddr rfl rfl Try.underlying54 sz5 (by omega) (by omega)) (fun w hw => hw) ?_
    refine JR_v (i := 7) rfl (by kernel_rfl) (by kernel_rfl) rfl (by kernel_rfl) (by kernel_rfl) (panic_Then (panic_block (panic_Then (panic_then (panic_block (panic_Then panic_body)))))) (by decide) (vo_load rfl (by first | exact .frz ‹_› | exact .own (by repeat (first | exact .head _ | refine .tail _ ?_))) (by first | exact .cell Try.underlying5 rfl rfl | exact .cell Try.underlying5 rfl (by simpa using hcell1) | exact .cell Try.underlying5 rfl (by simpa using hcell2))) (fun w hw => hw) ?_
    refine JR_v (i := 8) rfl (by kernel_rfl) (by kernel_rfl) rfl (by kernel_rfl) (by kernel_rfl) (panic_Then (panic_block (panic_Then (panic_then (panic_block (panic_Then panic_body)))))) (by decide) (vo_cmp rfl rfl rfl) (fun w hw => hw) ?_
    refine JR_done (by kernel_rfl) ?_
    refine JX_then ?_
    refine JC_cond _ rfl (fun hc20 => ?_) (fun hc20 => ?_)
    · refine JC_seq ?_
      refine JC_region ?_
      refine JL_v (vo_assign rfl) nofun (by decide) ?_
      refine JL_nil ?_
      refine JX_then ?_
      refine JC_ret ?_
      refine JX_block_ret ?_
      refine JX_then_ret ?_
      refine JX_thenK_ret ?_
      refine JX_block_ret ?_
      refine JX_then_ret ?_
      refine ret1 rfl rfl ?_
      intro w1 hM
      refine SC_end hM ?_
      have hxy : ¬ x = y := by simpa [u8_ne] using hc20
      rw [decide_eq_false]
      intro e
      subst e
      rw [hx] at hy
      cases hy
      exact hxy rfl
    · refine JC_skip ?_
      refine JX_block ?_
      refine JX_then ?_
      refine JC_region ?_
      refine JL_v (vo_move rfl) nofun (by decide) ?_
      refine JL_v (vo_add rfl rfl (by omega) (by omega)) nofun (by decide) ?_
      refine JL_v (vo_assign rfl) nofun (by decide) ?_
      refine JL_nil ?_
      have hxy : x = y := by simpa [u8_ne] using hc20
      subst hxy
      refine JX_loop ⟨i + 1, hil, by rw [take_snoc_get hx, take_snoc_get hy, hinv]⟩ (by show l1.length - (i + 1) < l1.length - i; omega) (by repeat (first | exact trivial | refine ⟨rfl, ?_⟩ | refine ⟨trivial, ?_⟩)) (fun w hw => hw)
  · refine JC_exit ?_
    refine JX_then_exit ?_
    refine JX_thenK_exit ?_
    refine JX_block_exit ?_
    refine JX_then ?_
    refine JC_seq ?_
    refine JC_region ?_
    refine JL_v (vo_assign rfl) nofun (by decide) ?_
    refine JL_nil ?_
    refine JX_then ?_
    refine JC_ret ?_
    refine ret1 rfl rfl ?_
    intro w1 hM
    have hi : i = l1.length := by simp at hc9; omega
    subst hi
    refine SC_end hM ?_
    rw [decide_eq_true]
    rw [List.take_length, hlen, List.take_length] at hinv
    exact hinv

end Go.Eng

set_option linter.unusedVariables false
set_option linter.unusedSimpArgs false
namespace Go.Eng
open Go Go.RowKit Go.Proofs
theorem ap5 : (Try.prog.info? 5).map (fun i => (i.zero, i.size, i.bytes)) = some (some (.int .u8 0), 1, 1) := by kernel_rfl
theorem zr5 : (Try.prog.info? 5).bind (·.zero) = some (.int .u8 0) := by kernel_rfl

set_option maxRecDepth 8000 in
set_option maxHeartbeats 1000000 in
theorem equal_spec (l1 l2 : List UInt8) (v1 v2 : Value) (w : World) (hr1 : RVals (fun b => b < w.heap.size) w (bytesC l1) v1) (hr2 : RVals (fun b => b < w.heap.size) w (bytesC l2) v2) : SCalls Try.prog 58 #[v1, v2] w (fun u => u = .bool (decide (l1 = l2))) := by
  obtain ⟨A1, c1, rfl, hn1, hc1⟩ := bytes_slice hr1
  obtain ⟨A2, c2, rfl, hn2, hc2⟩ := bytes_slice hr2
  refine enter (N := 10) Try.func58 rfl Try.ntmps58 (Nat.le_of_ble_eq_true rfl) [(0, .slice A1 l1.length c1), (1, .slice A2 l2.length c2)] (by repeat (first | exact trivial | refine ⟨rfl, ?_⟩)) (Mem.start w (fun _ => False) (fun b => b < w.heap.size) (fun _ h => h)) ?_
  refine JC_seq ?_
  refine JC_region ?_
  refine JL_v (vo_assign rfl) nofun (by decide) ?_
  refine JL_nil ?_
  refine JX_then ?_
  refine JC_seq ?_
  refine JC_region ?_
  refine JL_v (vo_move rfl) nofun (by decide) ?_
  refine JL_v (vo_bytesStr rfl hr1 Try.underlying54 Try.underlying5 Try.underlying9) nofun (by decide) ?_
  refine JL_v (vo_move rfl) nofun (by decide) ?_
  refine JL_v (vo_bytesStr rfl hr2 Try.underlying54 Try.underlying5 Try.underlying9) nofun (by decide) ?_
  refine JL_v (vo_scmp rfl rfl rfl) nofun (by decide) ?_
  refine JL_v (vo_assign rfl) nofun (by decide) ?_
  refine JL_nil ?_
  refine JX_then ?_
  refine JC_ret ?_
  refine ret1 rfl rfl ?_
  intro w1 hM
  exact SC_end hM (by rw [← beq_mk])
set_option maxRecDepth 8000 in
set_option maxHeartbeats 1000000 in
theorem clone_spec (l : List UInt8) (v : Value) (hl : l.length ≤ 1000000) (w : World) (hr : RVals (fun b => b < w.heap.size) w (bytesC l) v) : OCalls Try.prog 76 #[v] w 5 1 (fun n xs => n = l.length ∧ xs = bytesC l) := by
  obtain ⟨A, c, rfl, hn, hc⟩ := bytes_slice hr
  refine enter (N := 8) Try.func76 rfl Try.ntmps76 (Nat.le_of_ble_eq_true rfl) [(0, .slice A l.length c)] (by repeat (first | exact trivial | refine ⟨rfl, ?_⟩)) (Mem.start w (fun _ => False) (fun b => b < w.heap.size) (fun _ h => h)) ?_
  refine JC_seq ?_
  refine JC_region ?_
  refine JL_v (vo_assign rfl) nofun (by decide) ?_
  refine JL_nil ?_
  refine JX_then ?_
  refine JC_seq ?_
  refine JC_seq ?_
  refine JC_region ?_
  refine JL_v (vo_move rfl) nofun (by decide) ?_
  refine JL_v (vo_sliceNil rfl rfl Try.underlying54 rfl) nofun (by decide) ?_
  refine JL_nil ?_
  refine JX_then ?_
  refine JC_cond _ rfl (fun hc4 => ?_) (fun hc4 => ?_)
  · have hA : A = none := by simpa using hc4
    have hl0 : l = [] := by
      obtain ⟨A9, c9, he9, _, _, h9⟩ := hr
      rw [bytesC_length] at he9
      cases he9
      subst hA
      rcases h9 with h9 | ⟨_, _, _, _, _, h9, _⟩
      · simpa [bytesC] using h9
      · cases h9
    subst hl0
    refine JC_seq ?_
    refine JC_region ?_
    refine JL_v (vo_assign rfl) nofun (by decide) ?_
    refine JL_nil ?_
    refine JX_then ?_
    refine JC_ret ?_
    refine JX_then_ret ?_
    refine ret1 rfl rfl ?_
    intro w1 hM
    exact OC_end (hM.addNil 5 1) (.head _) ⟨rfl, rfl⟩
  · refine JC_skip ?_
    refine JX_then ?_
    refine JC_seq ?_
    refine JC_region ?_
    refine st_bslice0 Try.underlying54 zr5 sz5 (by decide) (by decide) (fun v5 => ?_)
    refine JL_v (vo_move rfl) nofun (by decide) ?_
    refine st_appendR rfl rfl hr Try.underlying54 ap5 (by rfl) (by repeat (first | exact .head _ | apply TurnF.tail)) (bytesC_one _) (by rw [bytesC_length]; omega) (by decide) (by decide) (fun v7 => ?_)
    refine JL_v (vo_assign rfl) nofun (by decide) ?_
    refine JL_nil ?_
    refine JX_then ?_
    refine JC_ret ?_
    refine ret1 rfl rfl ?_
    intro w1 hM
    exact OC_end hM (.head _) ⟨by rw [bytesC_length]; omega, by simp⟩

end Go.Eng

set_option linter.unusedVariables false
set_option linter.unusedSimpArgs false
namespace Go.Eng
open Go Go.RowKit Go.Proofs
/-- found: where, which piece -/
def fdC (p : Int × Int) : List Value := [.int .i64 p.1, .int .i64 p.2]
theorem fdC_length (p : Int × Int) : (fdC p).length = 2 := rfl
def fdEq (p q : Int × Int) : Bool := p.1 == q.1 && p.2 == q.2
theorem fdEq_iff (p q : Int × Int) : fdEq p q = decide (p = q) := by
  rw [Bool.eq_iff_iff]
  obtain ⟨a, b⟩ := p
  obtain ⟨c, d⟩ := q
  simp [fdEq]
theorem eg60 : Try.prog.eqGuardType Try.prog.depth 60 = false := by kernel_rfl
theorem sh60 : Try.prog.stoodInHeld 60 = false := by kernel_rfl
theorem sz60 : (Try.prog.info? 60).map (·.size) = some 2 := by kernel_rfl
section
variable {P : Program} {w : World}
theorem run_part_cell {t : TypeId} {d : TypeDesc} {cs : Array Value} {o : Nat} {v : Value} (hu : P.underlying t = some d) (hd : d.isRow = false) (h : cs[o]? = some v) : (part t cs o).run P w = .ok v w := by
  have hagg : (isAgg t).run P w = .ok false w := by
    unfold isAgg
    rw [Sem.run_bind, run_underlying hu w]
    cases d <;> simp_all
  simp [part, Sem.run_bind, hagg, h]
theorem run_eq_int {d : Nat} {t : TypeId} {k k' : IntKind} {a b : Int} (h : P.underlying t = some (.int k')) : (Op.equalIn (d + 1) t (.int k a) (.int k b)).run P w = .ok (a == b) w := by
  simp [Op.equalIn, run_underlying h]
theorem run_eqFields_cons {d : Nat} {xs ys : Array Value} {f : Field} {fs : List Field} {x y : Value} {b c : Bool} (hn : f.name ≠ "_") (h1 : (part f.type xs f.offset).run P w = .ok x w) (h2 : (part f.type ys f.offset).run P w = .ok y w)
    (h3 : (Op.equalIn d f.type x y).run P w = .ok b w) (h4 : (Op.eqFields d xs ys fs).run P w = .ok c w) : (Op.eqFields d xs ys (f :: fs)).run P w = .ok (b && c) w := by
  simp only [Op.eqFields, hn, ne_eq, not_false_eq_true, if_true, Sem.run_bind, h1, h2, h3, Result.andThen_ok]
  cases b with
  | true => simp [h4]
  | false => simp
theorem run_eqFields_nil {d : Nat} {xs ys : Array Value} : (Op.eqFields d xs ys []).run P w = .ok true w := by simp [Op.eqFields]
theorem run_eq_struct {d : Nat} {t : TypeId} {fs : Array Field} {xs ys : Array Value} {b : Bool} (hu : P.underlying t = some (.struct fs)) (hp : P.stoodInHeld t = false) (h : (Op.eqFields d xs ys fs.toList).run P w = .ok b w) :
    (Op.equalIn (d + 1) t (.agg xs) (.agg ys)).run P w = .ok b w := by
  have hf : P.fieldsOf t = fs := by simp [Program.fieldsOf, hu]
  rw [run_equalIn_struct w d t xs ys (by rw [hf]; exact hu) hp, hf]
  exact h
end
theorem eq60 (p q : Int × Int) (d : Nat) (w : World) : (Op.equalIn (d + 2) 60 (.agg (fdC p).toArray) (.agg (fdC q).toArray)).run Try.prog w = .ok (fdEq p q) w := by
  refine run_eq_struct Try.underlying60 sh60 ?_
  have := run_eqFields_cons (P := Try.prog) (w := w) (d := d + 1) (xs := (fdC p).toArray) (ys := (fdC q).toArray) (f := ⟨ "At", 3, 0, false, "", "", 0⟩) (by decide) (run_part_cell Try.underlying3 rfl rfl) (run_part_cell Try.underlying3 rfl rfl) (run_eq_int Try.underlying3)
    (run_eqFields_cons (f := ⟨ "Piece", 3, 1, false, "", "", 8⟩) (by decide) (run_part_cell Try.underlying3 rfl rfl) (run_part_cell Try.underlying3 rfl rfl) (run_eq_int Try.underlying3) run_eqFields_nil)
  simpa [fdEq] using this
theorem eqv60 (p q : Int × Int) : ∀ w : World, (Op.equalIn 10000 60 (.agg (fdC p).toArray) (.agg (fdC q).toArray)).run Try.prog w = .ok (fdEq p q) w := eq60 p q 9998
/-- a roller's sum -/
def rsum (h l : Int) : Int := IntKind.u32.wrap ((BitVec.ofInt IntKind.u32.bits (IntKind.u32.wrap (h * 2 ^ (min (16 : Int).toNat IntKind.u32.bits))) ||| BitVec.ofInt IntKind.u32.bits (IntKind.u32.wrap ((BitVec.ofInt IntKind.u32.bits l &&& BitVec.ofInt IntKind.u32.bits 65535).toNat))).toNat)
def rolO (sp : Value) (at_ low high : Int) : Obj := .cells #[sp, .int .i64 at_, .int .u32 low, .int .u32 high] 157 (0, 0)
end Go.Eng

set_option linter.unusedVariables false
set_option linter.unusedSimpArgs false
namespace Go.Eng
open Go Go.RowKit Go.Proofs
theorem fo157_2 : fieldOff Try.prog 157 2 = some 2 := by kernel_rfl
theorem fo157_3 : fieldOff Try.prog 157 3 = some 3 := by kernel_rfl

set_option maxRecDepth 8000 in
set_option maxHeartbeats 1000000 in
theorem samefound_spec (l1 l2 : List (Int × Int)) (v1 v2 : Value) (w : World) (hr1 : RItems (fun b => b < w.heap.size) w 2 fdC l1 v1) (hr2 : RItems (fun b => b < w.heap.size) w 2 fdC l2 v2) : SCalls Try.prog 15 #[v1, v2] w (fun u => u = .bool (decide (l1 = l2))) := by
  obtain ⟨A1, c1, rfl, hn1⟩ := hr1.slice
  obtain ⟨A2, c2, rfl, hn2⟩ := hr2.slice
  refine enter (N := 26) Try.func15 rfl Try.ntmps15 (Nat.le_of_ble_eq_true rfl) [(0, .slice A1 l1.length c1), (1, .slice A2 l2.length c2)] (by repeat (first | exact trivial | refine ⟨rfl, ?_⟩)) (Mem.start w (fun _ => False) (fun b => b < w.heap.size) (fun _ h => h)) ?_
  refine JC_seq ?_
  refine JC_region ?_
  refine JL_v (vo_assign rfl) nofun (by decide) ?_
  refine JL_nil ?_
  refine JX_then ?_
  refine JC_seq ?_
  refine JC_seq ?_
  refine JC_region ?_
  refine JL_v (vo_move rfl) nofun (by decide) ?_
  refine JL_v (vo_len rfl Try.underlying55) nofun (by decide) ?_
  refine JL_v (vo_move rfl) nofun (by decide) ?_
  refine JL_v (vo_len rfl Try.underlying55) nofun (by decide) ?_
  refine JL_v (vo_cmp rfl rfl rfl) nofun (by decide) ?_
  refine JL_nil ?_
  refine JX_then ?_
  refine JC_cond _ rfl (fun hc10 => ?_) (fun hc10 => ?_)
  · refine JC_seq ?_
    refine JC_region ?_
    refine JL_v (vo_assign rfl) nofun (by decide) ?_
    refine JL_nil ?_
    refine JX_then ?_
    refine JC_ret ?_
    refine JX_then_ret ?_
    refine ret1 rfl rfl ?_
    intro w1 hM
    refine SC_end hM ?_
    rw [decide_eq_false]
    intro e
    subst e
    simp at hc10
  · refine JC_skip ?_
    refine JX_then ?_
    refine JC_seq ?_
    refine JC_seq ?_
    refine JC_region ?_
    refine JL_v (vo_assign rfl) nofun (by decide) ?_
    refine JL_nil ?_
    refine JX_then ?_
    refine JC_block ?_
    have hlen : l1.length = l2.length := by simp at hc10; omega
    refine JC_loop (α := { i : Nat // i ≤ l1.length ∧ l1.take i = l2.take i }) (fun i => [(0, .slice A1 l1.length c1), (1, .slice A2 l2.length c2), (5, .int .i64 i.1)]) (fun i => Mem w (fun _ => False) (fun b => b < w.heap.size) (fun b => b < w.heap.size) w []) (fun i => l1.length - i.1) ⟨0, by omega, by simp⟩ (by repeat (first | exact trivial | refine ⟨rfl, ?_⟩ | refine ⟨trivial, ?_⟩)) (fun w hw => hw) ?_
    rintro ⟨i, hile, hinv⟩
    dsimp only
    refine JC_seq ?_
    refine JC_seq ?_
    refine JC_region ?_
    refine JL_v (vo_move rfl) nofun (by decide) ?_
    refine JL_v (vo_move rfl) nofun (by decide) ?_
    refine JL_v (vo_len rfl Try.underlying55) nofun (by decide) ?_
    refine JL_v (vo_cmp rfl rfl rfl) nofun (by decide) ?_
    refine JL_nil ?_
    refine JX_then ?_
    refine JC_cond _ rfl (fun hc14 => ?_) (fun hc14 => ?_)
    · have hil : i < l1.length := by simp at hc14; omega
      obtain ⟨x, hx⟩ : ∃ x, l1[i]? = some x := ⟨_, List.getElem?_eq_getElem hil⟩
      obtain ⟨y, hy⟩ : ∃ y, l2[i]? = some y := ⟨_, List.getElem?_eq_getElem (by omega)⟩
      obtain ⟨b1', o1', c1', cs1, te1, fr1, hv1, hfb1, hseg1⟩ := hr1.at_ hx
      cases hv1
      obtain ⟨b2', o2', c2', cs2, te2, fr2, hv2, hfb2, hseg2⟩ := hr2.at_ hy
      cases hv2
      refine JC_skip ?_
      refine JX_then ?_
      refine JC_seq ?_
      refine JC_block ?_
      refine JC_seq ?_
      refine JC_drawM 9 (by kernel_rfl) (fun w hw => Mem.drew hw) ?_
      refine JR_v (i := 0) rfl (by kernel_rfl) (by kernel_rfl) rfl (by kernel_rfl) (by kernel_rfl) (panic_Then (panic_block (panic_Then (panic_then (panic_block (panic_Then panic_body)))))) (by decide) (vo_move rfl) (fun w hw => hw) ?_
      refine JR_v (i := 1) rfl (by kernel_rfl) (by kernel_rfl) rfl (by kernel_rfl) (by kernel_rfl) (panic_Then (panic_block (panic_Then (panic_then (panic_block (panic_Then panic_body)))))) (by decide) (vo_move rfl) (fun w hw => hw) ?_
      refine JR_v (i := 2) rfl (by kernel_rfl) (by kernel_rfl) rfl (by kernel_rfl) (by kernel_rfl) (panic_Then (panic_block (panic_Then (panic_then (panic_block (panic_Then panic_body)))))) (by decide) (vo_indexAddr rfl rfl Try.underlying55 sz60 (by omega) (by omega)) (fun w hw => hw) ?_
      refine JR_v (i := 3) rfl (by kernel_rfl) (by kernel_rfl) rfl (by kernel_rfl) (by kernel_rfl) (panic_Then (panic_block (panic_Then (panic_then (panic_block (panic_Then panic_body)))))) (by decide) (vo_load rfl (by first | exact .frz ‹_› | exact .own (by repeat (first | exact .head _ | refine .tail _ ?_))) (by first | exact PartAt.whole Try.underlying60 rfl sz60 | exact .seg (l := fdC x) hseg1 Try.underlying60 rfl sz60 | exact .seg (l := fdC y) hseg2 Try.underlying60 rfl sz60)) (fun w hw => hw) ?_
      refine JR_v (i := 4) rfl (by kernel_rfl) (by kernel_rfl) rfl (by kernel_rfl) (by kernel_rfl) (panic_Then (panic_block (panic_Then (panic_then (panic_block (panic_Then panic_body)))))) (by decide) (vo_move rfl) (fun w hw => hw) ?_
      refine JR_v (i := 5) rfl (by kernel_rfl) (by kernel_rfl) rfl (by kernel_rfl) (by kernel_rfl) (panic_Then (panic_block (panic_Then (panic_then (panic_block (panic_Then panic_body)))))) (by decide) (vo_move rfl) (fun w hw => hw) ?_
      refine JR_v (i := 6) rfl (by kernel_rfl) (by kernel_rfl) rfl (by kernel_rfl) (by kernel_rfl) (panic_Then (panic_block (panic_Then (panic_then (panic_block (panic_Then panic_body)))))) (by decide) (vo_indexAddr rfl rfl Try.underlying55 sz60 (by omega) (by omega)) (fun w hw => hw) ?_
      refine JR_v (i := 7) rfl (by kernel_rfl) (by kernel_rfl) rfl (by kernel_rfl) (by kernel_rfl) (panic_Then (panic_block (panic_Then (panic_then (panic_block (panic_Then panic_body)))))) (by decide) (vo_load rfl (by first | exact .frz ‹_› | exact .own (by repeat (first | exact .head _ | refine .tail _ ?_))) (by first | exact PartAt.whole Try.underlying60 rfl sz60 | exact .seg (l := fdC x) hseg1 Try.underlying60 rfl sz60 | exact .seg (l := fdC y) hseg2 Try.underlying60 rfl sz60)) (fun w hw => hw) ?_
      refine JR_v (i := 8) rfl (by kernel_rfl) (by kernel_rfl) rfl (by kernel_rfl) (by kernel_rfl) (panic_Then (panic_block (panic_Then (panic_then (panic_block (panic_Then panic_body)))))) (by decide) (vo_eqS rfl rfl rfl eg60 (eqv60 _ _)) (fun w hw => hw) ?_
      refine JR_done (by kernel_rfl) ?_
      refine JX_then ?_
      refine JC_cond _ rfl (fun hc25 => ?_) (fun hc25 => ?_)
      · refine JC_seq ?_
        refine JC_region ?_
        refine JL_v (vo_assign rfl) nofun (by decide) ?_
        refine JL_nil ?_
        refine JX_then ?_
        refine JC_ret ?_
        refine JX_block_ret ?_
        refine JX_then_ret ?_
        refine JX_thenK_ret ?_
        refine JX_block_ret ?_
        refine JX_then_ret ?_
        refine ret1 rfl rfl ?_
        intro w1 hM
        refine SC_end hM ?_
        have hxy : ¬ x = y := by simpa [fdEq_iff] using hc25
        rw [decide_eq_false]
        intro e
        subst e
        rw [hx] at hy
        cases hy
        exact hxy rfl
      · refine JC_skip ?_
        refine JX_block ?_
        refine JX_then ?_
        refine JC_region ?_
        refine JL_v (vo_move rfl) nofun (by decide) ?_
        refine JL_v (vo_add rfl rfl (by omega) (by omega)) nofun (by decide) ?_
        refine JL_v (vo_assign rfl) nofun (by decide) ?_
        refine JL_nil ?_
        have hxy : x = y := by simpa [fdEq_iff] using hc25
        subst hxy
        refine JX_loop ⟨i + 1, hil, by rw [take_snoc_get hx, take_snoc_get hy, hinv]⟩ (by show l1.length - (i + 1) < l1.length - i; omega) (by repeat (first | exact trivial | refine ⟨rfl, ?_⟩ | refine ⟨trivial, ?_⟩)) (fun w hw => hw)
    · refine JC_exit ?_
      refine JX_then_exit ?_
      refine JX_thenK_exit ?_
      refine JX_block_exit ?_
      refine JX_then ?_
      refine JC_seq ?_
      refine JC_region ?_
      refine JL_v (vo_assign rfl) nofun (by decide) ?_
      refine JL_nil ?_
      refine JX_then ?_
      refine JC_ret ?_
      refine ret1 rfl rfl ?_
      intro w1 hM
      have hi : i = l1.length := by simp at hc14; omega
      subst hi
      refine SC_end hM ?_
      rw [decide_eq_true]
      rw [List.take_length, hlen, List.take_length] at hinv
      exact hinv
set_option maxRecDepth 8000 in
set_option maxHeartbeats 1000000 in
theorem sum_spec (b : Nat) (sp : Value) (p low high : Int) (w : World) (hb : w.heap[b]? = some (rolO sp p low high)) : SCalls Try.prog 55 #[.pointer (some ⟨b, 0, none⟩)] w (fun u => u = .int .u32 (rsum high low)) := by
  have hfb : FB (fun b => b < w.heap.size) w b (rolO sp p low high) := ⟨(Array.getElem?_eq_some_iff.1 hb).1, hb⟩
  unfold rolO at hfb
  refine enter (N := 14) Try.func55 rfl Try.ntmps55 (Nat.le_of_ble_eq_true rfl) [(0, .pointer (some ⟨b, 0, none⟩))] (by repeat (first | exact trivial | refine ⟨rfl, ?_⟩)) (Mem.start w (fun _ => False) (fun b => b < w.heap.size) (fun _ h => h)) ?_
  refine JC_seq ?_
  refine JC_region ?_
  refine JL_v (vo_assign rfl) nofun (by decide) ?_
  refine JL_nil ?_
  refine JX_then ?_
  refine JC_seq ?_
  refine JC_drawM 12 (by kernel_rfl) (fun w hw => Mem.drew hw) ?_
  refine JR_v (i := 0) rfl (by kernel_rfl) (by kernel_rfl) rfl (by kernel_rfl) (by kernel_rfl) (panic_Then panic_body) (by decide) (vo_move rfl) (fun w hw => hw) ?_
  refine JR_v (i := 1) rfl (by kernel_rfl) (by kernel_rfl) rfl (by kernel_rfl) (by kernel_rfl) (panic_Then panic_body) (by decide) ((by first | exact vo_nilCheck rfl | exact vo_nilCheckF rfl)) (fun w hw => hw) ?_
  refine JR_v (i := 2) rfl (by kernel_rfl) (by kernel_rfl) rfl (by kernel_rfl) (by kernel_rfl) (panic_Then panic_body) (by decide) (vo_fieldAddr rfl fo157_3) (fun w hw => hw) ?_
  refine JR_v (i := 3) rfl (by kernel_rfl) (by kernel_rfl) rfl (by kernel_rfl) (by kernel_rfl) (panic_Then panic_body) (by decide) (vo_load rfl (by first | exact .frz ‹_› | exact .own (by repeat (first | exact .head _ | refine .tail _ ?_))) (by first | exact .cell Try.underlying100 rfl rfl)) (fun w hw => hw) ?_
  refine JR_v (i := 4) rfl (by kernel_rfl) (by kernel_rfl) rfl (by kernel_rfl) (by kernel_rfl) (panic_Then panic_body) (by decide) (vo_shl rfl rfl (by omega)) (fun w hw => hw) ?_
  refine JR_v (i := 5) rfl (by kernel_rfl) (by kernel_rfl) rfl (by kernel_rfl) (by kernel_rfl) (panic_Then panic_body) (by decide) (vo_move rfl) (fun w hw => hw) ?_
  refine JR_v (i := 6) rfl (by kernel_rfl) (by kernel_rfl) rfl (by kernel_rfl) (by kernel_rfl) (panic_Then panic_body) (by decide) ((by first | exact vo_nilCheck rfl | exact vo_nilCheckF rfl)) (fun w hw => hw) ?_
  refine JR_v (i := 7) rfl (by kernel_rfl) (by kernel_rfl) rfl (by kernel_rfl) (by kernel_rfl) (panic_Then panic_body) (by decide) (vo_fieldAddr rfl fo157_2) (fun w hw => hw) ?_
  refine JR_v (i := 8) rfl (by kernel_rfl) (by kernel_rfl) rfl (by kernel_rfl) (by kernel_rfl) (panic_Then panic_body) (by decide) (vo_load rfl (by first | exact .frz ‹_› | exact .own (by repeat (first | exact .head _ | refine .tail _ ?_))) (by first | exact .cell Try.underlying100 rfl rfl)) (fun w hw => hw) ?_
  refine JR_v (i := 9) rfl (by kernel_rfl) (by kernel_rfl) rfl (by kernel_rfl) (by kernel_rfl) (panic_Then panic_body) (by decide) (vo_bits rfl rfl rfl) (fun w hw => hw) ?_
  refine JR_v (i := 10) rfl (by kernel_rfl) (by kernel_rfl) rfl (by kernel_rfl) (by kernel_rfl) (panic_Then panic_body) (by decide) (vo_bits rfl rfl rfl) (fun w hw => hw) ?_
  refine JR_v (i := 11) rfl (by kernel_rfl) (by kernel_rfl) rfl (by kernel_rfl) (by kernel_rfl) (panic_Then panic_body) (by decide) (vo_assign rfl) (fun w hw => hw) ?_
  refine JR_done (by kernel_rfl) ?_
  refine JX_then ?_
  refine JC_ret ?_
  refine ret1 rfl rfl ?_
  intro w1 hM
  exact SC_end hM rfl

end Go.Eng

set_option linter.unusedVariables false
set_option linter.unusedSimpArgs false
namespace Go.Eng
open Go Go.RowKit Go.Proofs
def m32 (x : Int) : Int := x % 4294967296
theorem wrap32 (x : Int) : IntKind.u32.wrap x = m32 x := by
  simp [IntKind.wrap, IntKind.bits, IntKind.signed, m32]
def lowS : List UInt8 → Int
  | [] => 0
  | b :: l => b.toNat + lowS l
def highA : Int → List UInt8 → Int
  | _, [] => 0
  | n, b :: l => n * b.toNat + highA (n - 1) l
theorem lowS_snoc (l : List UInt8) (c : UInt8) : lowS (l ++ [c]) = lowS l + c.toNat := by
  induction l with
  | nil => simp [lowS]
  | cons b l ih => simp only [List.cons_append, lowS, ih]; omega
theorem highA_snoc (l : List UInt8) (c : UInt8) : ∀ n : Int, highA n (l ++ [c]) = highA n l + (n - l.length) * c.toNat := by
  induction l with
  | nil => intro n; simp [highA]
  | cons b l ih =>
    intro n
    simp only [List.cons_append, highA, ih, List.length_cons]
    have : n - 1 - (l.length : Int) = n - ((l.length + 1 : Nat) : Int) := by omega
    rw [this]; omega
theorem highA_succ (l : List UInt8) : ∀ n : Int, highA n l = highA (n - 1) l + lowS l := by
  induction l with
  | nil => intro n; simp [highA, lowS]
  | cons b l ih =>
    intro n
    simp only [highA, lowS]
    rw [ih (n - 1), Int.sub_mul]; omega
/-- the window moves on -/
theorem roll_low (b c : UInt8) (l : List UInt8) : m32 (m32 (lowS (b :: l)) + m32 (m32 c.toNat - m32 b.toNat)) = m32 (lowS (l ++ [c])) := by
  rw [lowS_snoc]; simp only [lowS, m32]; omega
theorem mul32 (x y : Int) : m32 (m32 x * m32 y) = m32 (x * y) := by
  simp only [m32]; exact (Int.mul_emod x y _).symm
theorem roll_high (b c : UInt8) (l : List UInt8) (n : Int) (hn : n = l.length + 1) : m32 (m32 (highA n (b :: l)) + m32 (m32 (lowS (l ++ [c])) - m32 (m32 n * m32 b.toNat))) = m32 (highA n (l ++ [c])) := by
  rw [mul32, highA_snoc, show n - (l.length : Int) = 1 by omega, highA_succ l n, lowS_snoc]
  simp only [highA, m32]; omega
theorem bl157 (A : Option Addr) (n c : Nat) : Try.prog.built 157 [(0, .slice A n c)] = some #[.slice A n c, .int .i64 0, .int .u32 0, .int .u32 0] := by kernel_rfl
end Go.Eng

set_option linter.unusedVariables false
set_option linter.unusedSimpArgs false
namespace Go.Eng
open Go Go.RowKit Go.Proofs
theorem en76 : Enters Try.prog 76 := ⟨_, Try.func76, by kernel_rfl, by kernel_rfl⟩
theorem sz100 : (Try.prog.info? 100).map (·.size) = some 1 := by kernel_rfl

set_option maxRecDepth 8000 in
set_option maxHeartbeats 1000000 in
theorem new_spec (l : List UInt8) (v : Value) (hl : l.length ≤ 1000000) (w : World) (hr : RVals (fun b => b < w.heap.size) w (bytesC l) v) : MCalls Try.prog 54 #[v] w [] (fun u L' => ∃ b sp, u = .pointer (some ⟨b, 0, none⟩) ∧ L' = [.blk b (rolO sp 0 (m32 (lowS l)) (m32 (highA l.length l))), .row sp 5 1 l.length (bytesC l)]) := by
  obtain ⟨A, c, rfl, hn, hc⟩ := bytes_slice hr
  have hr0 : RVals (ZL [] w) w (bytesC l) (.slice A l.length c) := hr.ext (Ext.sub fun b hb => ⟨hb, by simp⟩)
  have hL : Holds [] w := ⟨by simp, trivial⟩
  refine enter (N := 43) Try.func54 rfl Try.ntmps54 (Nat.le_of_ble_eq_true rfl) [(0, .slice A l.length c)] (by repeat (first | exact trivial | refine ⟨rfl, ?_⟩)) (Mem.startL hL) ?_
  refine JC_seq ?_
  refine JC_region ?_
  refine JL_v (vo_assign rfl) nofun (by decide) ?_
  refine JL_nil ?_
  refine JX_then ?_
  refine JC_seq ?_
  refine JC_region ?_
  refine JL_v (vo_move rfl) nofun (by decide) ?_
  refine st_ocall rfl en76 (by decide) (fun w1 hw => clone_spec l _ (by omega) w1 (hr0.ext hw.ext_all)) ?_
  rintro v7 n7 _ ⟨rfl, rfl⟩
  refine JL_rowSlice (v := v7) (e := 5) (sz := 1) (.head _) (fun A7 c7 h7 => ?_)
  subst h7
  refine JL_v (vo_build rfl (by first | exact bl157 _ _ _)) nofun (by decide) ?_
  refine st_box rfl (by decide) (fun b9 => ?_)
  refine JL_v (vo_assign rfl) nofun (by decide) ?_
  refine JL_nil ?_
  refine JX_then ?_
  refine JC_seq ?_
  refine JC_seq ?_
  refine JC_region ?_
  refine JL_v (vo_move rfl) nofun (by decide) ?_
  refine JL_v (vo_len rfl Try.underlying54) nofun (by decide) ?_
  refine JL_v (vo_move rfl) nofun (by decide) ?_
  refine JL_nil ?_
  refine JX_then ?_
  refine JC_block ?_
  refine JC_loop (α := { i : Nat // i ≤ l.length }) (fun i => [(0, .slice A l.length c), (3, .pointer (some ⟨b9, 0, none⟩)), (10, .slice A l.length c), (11, .int .i64 l.length), (12, .int .i64 i.1)]) (fun i => Mem w (EL []) (ZL [] w) (ZL [] w) w  [.blk b9 (rolO (.slice A7 l.length c7) 0 (m32 (lowS (l.take i.1))) (m32 (highA l.length (l.take i.1)))), .row (.slice A7 l.length c7) 5 1 l.length (bytesC l)]) (fun i => l.length - i.1) ⟨0, by omega⟩ (by repeat (first | exact trivial | refine ⟨rfl, ?_⟩ | refine ⟨trivial, ?_⟩)) (fun w hw => by simpa [rolO, lowS, highA, m32, Value.cells] using hw) ?_
  rintro ⟨i, hile⟩
  dsimp only
  unfold rolO
  refine JC_seq ?_
  refine JC_region ?_
  refine JL_v (vo_cmp rfl rfl rfl) nofun (by decide) ?_
  refine JL_nil ?_
  refine JX_then ?_
  refine JC_seq ?_
  refine JC_cond _ rfl (fun hc13 => ?_) (fun hc13 => ?_)
  · have hil : i < l.length := by simp at hc13; omega
    obtain ⟨x, hx⟩ : ∃ x, l[i]? = some x := ⟨_, List.getElem?_eq_getElem hil⟩
    obtain ⟨b1', o1', c1', cs1, te1, fr1, hv1, hfb1, hcell1⟩ := bytes_at hr0 hx
    cases hv1
    have htk := take_snoc_get hx
    refine JC_skip ?_
    refine JX_then ?_
    refine JC_seq ?_
    refine JC_block ?_
    refine JC_seq ?_
    refine JC_region ?_
    refine JL_v (vo_move rfl) nofun (by decide) ?_
    refine JL_v (vo_indexAddr rfl rfl Try.underlying54 sz5 (by omega) (by omega)) nofun (by decide) ?_
    refine JL_v (vo_load rfl (by first | exact .frz ‹_› | exact .own (by repeat (first | exact .head _ | refine .tail _ ?_))) (by first | exact .cell Try.underlying5 rfl rfl | exact .cell Try.underlying5 rfl (by simpa using hcell1))) nofun (by decide) ?_
    refine JL_v (vo_assign rfl) nofun (by decide) ?_
    refine JL_v (vo_assign rfl) nofun (by decide) ?_
    refine JL_nil ?_
    refine JX_then ?_
    refine JC_seq ?_
    refine JC_region ?_
    refine JL_v (vo_move rfl) nofun (by decide) ?_
    refine JL_v ((by first | exact vo_nilCheck rfl | exact vo_nilCheckF rfl)) nofun (by decide) ?_
    refine JL_v (vo_fieldAddr rfl fo157_2) nofun (by decide) ?_
    refine JL_v (vo_load rfl (by first | exact .frz ‹_› | exact .own (by repeat (first | exact .head _ | refine .tail _ ?_))) (by first | exact .cell Try.underlying100 rfl rfl | exact .cell Try.underlying5 rfl (by simpa using hcell1))) nofun (by decide) ?_
    refine JL_v (vo_move rfl) nofun (by decide) ?_
    refine JL_v (vo_convInt rfl Try.underlying5 Try.underlying100) nofun (by decide) ?_
    refine JL_v (vo_arith rfl rfl rfl) nofun (by decide) ?_
    refine JL_v ((by first | exact vo_nilCheck rfl | exact vo_nilCheckF rfl)) nofun (by decide) ?_
    refine JL_v (vo_fieldAddr rfl fo157_2) nofun (by decide) ?_
    refine st_store rfl rfl sz100 (by first | exact one_of_all rfl | assumption) (by repeat (first | exact .head _ _ _ | apply Turn.tail)) (by exact Nat.le_of_ble_eq_true rfl) (by rfl) ?_
    refine JL_nil ?_
    refine JX_then ?_
    refine JC_region ?_
    refine JL_v (vo_move rfl) nofun (by decide) ?_
    refine JL_v ((by first | exact vo_nilCheck rfl | exact vo_nilCheckF rfl)) nofun (by decide) ?_
    refine JL_v (vo_fieldAddr rfl fo157_3) nofun (by decide) ?_
    refine JL_v (vo_load rfl (by first | exact .frz ‹_› | exact .own (by repeat (first | exact .head _ | refine .tail _ ?_))) (by first | exact .cell Try.underlying100 rfl rfl | exact .cell Try.underlying5 rfl (by simpa using hcell1))) nofun (by decide) ?_
    refine JL_v (vo_move rfl) nofun (by decide) ?_
    refine JL_v (vo_len rfl Try.underlying54) nofun (by decide) ?_
    refine JL_v (vo_move rfl) nofun (by decide) ?_
    refine JL_v (vo_sub rfl rfl (by omega) (by omega)) nofun (by decide) ?_
    refine JL_v (vo_convInt rfl Try.underlying3 Try.underlying100) nofun (by decide) ?_
    refine JL_v (vo_move rfl) nofun (by decide) ?_
    refine JL_v (vo_convInt rfl Try.underlying5 Try.underlying100) nofun (by decide) ?_
    refine JL_v (vo_arith rfl rfl rfl) nofun (by decide) ?_
    refine JL_v (vo_arith rfl rfl rfl) nofun (by decide) ?_
    refine JL_v ((by first | exact vo_nilCheck rfl | exact vo_nilCheckF rfl)) nofun (by decide) ?_
    refine JL_v (vo_fieldAddr rfl fo157_3) nofun (by decide) ?_
    refine st_store rfl rfl sz100 (by first | exact one_of_all rfl | assumption) (by repeat (first | exact .head _ _ _ | apply Turn.tail)) (by exact Nat.le_of_ble_eq_true rfl) (by rfl) ?_
    refine JL_nil ?_
    refine JX_block ?_
    refine JX_then ?_
    refine JC_region ?_
    refine JL_v (vo_add rfl rfl (by omega) (by omega)) nofun (by decide) ?_
    refine JL_v (vo_move rfl) nofun (by decide) ?_
    refine JL_nil ?_
    refine JX_loop ⟨i + 1, hil⟩ (by show l.length - (i + 1) < l.length - i; omega) (by repeat (first | exact trivial | refine ⟨rfl, ?_⟩ | refine ⟨trivial, ?_⟩)) (fun w hw => ?_)
    have e1 : m32 (lowS (l.take (i + 1))) = m32 (m32 (lowS (l.take i)) + m32 x.toNat) := by rw [htk, lowS_snoc]; simp only [m32]; omega
    have e2 : m32 (highA l.length (l.take (i + 1))) = m32 (m32 (highA l.length (l.take i)) + m32 (m32 (l.length - i) * m32 x.toNat)) := by
      rw [mul32, htk, highA_snoc, List.length_take, show min i l.length = i by omega]; simp only [m32]; omega
    dsimp only
    rw [e1, e2, ← wrap32, ← wrap32, ← wrap32, ← wrap32, ← wrap32]
    exact hw
  · refine JC_exit ?_
    refine JX_then_exit ?_
    refine JX_thenK_exit ?_
    refine JX_block_exit ?_
    refine JX_then ?_
    refine JC_seq ?_
    refine JC_region ?_
    refine JL_v (vo_move rfl) nofun (by decide) ?_
    refine JL_v (vo_assign rfl) nofun (by decide) ?_
    refine JL_nil ?_
    refine JX_then ?_
    refine JC_ret ?_
    refine ret1 rfl rfl ?_
    intro w1 hM
    have hi : i = l.length := by simp at hc13; omega
    subst hi
    rw [List.take_length] at hM
    exact MC_end hM ⟨_, _, rfl, rfl⟩

end Go.Eng

set_option linter.unusedVariables false
set_option linter.unusedSimpArgs false
namespace Go.Eng
open Go Go.RowKit Go.Proofs
/-- the window that a ring holds -/
def win (ring : List UInt8) (p : Nat) : List UInt8 := ring.drop p ++ ring.take p
theorem win_length (ring : List UInt8) (p : Nat) : (win ring p).length = ring.length := by simp [win]; omega
/-- what a roller holds -/
def Rol (b : Nat) (A : Nat) (cap : Nat) (ring : List UInt8) (p : Nat) : List Res :=
  [.blk b (rolO (.slice (some ⟨A, 0, none⟩) ring.length cap) p (m32 (lowS (win ring p))) (m32 (highA ring.length (win ring p)))), .row (.slice (some ⟨A, 0, none⟩) ring.length cap) 5 1 ring.length (bytesC ring)]
theorem win_step {ring : List UInt8} {p : Nat} {x : UInt8} (h : ring[p]? = some x) (c : UInt8) : ∃ r, win ring p = x :: r ∧ win (ring.set p c) ((p + 1) % ring.length) = r ++ [c] := by
  obtain ⟨hp, rfl⟩ := List.getElem?_eq_some_iff.1 h
  refine ⟨ring.drop (p + 1) ++ ring.take p, by rw [win, List.drop_eq_getElem_cons hp]; rfl, ?_⟩
  have h1 : (ring.set p c).take (p + 1) = ring.take p ++ [c] := by
    rw [List.take_succ_eq_append_getElem (by simpa using hp), List.take_set_of_le (Nat.le_refl _)]
    simp
  have h2 : (ring.set p c).drop (p + 1) = ring.drop (p + 1) := by rw [List.drop_set_of_lt (by omega)]
  by_cases hn : p + 1 = ring.length
  · rw [hn, Nat.mod_self, win]
    simp only [List.drop_zero, List.take_zero, List.append_nil]
    have : ring.set p c = (ring.set p c).take (p + 1) := by rw [List.take_of_length_le (by simp; omega)]
    rw [this, h1, List.drop_of_length_le (by omega)]
    simp
  · rw [Nat.mod_eq_of_lt (by omega), win, h1, h2, List.append_assoc]
theorem laid_set (ring : List UInt8) (p : Nat) (c : UInt8) (hp : p < ring.length) : laid (bytesC ring) p [.int .u8 c.toNat] = bytesC (ring.set p c) := by
  unfold laid bytesC
  rw [List.map_set, List.set_eq_take_append_cons_drop, if_pos (by simpa using hp)]
  simp
end Go.Eng
