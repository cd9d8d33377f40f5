/-
  Part of the proofs over this seat: K6 L9. Own work; imports the kit.
-/
import Derived.Test.YtdcafpemkpcmpaaRoom4
import Derived.Test.YtdcafpemkpcmpaaWalk8
set_option linter.unusedVariables false
set_option linter.unusedSimpArgs false
namespace Go.Eng
open Go Go.RowKit Go.Proofs
theorem of_cases {nd : Nd} {Z : Nat → Prop} {w : World} {v : Value} (h : if (chk0 nd).2 ≠ 0 then v = .tuple #[.pointer none, .int .i64 (chk0 nd).2] else ∃ b, v = .tuple #[ptrV b, .int .i64 0] ∧ RTree Z w (trOf nd) b) :
    ∃ p : Option Addr, v = .tuple #[.pointer p, .int .i64 (rchk0 nd).2] ∧ ((rchk0 nd).2 ≠ 0 ∧ p = none ∨ (rchk0 nd).2 = 0 ∧ ∃ b, p = some ⟨b, 0, none⟩ ∧ RTree Z w (trOf nd) b) := by
  rw [chk0_eq] at h
  split at h
  · exact ⟨none, h, .inl ⟨‹_›, rfl⟩⟩
  · rename_i h0
    obtain ⟨b, e, hT⟩ := h
    have h0' : (rchk0 nd).2 = 0 := by simpa using h0
    exact ⟨some ⟨b, 0, none⟩, by rw [e, h0']; rfl, .inr ⟨h0', b, rfl, hT⟩⟩
def ndSp (nd : Nd) : Nd := .mk nd.name nd.val nd.marks (List.replicate nd.kids.length spoilNd)
theorem ndSp_ok {nd : Nd} (h : NdOK nd) : NdOK (ndSp nd) := by
  obtain ⟨h1, h2, h3⟩ := h
  refine ⟨h1, by simpa [ndSp, Nd.kids] using h2, fun k hk => ?_⟩
  simp only [ndSp, Nd.kids] at hk
  rw [List.eq_of_mem_replicate hk]
  exact ⟨by decide, by decide, fun k hk => by cases hk⟩
theorem cntL_replicate (n : Nat) : cntL (trsOf (List.replicate n spoilNd)) = n := by
  induction n with
  | zero => rfl
  | succ n ih =>
    rw [List.replicate_succ]
    simp only [trsOf, cntL]
    rw [ih]
    simp [spoilNd, trOf, trsOf, Tr.count, cntL, namesOf]
    omega
theorem ndSp_count {nd : Nd} : (trOf (ndSp nd)).count = 1 + nd.kids.length := by
  simp only [ndSp, trOf, Tr.count]
  rw [cntL_replicate]
theorem count_kids (nd : Nd) : (trOf nd).count = 1 + cntL (trsOf nd.kids) := by
  obtain ⟨n, v, m, ks⟩ := nd
  simp only [trOf, Tr.count, Nd.kids]
theorem same_self (nd : Nd) : (beq nd.name nd.name && eqNd nd nd) = true := by simp [beq, eqNd_self]
end Go.Eng

set_option linter.unusedVariables false
set_option linter.unusedSimpArgs false
namespace Go.Eng
open Go Go.RowKit Go.Proofs
theorem en10 : Enters Try.prog 10 := ⟨_, Try.func10, by kernel_rfl, by kernel_rfl⟩
theorem en14 : Enters Try.prog 14 := ⟨_, Try.func14, by kernel_rfl, by kernel_rfl⟩
theorem en16 : Enters Try.prog 16 := ⟨_, Try.func16, by kernel_rfl, by kernel_rfl⟩

set_option maxRecDepth 8000 in
set_option maxHeartbeats 1000000 in
theorem law3_spec (nd : Nd) (hok : NdOK nd) (hcnt : (trOf nd).count ≤ 1048576) (k : Value) (w : World) (hr : RNds (fun b => b < w.heap.size) w nd.kids k) : SCalls Try.prog 3 #[.agg (ndC nd k).toArray] w (fun u => u = .bool true) := by
  obtain ⟨A, c, rfl, hlen2⟩ := hr.slice
  have hcnt2 : (trOf nd).count ≤ 1000000000000 := by omega
  have hokS := ndSp_ok hok
  have hcntS : (trOf (ndSp nd)).count ≤ 1000000000000 := by
    have h1 := ndSp_count (nd := nd)
    obtain ⟨_, h2, _⟩ := hok
    omega
  refine enter (N := 144) Try.func3 rfl Try.ntmps3 (Nat.le_of_ble_eq_true rfl) [(0, .agg (ndC nd (.slice A nd.kids.length c)).toArray)] (by repeat (first | exact trivial | refine ⟨rfl, ?_⟩)) (Mem.start w (fun _ => False) (fun b => b < w.heap.size) (fun _ h => h)) ?_
  refine JC_seq ?_
  refine JC_region ?_
  refine st_box rfl (by decide) (fun b1 => ?_)
  refine JL_v (vo_assign rfl) nofun (by decide) ?_
  refine JL_nil ?_
  refine JX_then ?_
  refine JC_seq ?_
  refine JC_seq ?_
  refine JC_region ?_
  refine JL_v (vo_load rfl (by first | exact .frz ‹_› | exact .own (by repeat (first | exact .head _ | refine .tail _ ?_))) (by first | exact PartAt.whole Try.underlying30 rfl sz30 | exact pn_all ‹_› | exact pn_val (node_self _ _ _ _) | exact pn_marks (node_self _ _ _ _) | exact pn_name ‹_›)) nofun (by decide) ?_
  refine st_bslice1 rfl Try.underlying28 (by first | exact zr30) sz30 (by exact Nat.le_of_ble_eq_true rfl) (by exact Nat.ne_of_gt (Nat.le_of_ble_eq_true rfl)) (by decide) (fun b20 => ?_)
  refine st_scall rfl en9 (by decide) (fun w1 hw => few_spec [nd] (by simpa using hok) _ w1 (RNds.one ⟨Res.foot_lt (hw.own _ (.head _)) rfl, hw.own _ (.head _)⟩ (hr.ext hw.ext_all))) ?_
  rintro _ ⟨few, rfl⟩
  refine JL_v (vo_not rfl) nofun (by decide) ?_
  refine JL_nil ?_
  refine JX_then ?_
  refine JC_cond _ rfl (fun hc22 => ?_) (fun hc22 => ?_)
  · 
    refine JC_seq ?_
    refine JC_region ?_
    refine JL_v (vo_assign rfl) nofun (by decide) ?_
    refine JL_nil ?_
    refine JX_then ?_
    refine JC_ret ?_
    refine JX_then_ret ?_
    refine ret1 rfl rfl ?_
    intro w1 hM; exact SC_end hM rfl
  · refine JC_skip ?_
    refine JX_then ?_
    refine JC_seq ?_
    refine JC_region ?_
    refine JL_v (vo_build rfl (by first | exact bl48)) nofun (by decide) ?_
    refine st_box rfl (by decide) (fun b24 => ?_)
    refine JL_v (vo_assign rfl) nofun (by decide) ?_
    refine JL_nil ?_
    refine JX_then ?_
    refine JC_seq ?_
    refine JC_region ?_
    refine JL_v (vo_move rfl) nofun (by decide) ?_
    refine JL_v (vo_load rfl (by first | exact .frz ‹_› | exact .own (by repeat (first | exact .head _ | refine .tail _ ?_))) (by first | exact PartAt.whole Try.underlying30 rfl sz30 | exact pn_all ‹_› | exact pn_val (node_self _ _ _ _) | exact pn_marks (node_self _ _ _ _) | exact pn_name ‹_›)) nofun (by decide) ?_
    refine JL_nilrow 3 1 ?_
    refine JL_nilrow 28 1 ?_
    refine JL_perm (perm_front 2 rfl rfl) ?_
    refine st_xcall [.blk b24 (roomN nilS nilS), .row nilS 28 1 0 [], .row nilS 3 1 0 []] _ rfl rfl en10 (by decide) (fun w1 hw => nodeR_spec b24 0 nilS nilS [] [] nd (by rw [Nat.zero_add, Nat.add_comm, ← count_kids]; omega) _ w1 hw.holds (hr.ext hw.ext_ZL)) ?_
    rintro _ L' F Z1 wz1 ⟨kv, rfl, us, v22, v23, hul, rfl, hlaid, hrk, hh, E', hE', hsp⟩ hext hF hZ
    obtain ⟨Ak, ck, hkv, hlk⟩ := hrk.slice
    subst hkv
    simp only [Nat.zero_add, List.nil_append, List.cons_append]
    refine st_allocN zr30 (by decide) (fun b4 hb4 => ?_)
    refine st_store (cs := (nodeC ⟨#[]⟩ zeroVal zeroMk nilS).toArray) (cs' := (ndC nd (.slice Ak nd.kids.length ck)).toArray) (te := 30) rfl rfl sz30 (by exact one_of_all rfl) (by repeat (first | exact .head _ _ _ | apply Turn.tail)) (by exact Nat.le_of_ble_eq_true rfl) (setSeg_whole rfl) ?_
    refine JL_nil ?_
    refine JX_then ?_
    refine JC_seq ?_
    refine JC_region ?_
    refine JL_freezeRow (v := v22) (.tail _ (.tail _ (.head _ _))) (fun Z2 wz2 e2 hr22a => ?_)
    refine JL_freezeRow (v := v23) (.tail _ (.tail _ (.head _ _))) (fun Z3 wz3 e3 hr23a => ?_)
    refine JL_freezeBlk (.tail _ (.head _ _)) (fun Z4 wz4 e4 hb24 => ?_)
    have e14 := (e2.trans e3).trans e4
    have hr22 := hr22a.ext (e3.trans e4)
    have hr23 := hr23a.ext e4
    have hFb4 : ∀ b, F b → b < b4 := fun b hb => hb4 b (hF b hb).1
    have he0 : Ext (fun b => b < w.heap.size) w (Minus Z1 F) wz1 := ⟨fun b o hf => ⟨⟨(hext.fb b o hf).z, fun hb => by have := (hF b hb).2.2; have := hf.z; omega⟩, (hext.fb b o hf).at_⟩⟩
    have hn4 := (hr.ext he0).ext (e14.minus F)
    have heF : Ext F wz1 Z4 wz4 := (Ext.sub (fun b hb => (hF b hb).1)).trans e14
    have hk4 := hrk.ext heF
    have hlaid4 : ∀ p ∈ us, LaidE Z4 wz4 p := fun p hp => (hlaid p hp).ext heF
    have hsp4 := hsp.inter e14 (fun b hb => (hF b (hE' b hb)).1)
    refine JL_v (vo_load rfl (by first | exact .frz ‹_› | exact .own (by repeat (first | exact .head _ | refine .tail _ ?_))) (by first | exact PartAt.whole Try.underlying30 rfl sz30 | exact pn_all ‹_› | exact pn_val (node_self _ _ _ _) | exact pn_marks (node_self _ _ _ _) | exact pn_name ‹_›)) nofun (by decide) ?_
    refine st_scall rfl en11 (by decide) (fun w1 hw => rcheck_spec nd hok _ w1 ((hn4.ext (Ext.unMinus _ _ _)).ext hw.ext_all)) ?_
    rintro _ rfl
    refine JL_v (vo_move rfl) nofun (by decide) ?_
    refine JL_v (vo_extract rfl rfl) nofun (by decide) ?_
    refine JL_v (vo_extract rfl rfl) nofun (by decide) ?_
    refine JL_v (vo_assign rfl) nofun (by decide) ?_
    refine JL_v (vo_assign rfl) nofun (by decide) ?_
    refine JL_nil ?_
    refine JX_then ?_
    refine JC_seq ?_
    refine JC_seq ?_
    refine JC_region ?_
    refine JL_v (vo_assign rfl) nofun (by decide) ?_
    refine JL_nil ?_
    refine JX_then ?_
    refine JC_block ?_
    refine JC_loop (α := AtL Z4 wz4) (fun x => [(1, .pointer (some ⟨b1, 0, none⟩)), (3, .pointer (some ⟨b24, 0, none⟩)), (4, .pointer (some ⟨b4, 0, none⟩)), (5, .string (rchk0 nd).1), (6, .int .i64 (rchk0 nd).2), (7, .int .i64 x.k)]) (fun x => Mem w (fun _ => False) (fun b => b < w.heap.size)  x.Z x.wz [.blk b4 (.cells (ndC nd (.slice Ak nd.kids.length ck)).toArray 30 (0, 0)), .blk b1 (.cells (ndC nd (.slice A nd.kids.length c)).toArray 30 (0, 0))]) (fun x => 2 - x.k) ⟨0, Z4, wz4, by omega, .refl _ _⟩ (by repeat (first | exact trivial | refine ⟨rfl, ?_⟩ | refine ⟨trivial, ?_⟩)) (fun w1 hw => hw.sub (.cons_cons _ (.cons _ (List.Sublist.refl _)))) ?_
    intro x
    have hxk := x.hk
    have hkx := hk4.ext x.ext
    have hnx := hn4.ext (x.ext.minus F)
    refine JC_seq ?_
    refine JC_seq ?_
    refine JC_region ?_
    refine JL_v (vo_move rfl) nofun (by decide) ?_
    refine JL_v (vo_cmp rfl rfl rfl) nofun (by decide) ?_
    refine JL_nil ?_
    refine JX_then ?_
    refine JC_cond _ rfl (fun hc34 => ?_) (fun hc34 => ?_)
    · have hk2 : x.k < 2 := by simp at hc34; omega
      refine JC_skip ?_
      refine JX_then ?_
      refine JC_seq ?_
      refine JC_block ?_
      refine JC_seq ?_
      refine JC_region ?_
      refine JL_v (vo_load rfl (by first | exact .frz ‹_› | exact .own (by repeat (first | exact .head _ | refine .tail _ ?_))) (by first | exact PartAt.whole Try.underlying30 rfl sz30 | exact pn_all ‹_› | exact pn_val (node_self _ _ _ _) | exact pn_marks (node_self _ _ _ _) | exact pn_name ‹_›)) nofun (by decide) ?_
      refine st_scall rfl en12 (by decide) (fun w1 hw => check_spec nd hok _ w1 (hkx.ext hw.ext_all)) ?_
      rintro _ h12
      rw [chk0_eq] at h12
      subst h12
      refine JL_v (vo_move rfl) nofun (by decide) ?_
      refine JL_v (vo_extract rfl rfl) nofun (by decide) ?_
      refine JL_v (vo_extract rfl rfl) nofun (by decide) ?_
      refine JL_v (vo_assign rfl) nofun (by decide) ?_
      refine JL_v (vo_assign rfl) nofun (by decide) ?_
      refine JL_nil ?_
      refine JX_then ?_
      refine JC_seq ?_
      refine JC_region ?_
      refine JL_v (vo_load rfl (by first | exact .frz ‹_› | exact .own (by repeat (first | exact .head _ | refine .tail _ ?_))) (by first | exact PartAt.whole Try.underlying30 rfl sz30 | exact pn_all ‹_› | exact pn_val (node_self _ _ _ _) | exact pn_marks (node_self _ _ _ _) | exact pn_name ‹_›)) nofun (by decide) ?_
      refine st_fcall rfl en13 (by decide) (grows_of nd) (fun w1 hw => ofF_spec nd hok _ w1 (hkx.ext hw.ext_all) hcnt2) (fun v9 Z44 wz44 e44 h44 => ?_)
      obtain ⟨p44, rfl, hof⟩ := of_cases h44
      refine JL_v (vo_move rfl) nofun (by decide) ?_
      refine JL_v (vo_extract rfl rfl) nofun (by decide) ?_
      refine JL_v (vo_extract rfl rfl) nofun (by decide) ?_
      refine JL_v (vo_assign rfl) nofun (by decide) ?_
      refine JL_v (vo_assign rfl) nofun (by decide) ?_
      refine JL_nil ?_
      refine JX_then ?_
      refine JC_seq ?_
      refine JC_region ?_
      refine JL_v (vo_move rfl) nofun (by decide) ?_
      refine JL_v (vo_move rfl) nofun (by decide) ?_
      refine JL_v (vo_scmp rfl rfl rfl) nofun (by decide) ?_
      refine JL_v (vo_move rfl) nofun (by decide) ?_
      refine JL_case 50 rfl (fun hg50 => absurd hg50 (by simp [beq])) (fun hg50 => ?_)
      refine JL_yes rfl rfl ?_
      refine JL_v (vo_move rfl) nofun (by decide) ?_
      refine JL_yes rfl rfl ?_
      refine JL_v (vo_move rfl) nofun (by decide) ?_
      refine JL_yes rfl rfl ?_
      refine JL_v (vo_cmp rfl rfl rfl) nofun (by decide) ?_
      refine JL_v (vo_pick rfl rfl) nofun (by decide) ?_
      refine JL_v (vo_move rfl) nofun (by decide) ?_
      refine JL_case 55 rfl (fun hg55 => absurd hg55 (by simp)) (fun hg55 => ?_)
      refine JL_yes rfl rfl ?_
      refine JL_v (vo_move rfl) nofun (by decide) ?_
      refine JL_yes rfl rfl ?_
      refine JL_v (vo_move rfl) nofun (by decide) ?_
      refine JL_yes rfl rfl ?_
      refine JL_v (vo_cmp rfl rfl rfl) nofun (by decide) ?_
      refine JL_v (vo_pick rfl rfl) nofun (by decide) ?_
      refine JL_v (vo_move rfl) nofun (by decide) ?_
      refine JL_case 60 rfl (fun hg60 => absurd hg60 (by simp)) (fun hg60 => ?_)
      refine JL_yes rfl rfl ?_
      refine JL_v (vo_move rfl) nofun (by decide) ?_
      refine JL_yes rfl rfl ?_
      refine JL_v (vo_eqNil rfl rfl Try.underlying55 rfl) nofun (by decide) ?_
      refine JL_yes rfl rfl ?_
      refine JL_v (vo_move rfl) nofun (by decide) ?_
      refine JL_yes rfl rfl ?_
      refine JL_v (vo_cmp rfl rfl rfl) nofun (by decide) ?_
      refine JL_yes rfl rfl ?_
      refine JL_v (vo_eqBool rfl rfl Try.underlying4 rfl) nofun (by decide) ?_
      refine JL_v (vo_pick rfl rfl) nofun (by decide) ?_
      refine JL_v (vo_move rfl) nofun (by decide) ?_
      refine JL_case 67 rfl (fun hg67 => absurd hg67 (by rcases hof with ⟨h, rfl⟩ | ⟨h, b, rfl, _⟩ <;> simp [h])) (fun hg67 => ?_)
      refine JL_yes rfl rfl ?_
      refine JL_v (vo_move rfl) nofun (by decide) ?_
      refine JL_yes rfl rfl ?_
      refine JL_v (vo_cmp rfl rfl rfl) nofun (by decide) ?_
      refine JL_yes rfl rfl ?_
      refine JL_v (vo_move rfl) nofun (by decide) ?_
      refine JL_case 70 rfl (fun hg70 => ?_) (fun hg70 => ?_)
      · obtain ⟨b44, rfl, hT44⟩ := (hof.resolve_left (fun h => h.1 (by simpa using hg70))).2
        refine JL_yes rfl rfl ?_
        refine JL_v (vo_move rfl) nofun (by decide) ?_
        refine JL_yes rfl rfl ?_
        refine JL_v (vo_load rfl (by first | exact .frz ‹_› | exact .own (by repeat (first | exact .head _ | refine .tail _ ?_))) (by first | exact PartAt.whole Try.underlying30 rfl sz30 | exact pn_all ‹_› | exact pn_val (node_self _ _ _ _) | exact pn_marks (node_self _ _ _ _) | exact pn_name ‹_›)) nofun (by decide) ?_
        refine JL_yes rfl rfl ?_
        refine st_scall rfl en14 (by decide) (fun w1 hw => alike_spec nd hok (by omega) b44 _ w1 ((hT44.ext (Ext.unNZ _)).ext hw.ext_all) (((hnx.ext (e44.minus F)).ext (Ext.unMinus _ _ _)).ext hw.ext_all)) ?_
        rintro _ rfl
        refine JL_yes rfl rfl ?_
        refine JL_v (vo_not rfl) nofun (by decide) ?_
        refine JL_yes rfl rfl ?_
        refine JL_v (vo_pick rfl rfl) nofun (by decide) ?_
        refine JL_v (vo_pick rfl rfl) nofun (by decide) ?_
        refine JL_nil ?_
        refine JX_then ?_
        refine JC_cond _ rfl (fun hc76 => ?_) (fun hc76 => ?_)
        · exact absurd hc76 (by simp)
        · refine JC_skip ?_
          refine JX_block ?_
          refine JX_then ?_
          refine JC_region ?_
          refine JL_v (vo_move rfl) nofun (by decide) ?_
          refine JL_v (vo_add rfl rfl (by omega) (by omega)) nofun (by decide) ?_
          refine JL_v (vo_assign rfl) nofun (by decide) ?_
          refine JL_nil ?_
          refine JX_loop ⟨x.k + 1, Z44, wz44, by omega, x.ext.trans e44⟩ (by show 2 - (x.k + 1) < 2 - x.k; omega) (by repeat (first | exact trivial | refine ⟨rfl, ?_⟩ | refine ⟨trivial, ?_⟩)) (fun w1 hw => hw)
      · refine JL_no rfl rfl (by decide) ?_
        refine JL_no rfl rfl (by decide) ?_
        refine JL_no rfl rfl (by decide) ?_
        refine JL_no rfl rfl (by decide) ?_
        refine JL_yes rfl rfl ?_
        refine JL_v (vo_pick rfl rfl) nofun (by decide) ?_
        refine JL_v (vo_pick rfl rfl) nofun (by decide) ?_
        refine JL_nil ?_
        refine JX_then ?_
        refine JC_cond false rfl (fun h => Bool.noConfusion h) (fun _ => ?_)
        refine JC_skip ?_
        refine JX_block ?_
        refine JX_then ?_
        refine JC_region ?_
        refine JL_v (vo_move rfl) nofun (by decide) ?_
        refine JL_v (vo_add rfl rfl (by omega) (by omega)) nofun (by decide) ?_
        refine JL_v (vo_assign rfl) nofun (by decide) ?_
        refine JL_nil ?_
        refine JX_loop ⟨x.k + 1, Z44, wz44, by omega, x.ext.trans e44⟩ (by show 2 - (x.k + 1) < 2 - x.k; omega) (by repeat (first | exact trivial | refine ⟨rfl, ?_⟩ | refine ⟨trivial, ?_⟩)) (fun w1 hw => hw)
    · refine JC_exit ?_
      refine JX_then_exit ?_
      refine JX_thenK_exit ?_
      refine JX_block_exit ?_
      refine JX_then ?_
      refine JC_seq ?_
      refine JC_region ?_
      refine JL_v (vo_load rfl (by first | exact .frz ‹_› | exact .own (by repeat (first | exact .head _ | refine .tail _ ?_))) (by first | exact PartAt.whole Try.underlying30 rfl sz30 | exact pn_all ‹_› | exact pn_val (node_self _ _ _ _) | exact pn_marks (node_self _ _ _ _) | exact pn_name ‹_›)) nofun (by decide) ?_
      refine st_fcallX F (fun w1 hw b hb => Nat.lt_trans (hFb4 b hb) (Res.foot_lt (hw.own _ (.head _)) rfl)) rfl en13 (by decide) (grows_of nd) (fun w1 hw => ofF_spec nd hok _ w1 (hkx.ext hw.ext_all) hcnt2) (fun v9 Z79 wz79 e79 h79 => ?_)
      obtain ⟨p79, rfl, hof79⟩ := of_cases h79
      refine JL_v (vo_move rfl) nofun (by decide) ?_
      refine JL_v (vo_extract rfl rfl) nofun (by decide) ?_
      refine JL_v (vo_extract rfl rfl) nofun (by decide) ?_
      refine JL_v (vo_assign rfl) nofun (by decide) ?_
      refine JL_v (vo_assign rfl) nofun (by decide) ?_
      refine JL_nil ?_
      refine JX_then ?_
      refine JC_seq ?_
      refine JC_seq ?_
      refine JC_region ?_
      have hk79 := hkx.ext e79
      have hn79 := hnx.ext (e79.minus F)
      refine JL_v (vo_load rfl (by first | exact .frz ‹_› | exact .own (by repeat (first | exact .head _ | refine .tail _ ?_))) (by first | exact PartAt.whole Try.underlying30 rfl sz30 | exact pn_all ‹_› | exact pn_val (node_self _ _ _ _) | exact pn_marks (node_self _ _ _ _) | exact pn_name ‹_›)) nofun (by decide) ?_
      refine JL_v (vo_load rfl (by first | exact .frz ‹_› | exact .own (by repeat (first | exact .head _ | refine .tail _ ?_))) (by first | exact PartAt.whole Try.underlying30 rfl sz30 | exact pn_all ‹_› | exact pn_val (node_self _ _ _ _) | exact pn_marks (node_self _ _ _ _) | exact pn_name ‹_›)) nofun (by decide) ?_
      refine st_scall rfl en15 (by decide) (fun w1 hw => sameNode_spec nd nd _ _ w1 (hk79.ext hw.ext_all) ((hn79.ext (Ext.unMinus _ _ _)).ext hw.ext_all)) ?_
      rintro _ h15
      rw [same_self] at h15
      subst h15
      refine JL_v (vo_not rfl) nofun (by decide) ?_
      refine JL_v (vo_move rfl) nofun (by decide) ?_
      refine JL_case 86 rfl (fun hg86 => absurd hg86 (by simp)) (fun hg86 => ?_)
      refine JL_yes rfl rfl ?_
      refine JL_v (vo_move rfl) nofun (by decide) ?_
      refine JL_yes rfl rfl ?_
      refine st_scall rfl en16 (by decide) (fun w1 hw => hold_spec b24 v22 v23 us w1 (hw.ext_all.fb _ _ ((x.ext.trans e79).fb _ _ hb24)) ((hr22.ext (x.ext.trans e79)).ext hw.ext_all) ((hr23.ext (x.ext.trans e79)).ext hw.ext_all) (fun p hp => ((hlaid4 p hp).ext (x.ext.trans e79)).ext hw.ext_all)) ?_
      rintro _ rfl
      refine JL_yes rfl rfl ?_
      refine JL_v (vo_not rfl) nofun (by decide) ?_
      refine JL_v (vo_pick rfl rfl) nofun (by decide) ?_
      refine JL_nil ?_
      refine JX_then ?_
      refine JC_cond _ rfl (fun hc90 => ?_) (fun hc90 => ?_)
      · exact absurd hc90 (by simp)
      · refine JC_skip ?_
        refine JX_then ?_
        refine JC_seq ?_
        refine JC_region ?_
        refine JL_v (vo_fieldAddr rfl fo30_3) nofun (by decide) ?_
        refine JL_v (vo_load rfl (by first | exact .frz ‹_› | exact .own (by repeat (first | exact .head _ | refine .tail _ ?_))) (by first | exact .cell Try.underlying28 rfl rfl | exact pn_all ‹_› | exact pn_val (node_self _ _ _ _) | exact pn_marks (node_self _ _ _ _) | exact pn_name ‹_›)) nofun (by decide) ?_
        refine st_spoil (F := F) (Ex := fun b => (E' b ∧ Z4 b) ∧ Z79 b) rfl en17 (by decide) (hsp4.inter (x.ext.trans e79) (fun b hb => hb.2)) (fun b hb => ⟨hb.2, (hF b (hE' b hb.1.1)).2.2⟩) (fun b hb => hE' b hb.1.1) hk79 (fun wz6 e6 hks0 => ?_)
        have hks : RNds Z79 wz6 (ndSp nd).kids (.slice Ak nd.kids.length ck) := hks0
        refine JL_nil ?_
        refine JX_then ?_
        refine JC_seq ?_
        refine JC_region ?_
        refine JL_v (vo_load rfl (by first | exact .frz ‹_› | exact .own (by repeat (first | exact .head _ | refine .tail _ ?_))) (by first | exact PartAt.whole Try.underlying30 rfl sz30 | exact pn_all ‹_› | exact pn_val (node_self _ _ _ _) | exact pn_marks (node_self _ _ _ _) | exact pn_name ‹_›)) nofun (by decide) ?_
        refine st_fcall rfl en18 (by decide) (grows_copy (ndSp nd)) (fun w1 hw => copy_spec (ndSp nd) hokS _ w1 (hks.ext hw.ext_all)) (fun v9 Z7 wz7 e7 h7 => ?_)
        obtain ⟨kn, rfl, h7r⟩ := h7
        obtain ⟨An, cn, hkn, hln⟩ := h7r.slice
        subst hkn
        refine st_alloc zr30 (by decide) (fun b14 => ?_)
        refine st_store (cs := (nodeC ⟨#[]⟩ zeroVal zeroMk nilS).toArray) (cs' := (ndC (ndSp nd) (.slice An (ndSp nd).kids.length cn)).toArray) (te := 30) rfl rfl sz30 (by exact one_of_all rfl) (by repeat (first | exact .head _ _ _ | apply Turn.tail)) (by exact Nat.le_of_ble_eq_true rfl) (setSeg_whole rfl) ?_
        refine JL_nil ?_
        refine JX_then ?_
        refine JC_seq ?_
        refine JC_region ?_
        refine JL_v (vo_load rfl (by first | exact .frz ‹_› | exact .own (by repeat (first | exact .head _ | refine .tail _ ?_))) (by first | exact PartAt.whole Try.underlying30 rfl sz30 | exact pn_all ‹_› | exact pn_val (node_self _ _ _ _) | exact pn_marks (node_self _ _ _ _) | exact pn_name ‹_›)) nofun (by decide) ?_
        refine st_scall rfl en11 (by decide) (fun w1 hw => rcheck_spec (ndSp nd) hokS _ w1 ((h7r.ext (Ext.unNZ _)).ext hw.ext_all)) ?_
        rintro _ rfl
        refine JL_v (vo_move rfl) nofun (by decide) ?_
        refine JL_v (vo_extract rfl rfl) nofun (by decide) ?_
        refine JL_v (vo_extract rfl rfl) nofun (by decide) ?_
        refine JL_v (vo_assign rfl) nofun (by decide) ?_
        refine JL_v (vo_assign rfl) nofun (by decide) ?_
        refine JL_nil ?_
        refine JX_then ?_
        refine JC_seq ?_
        refine JC_region ?_
        refine JL_v (vo_load rfl (by first | exact .frz ‹_› | exact .own (by repeat (first | exact .head _ | refine .tail _ ?_))) (by first | exact PartAt.whole Try.underlying30 rfl sz30 | exact pn_all ‹_› | exact pn_val (node_self _ _ _ _) | exact pn_marks (node_self _ _ _ _) | exact pn_name ‹_›)) nofun (by decide) ?_
        refine st_scall rfl en12 (by decide) (fun w1 hw => check_spec (ndSp nd) hokS _ w1 ((hks.ext e7).ext hw.ext_all)) ?_
        rintro _ h12
        rw [chk0_eq] at h12
        subst h12
        refine JL_v (vo_move rfl) nofun (by decide) ?_
        refine JL_v (vo_extract rfl rfl) nofun (by decide) ?_
        refine JL_v (vo_extract rfl rfl) nofun (by decide) ?_
        refine JL_v (vo_assign rfl) nofun (by decide) ?_
        refine JL_v (vo_assign rfl) nofun (by decide) ?_
        refine JL_nil ?_
        refine JX_then ?_
        refine JC_seq ?_
        refine JC_region ?_
        refine JL_v (vo_load rfl (by first | exact .frz ‹_› | exact .own (by repeat (first | exact .head _ | refine .tail _ ?_))) (by first | exact PartAt.whole Try.underlying30 rfl sz30 | exact pn_all ‹_› | exact pn_val (node_self _ _ _ _) | exact pn_marks (node_self _ _ _ _) | exact pn_name ‹_›)) nofun (by decide) ?_
        refine st_fcall rfl en13 (by decide) (grows_of (ndSp nd)) (fun w1 hw => ofF_spec (ndSp nd) hokS _ w1 ((hks.ext e7).ext hw.ext_all) hcntS) (fun v9 Z107 wz107 e107 h107 => ?_)
        obtain ⟨p107, rfl, hof107⟩ := of_cases h107
        refine JL_v (vo_move rfl) nofun (by decide) ?_
        refine JL_v (vo_extract rfl rfl) nofun (by decide) ?_
        refine JL_v (vo_extract rfl rfl) nofun (by decide) ?_
        refine JL_v (vo_assign rfl) nofun (by decide) ?_
        refine JL_v (vo_assign rfl) nofun (by decide) ?_
        refine JL_nil ?_
        refine JX_then ?_
        refine JC_seq ?_
        refine JC_seq ?_
        refine JC_region ?_
        refine JL_v (vo_move rfl) nofun (by decide) ?_
        refine JL_v (vo_move rfl) nofun (by decide) ?_
        refine JL_v (vo_scmp rfl rfl rfl) nofun (by decide) ?_
        refine JL_v (vo_move rfl) nofun (by decide) ?_
        refine JL_case 114 rfl (fun hg114 => absurd hg114 (by simp [beq])) (fun hg114 => ?_)
        refine JL_yes rfl rfl ?_
        refine JL_v (vo_move rfl) nofun (by decide) ?_
        refine JL_yes rfl rfl ?_
        refine JL_v (vo_move rfl) nofun (by decide) ?_
        refine JL_yes rfl rfl ?_
        refine JL_v (vo_cmp rfl rfl rfl) nofun (by decide) ?_
        refine JL_v (vo_pick rfl rfl) nofun (by decide) ?_
        refine JL_v (vo_move rfl) nofun (by decide) ?_
        refine JL_case 119 rfl (fun hg119 => absurd hg119 (by simp)) (fun hg119 => ?_)
        refine JL_yes rfl rfl ?_
        refine JL_v (vo_move rfl) nofun (by decide) ?_
        refine JL_yes rfl rfl ?_
        refine JL_v (vo_move rfl) nofun (by decide) ?_
        refine JL_yes rfl rfl ?_
        refine JL_v (vo_cmp rfl rfl rfl) nofun (by decide) ?_
        refine JL_v (vo_pick rfl rfl) nofun (by decide) ?_
        refine JL_v (vo_move rfl) nofun (by decide) ?_
        refine JL_case 124 rfl (fun hg124 => absurd hg124 (by simp)) (fun hg124 => ?_)
        refine JL_yes rfl rfl ?_
        refine JL_v (vo_move rfl) nofun (by decide) ?_
        refine JL_yes rfl rfl ?_
        refine JL_v (vo_eqNil rfl rfl Try.underlying55 rfl) nofun (by decide) ?_
        refine JL_yes rfl rfl ?_
        refine JL_v (vo_move rfl) nofun (by decide) ?_
        refine JL_yes rfl rfl ?_
        refine JL_v (vo_cmp rfl rfl rfl) nofun (by decide) ?_
        refine JL_yes rfl rfl ?_
        refine JL_v (vo_eqBool rfl rfl Try.underlying4 rfl) nofun (by decide) ?_
        refine JL_v (vo_pick rfl rfl) nofun (by decide) ?_
        refine JL_v (vo_move rfl) nofun (by decide) ?_
        refine JL_case 131 rfl (fun hg131 => absurd hg131 (by rcases hof107 with ⟨h, rfl⟩ | ⟨h, b, rfl, _⟩ <;> simp [h])) (fun hg131 => ?_)
        refine JL_yes rfl rfl ?_
        refine JL_v (vo_load rfl (by first | exact .frz ‹_› | exact .own (by repeat (first | exact .head _ | refine .tail _ ?_))) (by first | exact PartAt.whole Try.underlying30 rfl sz30 | exact pn_all ‹_› | exact pn_val (node_self _ _ _ _) | exact pn_marks (node_self _ _ _ _) | exact pn_name ‹_›)) nofun (by decide) ?_
        refine JL_yes rfl rfl ?_
        refine JL_v (vo_load rfl (by first | exact .frz ‹_› | exact .own (by repeat (first | exact .head _ | refine .tail _ ?_))) (by first | exact PartAt.whole Try.underlying30 rfl sz30 | exact pn_all ‹_› | exact pn_val (node_self _ _ _ _) | exact pn_marks (node_self _ _ _ _) | exact pn_name ‹_›)) nofun (by decide) ?_
        refine JL_yes rfl rfl ?_
        refine st_scall rfl en15 (by decide) (fun w1 hw => sameNode_spec (ndSp nd) (ndSp nd) _ _ w1 (((hks.ext e7).ext e107).ext hw.ext_all) (((h7r.ext (Ext.unNZ _)).ext e107).ext hw.ext_all)) ?_
        rintro _ h15
        rw [same_self] at h15
        subst h15
        refine JL_yes rfl rfl ?_
        refine JL_v (vo_not rfl) nofun (by decide) ?_
        refine JL_v (vo_pick rfl rfl) nofun (by decide) ?_
        refine JL_nil ?_
        refine JX_then ?_
        refine JC_cond _ rfl (fun hc136 => ?_) (fun hc136 => ?_)
        · exact absurd hc136 (by simp)
        · refine JC_skip ?_
          refine JX_then ?_
          refine JC_seq ?_
          refine JC_region ?_
          refine JL_v (vo_move rfl) nofun (by decide) ?_
          refine JL_v (vo_eqNil rfl rfl Try.underlying55 rfl) nofun (by decide) ?_
          refine JL_v (vo_move rfl) nofun (by decide) ?_
          refine JL_case 139 rfl (fun hg139 => ?_) (fun hg139 => ?_)
          · refine JL_no rfl rfl (by decide) ?_
            refine JL_no rfl rfl (by decide) ?_
            refine JL_no rfl rfl (by decide) ?_
            refine JL_v (vo_pick rfl rfl) nofun (by decide) ?_
            refine JL_v (vo_assign rfl) nofun (by decide) ?_
            refine JL_nil ?_
            refine JX_then ?_
            refine JC_ret ?_
            refine ret1 rfl rfl ?_
            intro w1 hM; exact SC_end hM rfl
          · obtain ⟨b79, rfl, hT79⟩ := (hof79.resolve_left (fun h => by rw [h.2] at hg139; simp at hg139)).2
            refine JL_yes rfl rfl ?_
            refine JL_v (vo_move rfl) nofun (by decide) ?_
            refine JL_yes rfl rfl ?_
            refine JL_v (vo_load rfl (by first | exact .frz ‹_› | exact .own (by repeat (first | exact .head _ | refine .tail _ ?_))) (by first | exact PartAt.whole Try.underlying30 rfl sz30 | exact pn_all ‹_› | exact pn_val (node_self _ _ _ _) | exact pn_marks (node_self _ _ _ _) | exact pn_name ‹_›)) nofun (by decide) ?_
            refine JL_yes rfl rfl ?_
            refine st_scall rfl en14 (by decide) (fun w1 hw => alike_spec nd hok (by omega) b79 _ w1 ((((hT79.ext e6).ext ((e7.trans e107).minus F)).ext (Ext.unMinus _ _ _)).ext hw.ext_all) ((((hn79.ext e6).ext ((e7.trans e107).minus F)).ext (Ext.unMinus _ _ _)).ext hw.ext_all)) ?_
            rintro _ rfl
            refine JL_v (vo_pick rfl rfl) nofun (by decide) ?_
            refine JL_v (vo_assign rfl) nofun (by decide) ?_
            refine JL_nil ?_
            refine JX_then ?_
            refine JC_ret ?_
            refine ret1 rfl rfl ?_
            intro w1 hM; exact SC_end hM rfl

end Go.Eng
