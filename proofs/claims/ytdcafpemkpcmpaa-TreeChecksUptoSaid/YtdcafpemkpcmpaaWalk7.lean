/-
  Part of the proofs over this seat: D10 W16 W17. Own work; imports the kit.
-/
import Derived.Test.YtdcafpemkpcmpaaData1
import Derived.Test.YtdcafpemkpcmpaaWalk6
set_option linter.unusedVariables false
set_option linter.unusedSimpArgs false
namespace Go.Eng
open Go Go.RowKit Go.Proofs
theorem trOf_val (nd : Nd) : (trOf nd).val = nd.val := by cases nd; simp [trOf, Tr.val, Nd.val]
mutual
theorem rall_all : ∀ (nd : Nd) (p : ByteArray), (rall nd p).map (fun x => (x.path, x.val)) = allT (trOf nd) p
  | .mk _ v m ks, p => by
    simp only [rall, trOf, allT, List.map_cons]
    rw [rallL_all ks p]
theorem rallL_all : ∀ (ks : List Nd) (p : ByteArray), (rallL ks p).map (fun x => (x.path, x.val)) = allK (namesOf ks) (trsOf ks) p
  | [], p => by simp [rallL, namesOf, trsOf, allK]
  | k :: ks, p => by
    simp only [rallL, namesOf, trsOf, allK, List.map_append]
    rw [rall_all k _, rallL_all ks p]
end
/-- two boxes of a taker that goes on -/
def H2 (bok bi : Nat) (i : Nat) (L : List Res) : Prop := L = [.blk bi (.cells #[.int .i64 i] 3 (0, 0)), .blk bok (.cells #[.bool true] 4 (0, 0))]
theorem startL2 {L L2 : List Res} {w : World} (h : Holds L w) (he : L = L2) : Mem w (EL L) (ZL L w) (ZL L w) w L2 w := by
  have := Mem.startL h
  exact he ▸ this
end Go.Eng

set_option linter.unusedVariables false
set_option linter.unusedSimpArgs false
namespace Go.Eng
open Go Go.RowKit Go.Proofs
theorem en23 : Enters Try.prog 23 := ⟨_, Try.func23, by kernel_rfl, by kernel_rfl⟩
theorem en24 : Enters Try.prog 24 := ⟨_, Try.func24, by kernel_rfl, by kernel_rfl⟩
theorem en28 : Enters Try.prog 28 := ⟨_, Try.func28, by kernel_rfl, by kernel_rfl⟩

set_option maxRecDepth 8000 in
set_option maxHeartbeats 1000000 in
theorem takes27 (nd : Nd) (bok bk bn bd : Nat) (nv kv : Value) (Zf : Nat → Prop) (wf : World) (hfbn0 : FB Zf wf bn (.cells #[nv] 71 (0, 0))) (hfbd0 : FB Zf wf bd (.cells (ndC nd kv).toArray 30 (0, 0))) (hn : RVals Zf wf ((namesOf nd.kids).map strV) nv) (hr : RNds Zf wf nd.kids kv) : TakesNK 27 #[.pointer (some ⟨bok, 0, none⟩), .pointer (some ⟨bk, 0, none⟩), .pointer (some ⟨bn, 0, none⟩), .pointer (some ⟨bd, 0, none⟩)] (namesOf nd.kids) (trsOf nd.kids) (fun _ => true) (H2 bok bk) Zf wf := by
  obtain ⟨A, c, rfl, hn9⟩ := hn.slice
  obtain ⟨Ak, ck, rfl, hlk⟩ := hr.slice
  simp only [List.length_map] at hn9
  have hm1 : ((namesOf nd.kids).map strV).length = (namesOf nd.kids).length := List.length_map _
  have hm2 : (namesOf nd.kids).length = nd.kids.length := by rw [namesOf_eq, List.length_map]
  intro i n k b L w hni hki hH hL hE hT
  have hM0 := startL2 hL hH
  have hfbn := hE.fb _ _ hfbn0
  have hfbd := hE.fb _ _ hfbd0
  have hn' := hn.ext hE
  have hr' := hr.ext hE
  have hil := (List.getElem?_eq_some_iff.1 hni).1
  obtain ⟨nk, hnk, rfl⟩ : ∃ nk, nd.kids[i]? = some nk ∧ trOf nk = k := by
    rw [trsOf_eq, List.getElem?_map] at hki
    exact Option.map_eq_some_iff.1 hki
  obtain ⟨b1, o1, c1, cs1, te1, fr1, hv1, hfb1, hcell1⟩ := hn'.at_ (i := i) (u := strV n) (by simp [hni])
  cases hv1
  obtain ⟨b2, o2, c2, cs2, te2, fr2, kk, hv2, hfb2, hseg, hkk⟩ := hr'.at_ hnk
  cases hv2
  obtain ⟨Akk, ckk, rfl, hlkk⟩ := hkk.slice
  have hnn : n = nk.name := by
    rw [namesOf_eq, List.getElem?_map, hnk] at hni
    simpa using hni.symm
  have hil2 : i < nd.kids.length := by omega
  refine enter (N := 42) Try.func27 rfl Try.ntmps27 (Nat.le_of_ble_eq_true rfl) [(0, .string n), (1, ptrV b), (2, .pointer (some ⟨bok, 0, none⟩)), (3, .pointer (some ⟨bk, 0, none⟩)), (4, .pointer (some ⟨bn, 0, none⟩)), (5, .pointer (some ⟨bd, 0, none⟩))] (by repeat (first | exact trivial | refine ⟨rfl, ?_⟩)) (hM0) ?_
  refine JC_seq ?_
  refine JC_region ?_
  refine JL_v (vo_assign rfl) nofun (by decide) ?_
  refine JL_nil ?_
  refine JX_then ?_
  refine JC_seq ?_
  refine JC_drawM 30 (by kernel_rfl) (fun w hw => Mem.drew hw) ?_
  refine JR_v (i := 0) rfl (by kernel_rfl) (by kernel_rfl) rfl (by kernel_rfl) (by kernel_rfl) (panic_Then panic_body) (by decide) (vo_load rfl (by first | exact .frz ‹_› | exact .own (by repeat (first | exact .head _ | refine .tail _ ?_))) (by first | exact .cell Try.underlying4 rfl rfl | exact .cell Try.underlying9 rfl (by simpa using hcell1) | exact pn_val hseg | exact pn_all hseg | exact pn_kids hseg | exact pn_kids (node_self _ _ _ _))) (fun w hw => hw) ?_
  refine JR_v (i := 1) rfl (by kernel_rfl) (by kernel_rfl) rfl (by kernel_rfl) (by kernel_rfl) (panic_Then panic_body) (by decide) (vo_move rfl) (fun w hw => hw) ?_
  refine JR_case 10 rfl (fun hg10 => ?_) (fun hg10 => absurd hg10 (by decide))
  refine JR_vy (i := 2) rfl rfl rfl (by kernel_rfl) (by kernel_rfl) rfl (by kernel_rfl) (by kernel_rfl) (panic_Then panic_body) (by decide) (vo_load rfl (by first | exact .frz ‹_› | exact .own (by repeat (first | exact .head _ | refine .tail _ ?_))) (by first | exact .cell Try.underlying3 rfl rfl | exact .cell Try.underlying9 rfl (by simpa using hcell1) | exact pn_val hseg | exact pn_all hseg | exact pn_kids hseg | exact pn_kids (node_self _ _ _ _))) (fun w hw => hw) ?_
  refine JR_vy (i := 3) rfl rfl rfl (by kernel_rfl) (by kernel_rfl) rfl (by kernel_rfl) (by kernel_rfl) (panic_Then panic_body) (by decide) (vo_load rfl (by first | exact .frz ‹_› | exact .own (by repeat (first | exact .head _ | refine .tail _ ?_))) (by first | exact .cell Try.underlying71 rfl rfl | exact .cell Try.underlying9 rfl (by simpa using hcell1) | exact pn_val hseg | exact pn_all hseg | exact pn_kids hseg | exact pn_kids (node_self _ _ _ _))) (fun w hw => hw) ?_
  refine JR_vy (i := 4) rfl rfl rfl (by kernel_rfl) (by kernel_rfl) rfl (by kernel_rfl) (by kernel_rfl) (panic_Then panic_body) (by decide) (vo_len rfl Try.underlying71) (fun w hw => hw) ?_
  refine JR_vy (i := 5) rfl rfl rfl (by kernel_rfl) (by kernel_rfl) rfl (by kernel_rfl) (by kernel_rfl) (panic_Then panic_body) (by decide) (vo_cmp rfl rfl rfl) (fun w hw => hw) ?_
  refine JR_v (i := 6) rfl (by kernel_rfl) (by kernel_rfl) rfl (by kernel_rfl) (by kernel_rfl) (panic_Then panic_body) (by decide) (vo_pick rfl rfl) (fun w hw => hw) ?_
  refine JR_v (i := 7) rfl (by kernel_rfl) (by kernel_rfl) rfl (by kernel_rfl) (by kernel_rfl) (panic_Then panic_body) (by decide) (vo_move rfl) (fun w hw => hw) ?_
  refine JR_case 16 rfl (fun hg16 => ?_) (fun hg16 => absurd hg16 (by simp; omega))
  refine JR_vy (i := 8) rfl rfl rfl (by kernel_rfl) (by kernel_rfl) rfl (by kernel_rfl) (by kernel_rfl) (panic_Then panic_body) (by decide) (vo_move rfl) (fun w hw => hw) ?_
  refine JR_vy (i := 9) rfl rfl rfl (by kernel_rfl) (by kernel_rfl) rfl (by kernel_rfl) (by kernel_rfl) (panic_Then panic_body) (by decide) (vo_load rfl (by first | exact .frz ‹_› | exact .own (by repeat (first | exact .head _ | refine .tail _ ?_))) (by first | exact .cell Try.underlying71 rfl rfl | exact .cell Try.underlying9 rfl (by simpa using hcell1) | exact pn_val hseg | exact pn_all hseg | exact pn_kids hseg | exact pn_kids (node_self _ _ _ _))) (fun w hw => hw) ?_
  refine JR_vy (i := 10) rfl rfl rfl (by kernel_rfl) (by kernel_rfl) rfl (by kernel_rfl) (by kernel_rfl) (panic_Then panic_body) (by decide) (vo_load rfl (by first | exact .frz ‹_› | exact .own (by repeat (first | exact .head _ | refine .tail _ ?_))) (by first | exact .cell Try.underlying3 rfl rfl | exact .cell Try.underlying9 rfl (by simpa using hcell1) | exact pn_val hseg | exact pn_all hseg | exact pn_kids hseg | exact pn_kids (node_self _ _ _ _))) (fun w hw => hw) ?_
  refine JR_vy (i := 11) rfl rfl rfl (by kernel_rfl) (by kernel_rfl) rfl (by kernel_rfl) (by kernel_rfl) (panic_Then panic_body) (by decide) (vo_indexAddr rfl rfl Try.underlying71 sz9 (by omega) (by omega)) (fun w hw => hw) ?_
  refine JR_vy (i := 12) rfl rfl rfl (by kernel_rfl) (by kernel_rfl) rfl (by kernel_rfl) (by kernel_rfl) (panic_Then panic_body) (by decide) (vo_load rfl (by first | exact .frz ‹_› | exact .own (by repeat (first | exact .head _ | refine .tail _ ?_))) (by first | exact .cell Try.underlying9 rfl rfl | exact .cell Try.underlying9 rfl (by simpa using hcell1) | exact pn_val hseg | exact pn_all hseg | exact pn_kids hseg | exact pn_kids (node_self _ _ _ _))) (fun w hw => hw) ?_
  refine JR_vy (i := 13) rfl rfl rfl (by kernel_rfl) (by kernel_rfl) rfl (by kernel_rfl) (by kernel_rfl) (panic_Then panic_body) (by decide) (vo_scmp rfl rfl rfl) (fun w hw => hw) ?_
  refine JR_v (i := 14) rfl (by kernel_rfl) (by kernel_rfl) rfl (by kernel_rfl) (by kernel_rfl) (panic_Then panic_body) (by decide) (vo_pick rfl rfl) (fun w hw => hw) ?_
  refine JR_v (i := 15) rfl (by kernel_rfl) (by kernel_rfl) rfl (by kernel_rfl) (by kernel_rfl) (panic_Then panic_body) (by decide) (vo_move rfl) (fun w hw => hw) ?_
  refine JR_case 24 rfl (fun hg24 => ?_) (fun hg24 => absurd hg24 (by simp [beq_refl]))
  refine JR_vy (i := 16) rfl rfl rfl (by kernel_rfl) (by kernel_rfl) rfl (by kernel_rfl) (by kernel_rfl) (panic_Then panic_body) (by decide) (vo_move rfl) (fun w hw => hw) ?_
  refine JR_vy (i := 17) rfl rfl rfl (by kernel_rfl) (by kernel_rfl) rfl (by kernel_rfl) (by kernel_rfl) (panic_Then panic_body) (by decide) (vo_eqNil rfl rfl Try.underlying55 rfl) (fun w hw => hw) ?_
  refine JR_v (i := 18) rfl (by kernel_rfl) (by kernel_rfl) rfl (by kernel_rfl) (by kernel_rfl) (panic_Then panic_body) (by decide) (vo_pick rfl rfl) (fun w hw => hw) ?_
  refine JR_v (i := 19) rfl (by kernel_rfl) (by kernel_rfl) rfl (by kernel_rfl) (by kernel_rfl) (panic_Then panic_body) (by decide) (vo_move rfl) (fun w hw => hw) ?_
  refine JR_case 28 rfl (fun hg28 => ?_) (fun hg28 => absurd hg28 (by simp))
  refine JR_vy (i := 20) rfl rfl rfl (by kernel_rfl) (by kernel_rfl) rfl (by kernel_rfl) (by kernel_rfl) (panic_Then panic_body) (by decide) (vo_move rfl) (fun w hw => hw) ?_
  refine JR_vy (i := 22) rfl rfl rfl (by kernel_rfl) (by kernel_rfl) rfl (by kernel_rfl) (by kernel_rfl) (panic_Then panic_body) (by decide) (vo_fieldAddr rfl fo30_3) (fun w hw => hw) ?_
  refine JR_vy (i := 23) rfl rfl rfl (by kernel_rfl) (by kernel_rfl) rfl (by kernel_rfl) (by kernel_rfl) (panic_Then panic_body) (by decide) (vo_load rfl (by first | exact .frz ‹_› | exact .own (by repeat (first | exact .head _ | refine .tail _ ?_))) (by first | exact .cell Try.underlying28 rfl rfl | exact .cell Try.underlying9 rfl (by simpa using hcell1) | exact pn_val hseg | exact pn_all hseg | exact pn_kids hseg | exact pn_kids (node_self _ _ _ _))) (fun w hw => hw) ?_
  refine JR_vy (i := 24) rfl rfl rfl (by kernel_rfl) (by kernel_rfl) rfl (by kernel_rfl) (by kernel_rfl) (panic_Then panic_body) (by decide) (vo_load rfl (by first | exact .frz ‹_› | exact .own (by repeat (first | exact .head _ | refine .tail _ ?_))) (by first | exact .cell Try.underlying3 rfl rfl | exact .cell Try.underlying9 rfl (by simpa using hcell1) | exact pn_val hseg | exact pn_all hseg | exact pn_kids hseg | exact pn_kids (node_self _ _ _ _))) (fun w hw => hw) ?_
  refine JR_vy (i := 25) rfl rfl rfl (by kernel_rfl) (by kernel_rfl) rfl (by kernel_rfl) (by kernel_rfl) (panic_Then panic_body) (by decide) (vo_indexAddr rfl rfl Try.underlying28 sz30 (by omega) (by omega)) (fun w hw => hw) ?_
  refine JR_vy (i := 26) rfl rfl rfl (by kernel_rfl) (by kernel_rfl) rfl (by kernel_rfl) (by kernel_rfl) (panic_Then panic_body) (by decide) (vo_fieldAddr rfl fo30_1) (fun w hw => hw) ?_
  refine JR_vy (i := 27) rfl rfl rfl (by kernel_rfl) (by kernel_rfl) rfl (by kernel_rfl) (by kernel_rfl) (panic_Then panic_body) (by decide) (vo_load rfl (by first | exact .frz ‹_› | exact .own (by repeat (first | exact .head _ | refine .tail _ ?_))) (by first | exact PartAt.whole Try.underlying24 rfl sz24 | exact .cell Try.underlying9 rfl (by simpa using hcell1) | exact pn_val hseg | exact pn_all hseg | exact pn_kids hseg | exact pn_kids (node_self _ _ _ _))) (fun w hw => hw) ?_
  refine JR_split [21] (by kernel_rfl) rfl (all1 ?_)
  refine JK_scall rfl ⟨28, rfl, rfl⟩ rfl en28 (by decide) (fun w hw => value_spec (trOf nk) b w (hT.ext hw.ext_all)) (fun w hw => hw) ?_
  rintro _ rfl
  refine JR_vy (i := 28) rfl rfl rfl (by kernel_rfl) (by kernel_rfl) rfl (by kernel_rfl) (by kernel_rfl) (panic_Then panic_body) (by decide) (vo_eqS rfl rfl rfl eg24 (eqv24 _ _)) (fun w hw => hw) ?_
  refine JR_v (i := 29) rfl (by kernel_rfl) (by kernel_rfl) rfl (by kernel_rfl) (by kernel_rfl) (panic_Then panic_body) (by decide) (vo_pick rfl rfl) (fun w hw => hw) ?_
  refine JR_store rfl (by kernel_rfl) (by kernel_rfl) rfl rfl rfl sz4 (by first | exact one_of_all rfl | assumption) (by repeat (first | exact .head _ _ _ | apply Turn.tail)) (by exact Nat.le_of_ble_eq_true rfl) (by rfl) ?_
  refine JX_then ?_
  refine JC_seq ?_
  refine JC_region ?_
  refine JL_v (vo_load rfl (by first | exact .frz ‹_› | exact .own (by repeat (first | exact .head _ | refine .tail _ ?_))) (by first | exact .cell Try.underlying3 rfl rfl | exact .cell Try.underlying9 rfl (by simpa using hcell1) | exact pn_val hseg | exact pn_all hseg | exact pn_kids hseg | exact pn_kids (node_self _ _ _ _))) nofun (by decide) ?_
  refine JL_v (vo_add rfl rfl (by omega) (by omega)) nofun (by decide) ?_
  refine st_store rfl rfl sz3 (by first | exact one_of_all rfl | assumption) (by repeat (first | exact .head _ _ _ | apply Turn.tail)) (by exact Nat.le_of_ble_eq_true rfl) (by rfl) ?_
  refine JL_nil ?_
  refine JX_then ?_
  refine JC_seq ?_
  refine JC_region ?_
  refine JL_v (vo_load rfl (by first | exact .frz ‹_› | exact .own (by repeat (first | exact .head _ | refine .tail _ ?_))) (by first | exact .cell Try.underlying4 rfl rfl | exact .cell Try.underlying9 rfl (by simpa using hcell1) | exact pn_val hseg | exact pn_all hseg | exact pn_kids hseg | exact pn_kids (node_self _ _ _ _))) nofun (by decide) ?_
  refine JL_v (vo_assign rfl) nofun (by decide) ?_
  refine JL_nil ?_
  refine JX_then ?_
  refine JC_ret ?_
  refine ret1 rfl rfl ?_
  intro w1 hM
  refine MC_end hM ⟨?_, ?_⟩
  · simp [trOf_val, valEq_refl]
    first | done | rfl
  · simp [H2, trOf_val, valEq_refl]
    exact ⟨rfl, rfl⟩
set_option maxRecDepth 8000 in
set_option maxHeartbeats 1000000 in
theorem takes25 (T : Tr) (b c : Nat) (want : List RSpot) (wv : Value) (hwant : want.map (fun x => (x.path, x.val)) = allT T ⟨#[]⟩) (hlen : (allT T ⟨#[]⟩).length ≤ 100000000) (hxs : ∀ (j : Nat) (p : ByteArray) (v : Val), (allT T ⟨#[]⟩)[j]? = some (p, v) → p.size ≤ 4611686018427387000) (bseq bok bw bi : Nat) (Zf : Nat → Prop) (wf : World) (hfs0 : FB Zf wf bseq (.cells #[.func (.func 79) #[] #[.pointer (some ⟨c, 0, none⟩)]] 67 (0, 0))) (hfw0 : FB Zf wf bw (.cells #[wv] 69 (0, 0))) (hrw : RItems Zf wf 40 spotC want wv) (hT : RTree Zf wf T b) (hfc : FB Zf wf c (.cells #[ptrV b] 55 (0, 0))) : TakesPV 25 #[.pointer (some ⟨bseq, 0, none⟩), .pointer (some ⟨bok, 0, none⟩), .pointer (some ⟨bw, 0, none⟩), .pointer (some ⟨bi, 0, none⟩)] (allT T ⟨#[]⟩) (fun _ => true) (H2 bok bi) Zf wf := by
  obtain ⟨Aw, cw, rfl, hlw⟩ := hrw.slice
  intro i p v L w hx hH hL hE
  have hM0 := startL2 hL hH
  have hfs := hE.fb _ _ hfs0
  have hrw1 := hrw.ext hE
  have hwl : want.length = (allT T ⟨#[]⟩).length := by rw [← hwant, List.length_map]
  have hil := (List.getElem?_eq_some_iff.1 hx).1
  obtain ⟨y, hy, hyp⟩ : ∃ y, want[i]? = some y ∧ (y.path, y.val) = (p, v) := by
    rw [← hwant, List.getElem?_map] at hx
    exact Option.map_eq_some_iff.1 hx
  obtain ⟨yp, yv, ym⟩ := y
  simp only [Prod.mk.injEq] at hyp
  obtain ⟨rfl, rfl⟩ := hyp
  refine enter (N := 59) Try.func25 rfl Try.ntmps25 (Nat.le_of_ble_eq_true rfl) [(0, .string yp), (1, .agg (valC yv).toArray), (2, .pointer (some ⟨bseq, 0, none⟩)), (3, .pointer (some ⟨bok, 0, none⟩)), (4, .pointer (some ⟨bw, 0, none⟩)), (5, .pointer (some ⟨bi, 0, none⟩))] (by repeat (first | exact trivial | refine ⟨rfl, ?_⟩)) (hM0) ?_
  refine JC_seq ?_
  refine JC_region ?_
  refine st_box rfl (by decide) (fun b7 => ?_)
  refine JL_v (vo_assign rfl) nofun (by decide) ?_
  refine JL_nil ?_
  refine JX_then ?_
  refine JC_seq ?_
  refine JC_region ?_
  refine JL_v (vo_load rfl (by first | exact .frz ‹_› | exact .own (by repeat (first | exact .head _ | refine .tail _ ?_))) (by first | exact .cell Try.underlying67 rfl rfl | exact .cell Try.underlying9 rfl (hsegw 0 _ rfl) | exact .seg (l := valC yv) (hsegw.sub 1 (fun j u hu => by rw [spotC, Nat.add_comm, List.getElem?_cons_succ, List.getElem?_append_left (List.getElem?_eq_some_iff.1 hu).1]; exact hu)) Try.underlying24 rfl sz24)) nofun (by decide) ?_
  refine st_pcall rfl en23 (by decide) (fun w hw => spots_spec T b c 0 hlen hxs w hw.zlt' ((hT.ext hE).ext hw.extZ) ((hE.trans hw.extZ).fb _ _ hfc)) (fun v1 Z' wz' he hR => ?_)
  obtain ⟨vs, rfl, hRs⟩ := hR
  rw [show taken 0 (allT T ⟨#[]⟩).length = (allT T ⟨#[]⟩).length from rfl, List.take_length] at hRs
  have hE' := hE.trans he
  have hfw := hE'.fb _ _ hfw0
  have hrw2 := hrw.ext hE'
  obtain ⟨b2, o2, c2, cs2, te2, fr2, hv2, hfb2, hsegw⟩ := hrw2.at_ hy
  cases hv2
  obtain ⟨As, cs, rfl, hls⟩ := hRs.slice
  refine JL_v (vo_move rfl) nofun (by decide) ?_
  refine JL_v (vo_extract rfl rfl) nofun (by decide) ?_
  refine JL_v (vo_extract rfl rfl) nofun (by decide) ?_
  refine JL_v (vo_assign rfl) nofun (by decide) ?_
  refine JL_v (vo_assign rfl) nofun (by decide) ?_
  refine JL_nil ?_
  refine JX_then ?_
  refine JC_seq ?_
  refine JC_drawM 40 (by kernel_rfl) (fun w hw => Mem.drew hw) ?_
  refine JR_v (i := 0) rfl (by kernel_rfl) (by kernel_rfl) rfl (by kernel_rfl) (by kernel_rfl) (panic_Then panic_body) (by decide) (vo_load rfl (by first | exact .frz ‹_› | exact .own (by repeat (first | exact .head _ | refine .tail _ ?_))) (by first | exact .cell Try.underlying4 rfl rfl | exact .cell Try.underlying9 rfl (hsegw 0 _ rfl) | exact .seg (l := valC yv) (hsegw.sub 1 (fun j u hu => by rw [spotC, Nat.add_comm, List.getElem?_cons_succ, List.getElem?_append_left (List.getElem?_eq_some_iff.1 hu).1]; exact hu)) Try.underlying24 rfl sz24)) (fun w hw => hw) ?_
  refine JR_v (i := 1) rfl (by kernel_rfl) (by kernel_rfl) rfl (by kernel_rfl) (by kernel_rfl) (panic_Then panic_body) (by decide) (vo_move rfl) (fun w hw => hw) ?_
  refine JR_case 17 rfl (fun hg17 => ?_) (fun hg17 => absurd hg17 (by simp))
  refine JR_vy (i := 2) rfl rfl rfl (by kernel_rfl) (by kernel_rfl) rfl (by kernel_rfl) (by kernel_rfl) (panic_Then panic_body) (by decide) (vo_move rfl) (fun w hw => hw) ?_
  refine JR_v (i := 3) rfl (by kernel_rfl) (by kernel_rfl) rfl (by kernel_rfl) (by kernel_rfl) (panic_Then panic_body) (by decide) (vo_pick rfl rfl) (fun w hw => hw) ?_
  refine JR_v (i := 4) rfl (by kernel_rfl) (by kernel_rfl) rfl (by kernel_rfl) (by kernel_rfl) (panic_Then panic_body) (by decide) (vo_move rfl) (fun w hw => hw) ?_
  refine JR_case 20 rfl (fun hg20 => ?_) (fun hg20 => absurd hg20 (by simp))
  refine JR_vy (i := 5) rfl rfl rfl (by kernel_rfl) (by kernel_rfl) rfl (by kernel_rfl) (by kernel_rfl) (panic_Then panic_body) (by decide) (vo_move rfl) (fun w hw => hw) ?_
  refine JR_vy (i := 6) rfl rfl rfl (by kernel_rfl) (by kernel_rfl) rfl (by kernel_rfl) (by kernel_rfl) (panic_Then panic_body) (by decide) (vo_len rfl Try.underlying73) (fun w hw => hw) ?_
  refine JR_vy (i := 7) rfl rfl rfl (by kernel_rfl) (by kernel_rfl) rfl (by kernel_rfl) (by kernel_rfl) (panic_Then panic_body) (by decide) (vo_load rfl (by first | exact .frz ‹_› | exact .own (by repeat (first | exact .head _ | refine .tail _ ?_))) (by first | exact .cell Try.underlying69 rfl rfl | exact .cell Try.underlying9 rfl (hsegw 0 _ rfl) | exact .seg (l := valC yv) (hsegw.sub 1 (fun j u hu => by rw [spotC, Nat.add_comm, List.getElem?_cons_succ, List.getElem?_append_left (List.getElem?_eq_some_iff.1 hu).1]; exact hu)) Try.underlying24 rfl sz24)) (fun w hw => hw) ?_
  refine JR_vy (i := 8) rfl rfl rfl (by kernel_rfl) (by kernel_rfl) rfl (by kernel_rfl) (by kernel_rfl) (panic_Then panic_body) (by decide) (vo_len rfl Try.underlying69) (fun w hw => hw) ?_
  refine JR_vy (i := 9) rfl rfl rfl (by kernel_rfl) (by kernel_rfl) rfl (by kernel_rfl) (by kernel_rfl) (panic_Then panic_body) (by decide) (vo_cmp rfl rfl rfl) (fun w hw => hw) ?_
  refine JR_v (i := 10) rfl (by kernel_rfl) (by kernel_rfl) rfl (by kernel_rfl) (by kernel_rfl) (panic_Then panic_body) (by decide) (vo_pick rfl rfl) (fun w hw => hw) ?_
  refine JR_v (i := 11) rfl (by kernel_rfl) (by kernel_rfl) rfl (by kernel_rfl) (by kernel_rfl) (panic_Then panic_body) (by decide) (vo_move rfl) (fun w hw => hw) ?_
  refine JR_case 27 rfl (fun hg27 => ?_) (fun hg27 => absurd hg27 (by simp [hwl]))
  refine JR_vy (i := 12) rfl rfl rfl (by kernel_rfl) (by kernel_rfl) rfl (by kernel_rfl) (by kernel_rfl) (panic_Then panic_body) (by decide) (vo_move rfl) (fun w hw => hw) ?_
  refine JR_vy (i := 13) rfl rfl rfl (by kernel_rfl) (by kernel_rfl) rfl (by kernel_rfl) (by kernel_rfl) (panic_Then panic_body) (by decide) (vo_load rfl (by first | exact .frz ‹_› | exact .own (by repeat (first | exact .head _ | refine .tail _ ?_))) (by first | exact .cell Try.underlying69 rfl rfl | exact .cell Try.underlying9 rfl (hsegw 0 _ rfl) | exact .seg (l := valC yv) (hsegw.sub 1 (fun j u hu => by rw [spotC, Nat.add_comm, List.getElem?_cons_succ, List.getElem?_append_left (List.getElem?_eq_some_iff.1 hu).1]; exact hu)) Try.underlying24 rfl sz24)) (fun w hw => hw) ?_
  refine JR_split [14] (by kernel_rfl) rfl (all1 ?_)
  refine JK_scall rfl ⟨27, rfl, rfl⟩ rfl en24 (by decide) (fun w hw => same_spec (allT T ⟨#[]⟩) want (by omega) (fun j x y hj hk => by rw [← hwant, List.getElem?_map, hk] at hj; cases hj; exact ⟨rfl, rfl⟩) _ _ w (hRs.ext hw.ext_all) (hrw2.ext hw.ext_all)) (fun w hw => hw) ?_
  rintro _ rfl
  refine JR_v (i := 15) rfl (by kernel_rfl) (by kernel_rfl) rfl (by kernel_rfl) (by kernel_rfl) (panic_Then panic_body) (by decide) (vo_pick rfl rfl) (fun w hw => hw) ?_
  refine JR_v (i := 16) rfl (by kernel_rfl) (by kernel_rfl) rfl (by kernel_rfl) (by kernel_rfl) (panic_Then panic_body) (by decide) (vo_move rfl) (fun w hw => hw) ?_
  refine JR_case 32 rfl (fun hg32 => ?_) (fun hg32 => absurd hg32 (by simp))
  refine JR_vy (i := 17) rfl rfl rfl (by kernel_rfl) (by kernel_rfl) rfl (by kernel_rfl) (by kernel_rfl) (panic_Then panic_body) (by decide) (vo_load rfl (by first | exact .frz ‹_› | exact .own (by repeat (first | exact .head _ | refine .tail _ ?_))) (by first | exact .cell Try.underlying3 rfl rfl | exact .cell Try.underlying9 rfl (hsegw 0 _ rfl) | exact .seg (l := valC yv) (hsegw.sub 1 (fun j u hu => by rw [spotC, Nat.add_comm, List.getElem?_cons_succ, List.getElem?_append_left (List.getElem?_eq_some_iff.1 hu).1]; exact hu)) Try.underlying24 rfl sz24)) (fun w hw => hw) ?_
  refine JR_vy (i := 18) rfl rfl rfl (by kernel_rfl) (by kernel_rfl) rfl (by kernel_rfl) (by kernel_rfl) (panic_Then panic_body) (by decide) (vo_load rfl (by first | exact .frz ‹_› | exact .own (by repeat (first | exact .head _ | refine .tail _ ?_))) (by first | exact .cell Try.underlying69 rfl rfl | exact .cell Try.underlying9 rfl (hsegw 0 _ rfl) | exact .seg (l := valC yv) (hsegw.sub 1 (fun j u hu => by rw [spotC, Nat.add_comm, List.getElem?_cons_succ, List.getElem?_append_left (List.getElem?_eq_some_iff.1 hu).1]; exact hu)) Try.underlying24 rfl sz24)) (fun w hw => hw) ?_
  refine JR_vy (i := 19) rfl rfl rfl (by kernel_rfl) (by kernel_rfl) rfl (by kernel_rfl) (by kernel_rfl) (panic_Then panic_body) (by decide) (vo_len rfl Try.underlying69) (fun w hw => hw) ?_
  refine JR_vy (i := 20) rfl rfl rfl (by kernel_rfl) (by kernel_rfl) rfl (by kernel_rfl) (by kernel_rfl) (panic_Then panic_body) (by decide) (vo_cmp rfl rfl rfl) (fun w hw => hw) ?_
  refine JR_v (i := 21) rfl (by kernel_rfl) (by kernel_rfl) rfl (by kernel_rfl) (by kernel_rfl) (panic_Then panic_body) (by decide) (vo_pick rfl rfl) (fun w hw => hw) ?_
  refine JR_v (i := 22) rfl (by kernel_rfl) (by kernel_rfl) rfl (by kernel_rfl) (by kernel_rfl) (panic_Then panic_body) (by decide) (vo_move rfl) (fun w hw => hw) ?_
  refine JR_case 38 rfl (fun hg38 => ?_) (fun hg38 => absurd hg38 (by simp; omega))
  refine JR_vy (i := 23) rfl rfl rfl (by kernel_rfl) (by kernel_rfl) rfl (by kernel_rfl) (by kernel_rfl) (panic_Then panic_body) (by decide) (vo_load rfl (by first | exact .frz ‹_› | exact .own (by repeat (first | exact .head _ | refine .tail _ ?_))) (by first | exact .cell Try.underlying69 rfl rfl | exact .cell Try.underlying9 rfl (hsegw 0 _ rfl) | exact .seg (l := valC yv) (hsegw.sub 1 (fun j u hu => by rw [spotC, Nat.add_comm, List.getElem?_cons_succ, List.getElem?_append_left (List.getElem?_eq_some_iff.1 hu).1]; exact hu)) Try.underlying24 rfl sz24)) (fun w hw => hw) ?_
  refine JR_vy (i := 24) rfl rfl rfl (by kernel_rfl) (by kernel_rfl) rfl (by kernel_rfl) (by kernel_rfl) (panic_Then panic_body) (by decide) (vo_load rfl (by first | exact .frz ‹_› | exact .own (by repeat (first | exact .head _ | refine .tail _ ?_))) (by first | exact .cell Try.underlying3 rfl rfl | exact .cell Try.underlying9 rfl (hsegw 0 _ rfl) | exact .seg (l := valC yv) (hsegw.sub 1 (fun j u hu => by rw [spotC, Nat.add_comm, List.getElem?_cons_succ, List.getElem?_append_left (List.getElem?_eq_some_iff.1 hu).1]; exact hu)) Try.underlying24 rfl sz24)) (fun w hw => hw) ?_
  refine JR_vy (i := 25) rfl rfl rfl (by kernel_rfl) (by kernel_rfl) rfl (by kernel_rfl) (by kernel_rfl) (panic_Then panic_body) (by decide) (vo_indexAddr rfl rfl Try.underlying69 sz78 (by omega) (by omega)) (fun w hw => hw) ?_
  refine JR_vy (i := 26) rfl rfl rfl (by kernel_rfl) (by kernel_rfl) rfl (by kernel_rfl) (by kernel_rfl) (panic_Then panic_body) (by decide) (vo_fieldAddr rfl fo78_0) (fun w hw => hw) ?_
  refine JR_vy (i := 27) rfl rfl rfl (by kernel_rfl) (by kernel_rfl) rfl (by kernel_rfl) (by kernel_rfl) (panic_Then panic_body) (by decide) (vo_load rfl (by first | exact .frz ‹_› | exact .own (by repeat (first | exact .head _ | refine .tail _ ?_))) (by first | exact .cell Try.underlying9 rfl rfl | exact .cell Try.underlying9 rfl (hsegw 0 _ rfl) | exact .seg (l := valC yv) (hsegw.sub 1 (fun j u hu => by rw [spotC, Nat.add_comm, List.getElem?_cons_succ, List.getElem?_append_left (List.getElem?_eq_some_iff.1 hu).1]; exact hu)) Try.underlying24 rfl sz24)) (fun w hw => hw) ?_
  refine JR_vy (i := 28) rfl rfl rfl (by kernel_rfl) (by kernel_rfl) rfl (by kernel_rfl) (by kernel_rfl) (panic_Then panic_body) (by decide) (vo_move rfl) (fun w hw => hw) ?_
  refine JR_vy (i := 29) rfl rfl rfl (by kernel_rfl) (by kernel_rfl) rfl (by kernel_rfl) (by kernel_rfl) (panic_Then panic_body) (by decide) (vo_scmp rfl rfl rfl) (fun w hw => hw) ?_
  refine JR_v (i := 30) rfl (by kernel_rfl) (by kernel_rfl) rfl (by kernel_rfl) (by kernel_rfl) (panic_Then panic_body) (by decide) (vo_pick rfl rfl) (fun w hw => hw) ?_
  refine JR_v (i := 31) rfl (by kernel_rfl) (by kernel_rfl) rfl (by kernel_rfl) (by kernel_rfl) (panic_Then panic_body) (by decide) (vo_move rfl) (fun w hw => hw) ?_
  refine JR_case 47 rfl (fun hg47 => ?_) (fun hg47 => absurd hg47 (by simp [beq_refl]))
  refine JR_vy (i := 32) rfl rfl rfl (by kernel_rfl) (by kernel_rfl) rfl (by kernel_rfl) (by kernel_rfl) (panic_Then panic_body) (by decide) (vo_load rfl (by first | exact .frz ‹_› | exact .own (by repeat (first | exact .head _ | refine .tail _ ?_))) (by first | exact .cell Try.underlying69 rfl rfl | exact .cell Try.underlying9 rfl (hsegw 0 _ rfl) | exact .seg (l := valC yv) (hsegw.sub 1 (fun j u hu => by rw [spotC, Nat.add_comm, List.getElem?_cons_succ, List.getElem?_append_left (List.getElem?_eq_some_iff.1 hu).1]; exact hu)) Try.underlying24 rfl sz24)) (fun w hw => hw) ?_
  refine JR_vy (i := 33) rfl rfl rfl (by kernel_rfl) (by kernel_rfl) rfl (by kernel_rfl) (by kernel_rfl) (panic_Then panic_body) (by decide) (vo_load rfl (by first | exact .frz ‹_› | exact .own (by repeat (first | exact .head _ | refine .tail _ ?_))) (by first | exact .cell Try.underlying3 rfl rfl | exact .cell Try.underlying9 rfl (hsegw 0 _ rfl) | exact .seg (l := valC yv) (hsegw.sub 1 (fun j u hu => by rw [spotC, Nat.add_comm, List.getElem?_cons_succ, List.getElem?_append_left (List.getElem?_eq_some_iff.1 hu).1]; exact hu)) Try.underlying24 rfl sz24)) (fun w hw => hw) ?_
  refine JR_vy (i := 34) rfl rfl rfl (by kernel_rfl) (by kernel_rfl) rfl (by kernel_rfl) (by kernel_rfl) (panic_Then panic_body) (by decide) (vo_indexAddr rfl rfl Try.underlying69 sz78 (by omega) (by omega)) (fun w hw => hw) ?_
  refine JR_vy (i := 35) rfl rfl rfl (by kernel_rfl) (by kernel_rfl) rfl (by kernel_rfl) (by kernel_rfl) (panic_Then panic_body) (by decide) (vo_fieldAddr rfl fo78_1) (fun w hw => hw) ?_
  refine JR_vy (i := 36) rfl rfl rfl (by kernel_rfl) (by kernel_rfl) rfl (by kernel_rfl) (by kernel_rfl) (panic_Then panic_body) (by decide) (vo_load rfl (by first | exact .frz ‹_› | exact .own (by repeat (first | exact .head _ | refine .tail _ ?_))) (by first | exact PartAt.whole Try.underlying24 rfl sz24 | exact .cell Try.underlying9 rfl (hsegw 0 _ rfl) | exact .seg (l := valC yv) (hsegw.sub 1 (fun j u hu => by rw [spotC, Nat.add_comm, List.getElem?_cons_succ, List.getElem?_append_left (List.getElem?_eq_some_iff.1 hu).1]; exact hu)) Try.underlying24 rfl sz24)) (fun w hw => hw) ?_
  refine JR_vy (i := 37) rfl rfl rfl (by kernel_rfl) (by kernel_rfl) rfl (by kernel_rfl) (by kernel_rfl) (panic_Then panic_body) (by decide) (vo_load rfl (by first | exact .frz ‹_› | exact .own (by repeat (first | exact .head _ | refine .tail _ ?_))) (by first | exact PartAt.whole Try.underlying24 rfl sz24 | exact .cell Try.underlying9 rfl (hsegw 0 _ rfl) | exact .seg (l := valC yv) (hsegw.sub 1 (fun j u hu => by rw [spotC, Nat.add_comm, List.getElem?_cons_succ, List.getElem?_append_left (List.getElem?_eq_some_iff.1 hu).1]; exact hu)) Try.underlying24 rfl sz24)) (fun w hw => hw) ?_
  refine JR_vy (i := 38) rfl rfl rfl (by kernel_rfl) (by kernel_rfl) rfl (by kernel_rfl) (by kernel_rfl) (panic_Then panic_body) (by decide) (vo_eqS rfl rfl rfl eg24 (eqv24 _ _)) (fun w hw => hw) ?_
  refine JR_v (i := 39) rfl (by kernel_rfl) (by kernel_rfl) rfl (by kernel_rfl) (by kernel_rfl) (panic_Then panic_body) (by decide) (vo_pick rfl rfl) (fun w hw => hw) ?_
  refine JR_store rfl (by kernel_rfl) (by kernel_rfl) rfl rfl rfl sz4 (by first | exact one_of_all rfl | assumption) (by repeat (first | exact .head _ _ _ | apply Turn.tail)) (by exact Nat.le_of_ble_eq_true rfl) (by rfl) ?_
  refine JX_then ?_
  refine JC_seq ?_
  refine JC_region ?_
  refine JL_v (vo_load rfl (by first | exact .frz ‹_› | exact .own (by repeat (first | exact .head _ | refine .tail _ ?_))) (by first | exact .cell Try.underlying3 rfl rfl | exact .cell Try.underlying9 rfl (hsegw 0 _ rfl) | exact .seg (l := valC yv) (hsegw.sub 1 (fun j u hu => by rw [spotC, Nat.add_comm, List.getElem?_cons_succ, List.getElem?_append_left (List.getElem?_eq_some_iff.1 hu).1]; exact hu)) Try.underlying24 rfl sz24)) nofun (by decide) ?_
  refine JL_v (vo_add rfl rfl (by omega) (by omega)) nofun (by decide) ?_
  refine st_store rfl rfl sz3 (by first | exact one_of_all rfl | assumption) (by repeat (first | exact .head _ _ _ | apply Turn.tail)) (by exact Nat.le_of_ble_eq_true rfl) (by rfl) ?_
  refine JL_nil ?_
  refine JX_then ?_
  refine JC_seq ?_
  refine JC_region ?_
  refine JL_v (vo_load rfl (by first | exact .frz ‹_› | exact .own (by repeat (first | exact .head _ | refine .tail _ ?_))) (by first | exact .cell Try.underlying4 rfl rfl | exact .cell Try.underlying9 rfl (hsegw 0 _ rfl) | exact .seg (l := valC yv) (hsegw.sub 1 (fun j u hu => by rw [spotC, Nat.add_comm, List.getElem?_cons_succ, List.getElem?_append_left (List.getElem?_eq_some_iff.1 hu).1]; exact hu)) Try.underlying24 rfl sz24)) nofun (by decide) ?_
  refine JL_v (vo_assign rfl) nofun (by decide) ?_
  refine JL_nil ?_
  refine JX_then ?_
  refine JC_ret ?_
  refine ret1 rfl rfl ?_
  intro w1 hM
  refine MC_end (hM.sub (.cons _ (List.Sublist.refl _))) ⟨?_, ?_⟩
  · simp [valEq_refl]
    first | done | rfl
  · simp [H2, valEq_refl]
    exact ⟨rfl, rfl⟩

end Go.Eng

set_option linter.unusedVariables false
set_option linter.unusedSimpArgs false
namespace Go.Eng
open Go Go.RowKit Go.Proofs
theorem en29 : Enters Try.prog 29 := ⟨_, Try.func29, by kernel_rfl, by kernel_rfl⟩
theorem zr3 : (Try.prog.info? 3).bind (·.zero) = some (.int .i64 0) := by kernel_rfl

theorem en78 : Enters Try.prog 78 := ⟨_, Try.func78, by kernel_rfl, by kernel_rfl⟩
theorem en27 : Enters Try.prog 27 := ⟨_, Try.func27, by kernel_rfl, by kernel_rfl⟩
theorem trOf_mk (nd : Nd) : trOf nd = .mk nd.val nd.marks (namesOf nd.kids) (trsOf nd.kids) := by cases nd; simp [trOf, Nd.val, Nd.marks, Nd.kids]

set_option maxRecDepth 8000 in
set_option maxHeartbeats 1000000 in
theorem takes26 (nd : Nd) (hok : ∀ x ∈ nd.kids, NdOK x) (hcnt : (trOf nd).count ≤ 1000000000000) (hrc : ∀ x ∈ nd.kids, rcount x = (trOf x).count) (b0 c0 : Nat) (bn bs bok bd bi : Nat) (nv kv : Value) (Zf : Nat → Prop) (wf : World) (hfbn0 : FB Zf wf bn (.cells #[nv] 71 (0, 0))) (hfbs0 : FB Zf wf bs (.cells #[.func (.func 78) #[] #[.pointer (some ⟨c0, 0, none⟩)]] 64 (0, 0))) (hfbd0 : FB Zf wf bd (.cells (ndC nd kv).toArray 30 (0, 0))) (hfc0 : FB Zf wf c0 (.cells #[ptrV b0] 55 (0, 0))) (hT0 : RTree Zf wf (trOf nd) b0) (hn : RVals Zf wf ((namesOf nd.kids).map strV) nv) (hr : RNds Zf wf nd.kids kv) : TakesNK 26 #[.pointer (some ⟨bn, 0, none⟩), .pointer (some ⟨bs, 0, none⟩), .pointer (some ⟨bok, 0, none⟩), .pointer (some ⟨bd, 0, none⟩), .pointer (some ⟨bi, 0, none⟩)] (namesOf nd.kids) (trsOf nd.kids) (fun _ => true) (H2 bok bi) Zf wf := by
  obtain ⟨A, c, rfl, hn9⟩ := hn.slice
  obtain ⟨Ak, ck, rfl, hlk⟩ := hr.slice
  simp only [List.length_map] at hn9
  have hm1 : ((namesOf nd.kids).map strV).length = (namesOf nd.kids).length := List.length_map _
  have hm2 : (namesOf nd.kids).length = nd.kids.length := by rw [namesOf_eq, List.length_map]
  intro i n k b L w hni hki hH hL hE hT
  have hM0 := startL2 hL hH
  have hfbn := hE.fb _ _ hfbn0
  have hfbd := hE.fb _ _ hfbd0
  have hn' := hn.ext hE
  have hr' := hr.ext hE
  have hil := (List.getElem?_eq_some_iff.1 hni).1
  obtain ⟨nk, hnk, rfl⟩ : ∃ nk, nd.kids[i]? = some nk ∧ trOf nk = k := by
    rw [trsOf_eq, List.getElem?_map] at hki
    exact Option.map_eq_some_iff.1 hki
  obtain ⟨b1, o1, c1, cs1, te1, fr1, hv1, hfb1, hcell1⟩ := hn'.at_ (i := i) (u := strV n) (by simp [hni])
  cases hv1
  obtain ⟨b2, o2, c2, cs2, te2, fr2, kk, hv2, hfb2, hseg, hkk⟩ := hr'.at_ hnk
  cases hv2
  obtain ⟨Akk, ckk, rfl, hlkk⟩ := hkk.slice
  have hnn : n = nk.name := by
    rw [namesOf_eq, List.getElem?_map, hnk] at hni
    simpa using hni.symm
  have hil2 : i < nd.kids.length := by omega
  have hfbs := hE.fb _ _ hfbs0
  have hokk := hok nk (List.mem_of_getElem? hnk)
  have hrck := hrc nk (List.mem_of_getElem? hnk)
  have hcnk : (trOf nk).count ≤ 1000000000000 := by
    have := cntL_mem (k := trOf nk) (ks := trsOf nd.kids) (List.mem_of_getElem? hki)
    rw [trOf_mk, Tr.count] at hcnt; omega
  have htl : (trsOf nd.kids).length = nd.kids.length := by rw [trsOf_eq, List.length_map]
  refine enter (N := 68) Try.func26 rfl Try.ntmps26 (Nat.le_of_ble_eq_true rfl) [(0, .string n), (1, ptrV b), (2, .pointer (some ⟨bn, 0, none⟩)), (3, .pointer (some ⟨bs, 0, none⟩)), (4, .pointer (some ⟨bok, 0, none⟩)), (5, .pointer (some ⟨bd, 0, none⟩)), (6, .pointer (some ⟨bi, 0, none⟩))] (by repeat (first | exact trivial | refine ⟨rfl, ?_⟩)) (hM0) ?_
  refine JC_seq ?_
  refine JC_region ?_
  refine JL_v (vo_assign rfl) nofun (by decide) ?_
  refine JL_nil ?_
  refine JX_then ?_
  refine JC_seq ?_
  refine JC_region ?_
  refine st_alloc zr3 (by decide) (fun b10 => ?_)
  refine st_store rfl rfl sz3 (by first | exact one_of_all rfl | assumption) (by repeat (first | exact .head _ _ _ | apply Turn.tail)) (by exact Nat.le_of_ble_eq_true rfl) (by rfl) ?_
  refine JL_nil ?_
  refine JX_then ?_
  refine JC_seq ?_
  refine JC_seq ?_
  refine JC_region ?_
  refine JL_v (vo_load rfl (by first | exact .frz ‹_› | exact .own (by repeat (first | exact .head _ | refine .tail _ ?_))) (by first | exact .cell Try.underlying71 rfl rfl | exact .cell Try.underlying9 rfl (by simpa using hcell1) | exact pn_val hseg | exact pn_all hseg | exact pn_kids hseg | exact pn_kids (node_self _ _ _ _))) nofun (by decide) ?_
  refine JL_v (vo_len rfl Try.underlying71) nofun (by decide) ?_
  refine JL_v (vo_cmp rfl rfl rfl) nofun (by decide) ?_
  refine JL_nil ?_
  refine JX_then ?_
  refine JC_join (α := { c : Bool // c = true }) (fun _ => []) (fun y => Mem w (EL L) (ZL L w) (ZL L w) w [.blk bi (.cells #[.int .i64 i] 3 (0, 0)), .blk bok (.cells #[.bool y.1] 4 (0, 0))]) ?_ (fun y => ?_)
  · refine JC_cond _ rfl (fun hc13 => ?_) (fun hc13 => ?_)
    · refine JC_seq ?_
      refine JC_region ?_
      refine JL_v (vo_load rfl (by first | exact .frz ‹_› | exact .own (by repeat (first | exact .head _ | refine .tail _ ?_))) (by first | exact .cell Try.underlying64 rfl rfl | exact .cell Try.underlying9 rfl (by simpa using hcell1) | exact pn_val hseg | exact pn_all hseg | exact pn_kids hseg | exact pn_kids (node_self _ _ _ _))) nofun (by decide) ?_
      refine JL_v (vo_makeFunc rfl rfl) nofun (by decide) ?_
      refine JL_perm (.cons _ (.swap _ _ _)) ?_
      refine st_mcallF [_, _] [_] rfl rfl rfl en78 (by decide) (fun w1 hw => kidseq_spec 27 en27 #[.pointer (some ⟨bok, 0, none⟩), .pointer (some ⟨b10, 0, none⟩), .pointer (some ⟨bn, 0, none⟩), .pointer (some ⟨bd, 0, none⟩)] nd.val nd.marks (namesOf nd.kids) (trsOf nd.kids) b0 c0 (fun _ => true) (H2 bok b10) Zf wf (takes27 nd bok b10 bn bd _ _ Zf wf hfbn0 hfbd0 hn hr) _ w1 rfl hw.holds (hE.trans hw.ext_ZL) (by rw [← trOf_mk]; exact (hT0.ext hE).ext hw.ext_ZL) ((hE.trans hw.ext_ZL).fb _ _ hfc0)) ?_
      rintro _ L' ⟨rfl, hL'⟩
      rw [feed_true (feed_iff.2 (fun _ _ => rfl)), Nat.zero_add] at hL'
      unfold H2 at hL'
      subst hL'
      refine JL_nil ?_
      refine JX_then ?_
      refine JC_region ?_
      refine JL_v (vo_load rfl (by first | exact .frz ‹_› | exact .own (by repeat (first | exact .head _ | refine .tail _ ?_))) (by first | exact .cell Try.underlying4 rfl rfl | exact .cell Try.underlying9 rfl (by simpa using hcell1) | exact pn_val hseg | exact pn_all hseg | exact pn_kids hseg | exact pn_kids (node_self _ _ _ _))) nofun (by decide) ?_
      refine JL_v (vo_move rfl) nofun (by decide) ?_
      refine JL_case 18 rfl (fun hg18 => ?_) (fun hg18 => absurd hg18 (by decide))
      refine JL_yes rfl rfl ?_
      refine JL_v (vo_load rfl (by first | exact .frz ‹_› | exact .own (by repeat (first | exact .head _ | refine .tail _ ?_))) (by first | exact .cell Try.underlying3 rfl rfl | exact .cell Try.underlying9 rfl (by simpa using hcell1) | exact pn_val hseg | exact pn_all hseg | exact pn_kids hseg | exact pn_kids (node_self _ _ _ _))) nofun (by decide) ?_
      refine JL_yes rfl rfl ?_
      refine JL_v (vo_load rfl (by first | exact .frz ‹_› | exact .own (by repeat (first | exact .head _ | refine .tail _ ?_))) (by first | exact .cell Try.underlying71 rfl rfl | exact .cell Try.underlying9 rfl (by simpa using hcell1) | exact pn_val hseg | exact pn_all hseg | exact pn_kids hseg | exact pn_kids (node_self _ _ _ _))) nofun (by decide) ?_
      refine JL_yes rfl rfl ?_
      refine JL_v (vo_len rfl Try.underlying71) nofun (by decide) ?_
      refine JL_yes rfl rfl ?_
      refine JL_v (vo_cmp rfl rfl rfl) nofun (by decide) ?_
      refine JL_v (vo_pick rfl rfl) nofun (by decide) ?_
      refine st_store rfl rfl sz4 (by first | exact one_of_all rfl | assumption) (by repeat (first | exact .head _ _ _ | apply Turn.tail)) (by exact Nat.le_of_ble_eq_true rfl) (by rfl) ?_
      refine JL_nil ?_
      refine JX_join ⟨_, ?_⟩ (by repeat (first | exact trivial | refine ⟨rfl, ?_⟩ | refine ⟨trivial, ?_⟩)) (fun w hw => (hw.sub (.cons _ (List.Sublist.refl _))).perm (.swap _ _ _))
      simp [htl, hm2]
    · refine JC_skip ?_
      refine JX_join ⟨true, rfl⟩ (by repeat (first | exact trivial | refine ⟨rfl, ?_⟩ | refine ⟨trivial, ?_⟩)) (fun w hw => hw.sub (.cons _ (List.Sublist.refl _)))
  · obtain ⟨_, rfl⟩ := y
    refine JX_then ?_
    refine JC_seq ?_
    refine JC_drawM 41 (by kernel_rfl) (fun w hw => Mem.drew hw) ?_
    refine JR_v (i := 0) rfl (by kernel_rfl) (by kernel_rfl) rfl (by kernel_rfl) (by kernel_rfl) (panic_Then panic_body) (by decide) (vo_load rfl (by first | exact .frz ‹_› | exact .own (by repeat (first | exact .head _ | refine .tail _ ?_))) (by first | exact .cell Try.underlying4 rfl rfl | exact .cell Try.underlying9 rfl (by simpa using hcell1) | exact pn_val hseg | exact pn_all hseg | exact pn_kids hseg | exact pn_kids (node_self _ _ _ _))) (fun w hw => hw) ?_
    refine JR_v (i := 1) rfl (by kernel_rfl) (by kernel_rfl) rfl (by kernel_rfl) (by kernel_rfl) (panic_Then panic_body) (by decide) (vo_move rfl) (fun w hw => hw) ?_
    refine JR_case 25 rfl (fun hg25 => ?_) (fun hg25 => absurd hg25 (by simp))
    refine JR_vy (i := 2) rfl rfl rfl (by kernel_rfl) (by kernel_rfl) rfl (by kernel_rfl) (by kernel_rfl) (panic_Then panic_body) (by decide) (vo_load rfl (by first | exact .frz ‹_› | exact .own (by repeat (first | exact .head _ | refine .tail _ ?_))) (by first | exact .cell Try.underlying3 rfl rfl | exact .cell Try.underlying9 rfl (by simpa using hcell1) | exact pn_val hseg | exact pn_all hseg | exact pn_kids hseg | exact pn_kids (node_self _ _ _ _))) (fun w hw => hw) ?_
    refine JR_vy (i := 3) rfl rfl rfl (by kernel_rfl) (by kernel_rfl) rfl (by kernel_rfl) (by kernel_rfl) (panic_Then panic_body) (by decide) (vo_load rfl (by first | exact .frz ‹_› | exact .own (by repeat (first | exact .head _ | refine .tail _ ?_))) (by first | exact .cell Try.underlying71 rfl rfl | exact .cell Try.underlying9 rfl (by simpa using hcell1) | exact pn_val hseg | exact pn_all hseg | exact pn_kids hseg | exact pn_kids (node_self _ _ _ _))) (fun w hw => hw) ?_
    refine JR_vy (i := 4) rfl rfl rfl (by kernel_rfl) (by kernel_rfl) rfl (by kernel_rfl) (by kernel_rfl) (panic_Then panic_body) (by decide) (vo_len rfl Try.underlying71) (fun w hw => hw) ?_
    refine JR_vy (i := 5) rfl rfl rfl (by kernel_rfl) (by kernel_rfl) rfl (by kernel_rfl) (by kernel_rfl) (panic_Then panic_body) (by decide) (vo_cmp rfl rfl rfl) (fun w hw => hw) ?_
    refine JR_v (i := 6) rfl (by kernel_rfl) (by kernel_rfl) rfl (by kernel_rfl) (by kernel_rfl) (panic_Then panic_body) (by decide) (vo_pick rfl rfl) (fun w hw => hw) ?_
    refine JR_v (i := 7) rfl (by kernel_rfl) (by kernel_rfl) rfl (by kernel_rfl) (by kernel_rfl) (panic_Then panic_body) (by decide) (vo_move rfl) (fun w hw => hw) ?_
    refine JR_case 31 rfl (fun hg31 => ?_) (fun hg31 => absurd hg31 (by simp; omega))
    refine JR_vy (i := 8) rfl rfl rfl (by kernel_rfl) (by kernel_rfl) rfl (by kernel_rfl) (by kernel_rfl) (panic_Then panic_body) (by decide) (vo_move rfl) (fun w hw => hw) ?_
    refine JR_vy (i := 9) rfl rfl rfl (by kernel_rfl) (by kernel_rfl) rfl (by kernel_rfl) (by kernel_rfl) (panic_Then panic_body) (by decide) (vo_load rfl (by first | exact .frz ‹_› | exact .own (by repeat (first | exact .head _ | refine .tail _ ?_))) (by first | exact .cell Try.underlying71 rfl rfl | exact .cell Try.underlying9 rfl (by simpa using hcell1) | exact pn_val hseg | exact pn_all hseg | exact pn_kids hseg | exact pn_kids (node_self _ _ _ _))) (fun w hw => hw) ?_
    refine JR_vy (i := 10) rfl rfl rfl (by kernel_rfl) (by kernel_rfl) rfl (by kernel_rfl) (by kernel_rfl) (panic_Then panic_body) (by decide) (vo_load rfl (by first | exact .frz ‹_› | exact .own (by repeat (first | exact .head _ | refine .tail _ ?_))) (by first | exact .cell Try.underlying3 rfl rfl | exact .cell Try.underlying9 rfl (by simpa using hcell1) | exact pn_val hseg | exact pn_all hseg | exact pn_kids hseg | exact pn_kids (node_self _ _ _ _))) (fun w hw => hw) ?_
    refine JR_vy (i := 11) rfl rfl rfl (by kernel_rfl) (by kernel_rfl) rfl (by kernel_rfl) (by kernel_rfl) (panic_Then panic_body) (by decide) (vo_indexAddr rfl rfl Try.underlying71 sz9 (by omega) (by omega)) (fun w hw => hw) ?_
    refine JR_vy (i := 12) rfl rfl rfl (by kernel_rfl) (by kernel_rfl) rfl (by kernel_rfl) (by kernel_rfl) (panic_Then panic_body) (by decide) (vo_load rfl (by first | exact .frz ‹_› | exact .own (by repeat (first | exact .head _ | refine .tail _ ?_))) (by first | exact .cell Try.underlying9 rfl rfl | exact .cell Try.underlying9 rfl (by simpa using hcell1) | exact pn_val hseg | exact pn_all hseg | exact pn_kids hseg | exact pn_kids (node_self _ _ _ _))) (fun w hw => hw) ?_
    refine JR_vy (i := 13) rfl rfl rfl (by kernel_rfl) (by kernel_rfl) rfl (by kernel_rfl) (by kernel_rfl) (panic_Then panic_body) (by decide) (vo_scmp rfl rfl rfl) (fun w hw => hw) ?_
    refine JR_v (i := 14) rfl (by kernel_rfl) (by kernel_rfl) rfl (by kernel_rfl) (by kernel_rfl) (panic_Then panic_body) (by decide) (vo_pick rfl rfl) (fun w hw => hw) ?_
    refine JR_v (i := 15) rfl (by kernel_rfl) (by kernel_rfl) rfl (by kernel_rfl) (by kernel_rfl) (panic_Then panic_body) (by decide) (vo_move rfl) (fun w hw => hw) ?_
    refine JR_case 39 rfl (fun hg39 => ?_) (fun hg39 => absurd hg39 (by simp [beq_refl]))
    refine JR_vy (i := 16) rfl rfl rfl (by kernel_rfl) (by kernel_rfl) rfl (by kernel_rfl) (by kernel_rfl) (panic_Then panic_body) (by decide) (vo_move rfl) (fun w hw => hw) ?_
    refine JR_vy (i := 17) rfl rfl rfl (by kernel_rfl) (by kernel_rfl) rfl (by kernel_rfl) (by kernel_rfl) (panic_Then panic_body) (by decide) (vo_eqNil rfl rfl Try.underlying55 rfl) (fun w hw => hw) ?_
    refine JR_v (i := 18) rfl (by kernel_rfl) (by kernel_rfl) rfl (by kernel_rfl) (by kernel_rfl) (panic_Then panic_body) (by decide) (vo_pick rfl rfl) (fun w hw => hw) ?_
    refine JR_v (i := 19) rfl (by kernel_rfl) (by kernel_rfl) rfl (by kernel_rfl) (by kernel_rfl) (panic_Then panic_body) (by decide) (vo_move rfl) (fun w hw => hw) ?_
    refine JR_case 43 rfl (fun hg43 => ?_) (fun hg43 => absurd hg43 (by simp))
    refine JR_vy (i := 20) rfl rfl rfl (by kernel_rfl) (by kernel_rfl) rfl (by kernel_rfl) (by kernel_rfl) (panic_Then panic_body) (by decide) (vo_move rfl) (fun w hw => hw) ?_
    refine JR_vy (i := 22) rfl rfl rfl (by kernel_rfl) (by kernel_rfl) rfl (by kernel_rfl) (by kernel_rfl) (panic_Then panic_body) (by decide) (vo_fieldAddr rfl fo30_3) (fun w hw => hw) ?_
    refine JR_vy (i := 23) rfl rfl rfl (by kernel_rfl) (by kernel_rfl) rfl (by kernel_rfl) (by kernel_rfl) (panic_Then panic_body) (by decide) (vo_load rfl (by first | exact .frz ‹_› | exact .own (by repeat (first | exact .head _ | refine .tail _ ?_))) (by first | exact .cell Try.underlying28 rfl rfl | exact .cell Try.underlying9 rfl (by simpa using hcell1) | exact pn_val hseg | exact pn_all hseg | exact pn_kids hseg | exact pn_kids (node_self _ _ _ _))) (fun w hw => hw) ?_
    refine JR_vy (i := 24) rfl rfl rfl (by kernel_rfl) (by kernel_rfl) rfl (by kernel_rfl) (by kernel_rfl) (panic_Then panic_body) (by decide) (vo_load rfl (by first | exact .frz ‹_› | exact .own (by repeat (first | exact .head _ | refine .tail _ ?_))) (by first | exact .cell Try.underlying3 rfl rfl | exact .cell Try.underlying9 rfl (by simpa using hcell1) | exact pn_val hseg | exact pn_all hseg | exact pn_kids hseg | exact pn_kids (node_self _ _ _ _))) (fun w hw => hw) ?_
    refine JR_vy (i := 25) rfl rfl rfl (by kernel_rfl) (by kernel_rfl) rfl (by kernel_rfl) (by kernel_rfl) (panic_Then panic_body) (by decide) (vo_indexAddr rfl rfl Try.underlying28 sz30 (by omega) (by omega)) (fun w hw => hw) ?_
    refine JR_vy (i := 26) rfl rfl rfl (by kernel_rfl) (by kernel_rfl) rfl (by kernel_rfl) (by kernel_rfl) (panic_Then panic_body) (by decide) (vo_fieldAddr rfl fo30_1) (fun w hw => hw) ?_
    refine JR_vy (i := 27) rfl rfl rfl (by kernel_rfl) (by kernel_rfl) rfl (by kernel_rfl) (by kernel_rfl) (panic_Then panic_body) (by decide) (vo_load rfl (by first | exact .frz ‹_› | exact .own (by repeat (first | exact .head _ | refine .tail _ ?_))) (by first | exact PartAt.whole Try.underlying24 rfl sz24 | exact .cell Try.underlying9 rfl (by simpa using hcell1) | exact pn_val hseg | exact pn_all hseg | exact pn_kids hseg | exact pn_kids (node_self _ _ _ _))) (fun w hw => hw) ?_
    refine JR_split [21] (by kernel_rfl) rfl (all1 ?_)
    refine JK_scall rfl ⟨43, rfl, rfl⟩ rfl en28 (by decide) (fun w hw => value_spec (trOf nk) b w (hT.ext hw.ext_all)) (fun w hw => hw) ?_
    rintro _ rfl
    refine JR_vy (i := 28) rfl rfl rfl (by kernel_rfl) (by kernel_rfl) rfl (by kernel_rfl) (by kernel_rfl) (panic_Then panic_body) (by decide) (vo_eqS rfl rfl rfl eg24 (eqv24 _ _)) (fun w hw => hw) ?_
    refine JR_v (i := 29) rfl (by kernel_rfl) (by kernel_rfl) rfl (by kernel_rfl) (by kernel_rfl) (panic_Then panic_body) (by decide) (vo_pick rfl rfl) (fun w hw => hw) ?_
    refine JR_v (i := 30) rfl (by kernel_rfl) (by kernel_rfl) rfl (by kernel_rfl) (by kernel_rfl) (panic_Then panic_body) (by decide) (vo_move rfl) (fun w hw => hw) ?_
    refine JR_case 54 rfl (fun hg54 => ?_) (fun hg54 => absurd hg54 (by simp [trOf_val, valEq_refl]))
    refine JR_vy (i := 31) rfl rfl rfl (by kernel_rfl) (by kernel_rfl) rfl (by kernel_rfl) (by kernel_rfl) (panic_Then panic_body) (by decide) (vo_move rfl) (fun w hw => hw) ?_
    refine JR_vy (i := 33) rfl rfl rfl (by kernel_rfl) (by kernel_rfl) rfl (by kernel_rfl) (by kernel_rfl) (panic_Then panic_body) (by decide) (vo_fieldAddr rfl fo30_3) (fun w hw => hw) ?_
    refine JR_vy (i := 34) rfl rfl rfl (by kernel_rfl) (by kernel_rfl) rfl (by kernel_rfl) (by kernel_rfl) (panic_Then panic_body) (by decide) (vo_load rfl (by first | exact .frz ‹_› | exact .own (by repeat (first | exact .head _ | refine .tail _ ?_))) (by first | exact .cell Try.underlying28 rfl rfl | exact .cell Try.underlying9 rfl (by simpa using hcell1) | exact pn_val hseg | exact pn_all hseg | exact pn_kids hseg | exact pn_kids (node_self _ _ _ _))) (fun w hw => hw) ?_
    refine JR_vy (i := 35) rfl rfl rfl (by kernel_rfl) (by kernel_rfl) rfl (by kernel_rfl) (by kernel_rfl) (panic_Then panic_body) (by decide) (vo_load rfl (by first | exact .frz ‹_› | exact .own (by repeat (first | exact .head _ | refine .tail _ ?_))) (by first | exact .cell Try.underlying3 rfl rfl | exact .cell Try.underlying9 rfl (by simpa using hcell1) | exact pn_val hseg | exact pn_all hseg | exact pn_kids hseg | exact pn_kids (node_self _ _ _ _))) (fun w hw => hw) ?_
    refine JR_vy (i := 36) rfl rfl rfl (by kernel_rfl) (by kernel_rfl) rfl (by kernel_rfl) (by kernel_rfl) (panic_Then panic_body) (by decide) (vo_indexAddr rfl rfl Try.underlying28 sz30 (by omega) (by omega)) (fun w hw => hw) ?_
    refine JR_vy (i := 37) rfl rfl rfl (by kernel_rfl) (by kernel_rfl) rfl (by kernel_rfl) (by kernel_rfl) (panic_Then panic_body) (by decide) (vo_load rfl (by first | exact .frz ‹_› | exact .own (by repeat (first | exact .head _ | refine .tail _ ?_))) (by first | exact PartAt.whole Try.underlying30 rfl sz30 | exact .cell Try.underlying9 rfl (by simpa using hcell1) | exact pn_val hseg | exact pn_all hseg | exact pn_kids hseg | exact pn_kids (node_self _ _ _ _))) (fun w hw => hw) ?_
    refine JR_split [32] (by kernel_rfl) rfl (all1 ?_)
    refine JK_scall rfl ⟨54, rfl, rfl⟩ rfl en29 (by decide) (fun w hw => count_spec (trOf nk) b w (hT.ext hw.ext_all)) (fun w hw => hw) ?_
    rintro _ rfl
    refine JR_split [38] (by kernel_rfl) rfl (all1 ?_)
    refine JK_scall rfl ⟨54, rfl, rfl⟩ rfl en30 (by decide) (fun w hw => rcount_spec nk hokk _ w hcnk (hkk.ext hw.ext_all)) (fun w hw => hw) ?_
    rintro _ rfl
    refine JR_vy (i := 39) rfl rfl rfl (by kernel_rfl) (by kernel_rfl) rfl (by kernel_rfl) (by kernel_rfl) (panic_Then panic_body) (by decide) (vo_cmp rfl rfl rfl) (fun w hw => hw) ?_
    refine JR_v (i := 40) rfl (by kernel_rfl) (by kernel_rfl) rfl (by kernel_rfl) (by kernel_rfl) (panic_Then panic_body) (by decide) (vo_pick rfl rfl) (fun w hw => hw) ?_
    refine JR_store rfl (by kernel_rfl) (by kernel_rfl) rfl rfl rfl sz4 (by first | exact one_of_all rfl | assumption) (by repeat (first | exact .head _ _ _ | apply Turn.tail)) (by exact Nat.le_of_ble_eq_true rfl) (by rfl) ?_
    refine JX_then ?_
    refine JC_seq ?_
    refine JC_region ?_
    refine JL_v (vo_load rfl (by first | exact .frz ‹_› | exact .own (by repeat (first | exact .head _ | refine .tail _ ?_))) (by first | exact .cell Try.underlying3 rfl rfl | exact .cell Try.underlying9 rfl (by simpa using hcell1) | exact pn_val hseg | exact pn_all hseg | exact pn_kids hseg | exact pn_kids (node_self _ _ _ _))) nofun (by decide) ?_
    refine JL_v (vo_add rfl rfl (by omega) (by omega)) nofun (by decide) ?_
    refine st_store rfl rfl sz3 (by first | exact one_of_all rfl | assumption) (by repeat (first | exact .head _ _ _ | apply Turn.tail)) (by exact Nat.le_of_ble_eq_true rfl) (by rfl) ?_
    refine JL_nil ?_
    refine JX_then ?_
    refine JC_seq ?_
    refine JC_region ?_
    refine JL_v (vo_load rfl (by first | exact .frz ‹_› | exact .own (by repeat (first | exact .head _ | refine .tail _ ?_))) (by first | exact .cell Try.underlying4 rfl rfl | exact .cell Try.underlying9 rfl (by simpa using hcell1) | exact pn_val hseg | exact pn_all hseg | exact pn_kids hseg | exact pn_kids (node_self _ _ _ _))) nofun (by decide) ?_
    refine JL_v (vo_assign rfl) nofun (by decide) ?_
    refine JL_nil ?_
    refine JX_then ?_
    refine JC_ret ?_
    refine ret1 rfl rfl ?_
    intro w1 hM
    refine MC_end hM ⟨?_, ?_⟩
    · simp [hrck]
      first | done | rfl
    · simp [H2, hrck]
      exact ⟨rfl, rfl⟩

end Go.Eng
