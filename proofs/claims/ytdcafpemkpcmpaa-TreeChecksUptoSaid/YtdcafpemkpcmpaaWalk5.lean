/-
  Part of the proofs over this seat: D8 W12 W13 D9. Own work; imports the kit.
-/
import Derived.Test.YtdcafpemkpcmpaaWalk4
import Derived.Test.YtdcafpemkpcmpaaData1
set_option linter.unusedVariables false
set_option linter.unusedSimpArgs false
namespace Go.Eng
open Go Go.RowKit Go.Proofs
/-- a spot of the document's listing -/
structure RSpot where
  path : ByteArray
  val : Val
  marks : Mk2
def spotC (x : RSpot) : List Value := .string x.path :: (valC x.val ++ mk2C x.marks)
theorem spotC_length (x : RSpot) : (spotC x).length = 40 := rfl
mutual
def rall : Nd → ByteArray → List RSpot
  | .mk _ v m ks, p => ⟨p, v, m⟩ :: rallL ks p
def rallL : List Nd → ByteArray → List RSpot
  | [], _ => []
  | k :: ks, p => rall k (belowP p k.name) ++ rallL ks p
end
theorem rallL_append : ∀ (a b : List Nd) (p : ByteArray), rallL (a ++ b) p = rallL a p ++ rallL b p
  | [], b, p => by simp [rallL]
  | k :: a, b, p => by simp [rallL, rallL_append a b p]
theorem rall_mem_kid {ks : List Nd} {k : Nd} {p : ByteArray} (h : k ∈ ks) : ∀ x ∈ rall k (belowP p k.name), x ∈ rallL ks p := by
  induction ks with
  | nil => cases h
  | cons y ks ih =>
    intro x hx
    rw [rallL]
    rcases List.mem_cons.1 h with rfl | h
    · exact List.mem_append_left _ hx
    · exact List.mem_append_right _ (ih h x hx)
theorem rallL_len_take (ks : List Nd) (p : ByteArray) (i : Nat) : (rallL (ks.take i) p).length ≤ (rallL ks p).length := by
  conv => rhs; rw [← List.take_append_drop i ks, rallL_append, List.length_append]
  omega
theorem bl78 (p : ByteArray) (v : Val) (m : Mk2) : Try.prog.built 78 [(0, .string p), (1, .agg (valC v).toArray), (2, .agg (mk2C m).toArray)] = some (spotC ⟨p, v, m⟩).toArray := by kernel_rfl
theorem zr78 : (Try.prog.info? 78).bind (·.zero) = some (.agg (spotC ⟨⟨#[]⟩, zeroVal, zeroMk⟩).toArray) := by kernel_rfl
theorem ap78 : (Try.prog.info? 78).map (fun i => (i.zero, i.size, i.bytes)) = some (some (.agg (spotC ⟨⟨#[]⟩, zeroVal, zeroMk⟩).toArray), 40, 104) := by kernel_rfl
theorem zero78 : (Value.agg (spotC ⟨⟨#[]⟩, zeroVal, zeroMk⟩).toArray).cells.size = 40 := rfl
theorem spotC_one (x : RSpot) : ∀ u ∈ spotC x, u.oneCell' = true := List.all_eq_true.1 rfl
theorem flat_one {α : Type} {f : α → List Value} (hf : ∀ x, ∀ u ∈ f x, u.oneCell' = true) (l : List α) : ∀ u ∈ l.flatMap f, u.oneCell' = true := by
  intro u hu
  obtain ⟨x, _, hx⟩ := List.mem_flatMap.1 hu
  exact hf x u hx
/-- the run of 'all' over the kids -/
structure AllAt (v : Val) (m : Mk2) (ks : List Nd) (p : ByteArray) (Z0 : Nat → Prop) (w0 : World) where
  i : Nat
  Z : Nat → Prop
  wz : World
  vl : Value
  hi : i ≤ ks.length
  ext : Ext Z0 w0 Z wz
mutual
def rcount : Nd → Int
  | .mk _ v _ ks => if v.kind = 0 then 0 else 1 + rcountL ks
def rcountL : List Nd → Int
  | [] => 0
  | k :: ks => rcount k + rcountL ks
end
theorem rcountL_append : ∀ (a b : List Nd), rcountL (a ++ b) = rcountL a + rcountL b
  | [], b => by simp [rcountL]
  | k :: a, b => by simp only [List.cons_append, rcountL, rcountL_append a b]; omega
mutual
theorem rcount_le : ∀ nd : Nd, 0 ≤ rcount nd ∧ rcount nd ≤ (trOf nd).count
  | .mk _ v _ ks => by
    have := rcountL_le ks
    simp only [rcount, trOf, Tr.count]
    split <;> omega
theorem rcountL_le : ∀ ks : List Nd, 0 ≤ rcountL ks ∧ rcountL ks ≤ cntL (trsOf ks)
  | [] => by simp [rcountL, trsOf, cntL]
  | k :: ks => by
    have := rcount_le k
    have := rcountL_le ks
    simp only [rcountL, trsOf, cntL]; omega
end
end Go.Eng

set_option linter.unusedVariables false
set_option linter.unusedSimpArgs false
namespace Go.Eng
open Go Go.RowKit Go.Proofs
theorem en81 : Enters Try.prog 81 := ⟨_, Try.func81, by kernel_rfl, by kernel_rfl⟩
theorem sz78 : (Try.prog.info? 78).map (·.size) = some 40 := by kernel_rfl

set_option maxRecDepth 8000 in
set_option maxHeartbeats 1000000 in
theorem rall_of (nm : ByteArray) (v : Val) (m : Mk2) (ks : List Nd) (hlen : ks.length ≤ 1048576) (hks : ∀ nd ∈ ks, ∀ {Z : Nat → Prop} (p : ByteArray) (k : Value) (w : World), (∀ x ∈ rall nd p, x.path.size ≤ 4611686018427387000) → (rall nd p).length ≤ 100000000 → (∀ b, Z b → b < w.heap.size) → RNds Z w nd.kids k → PCalls Try.prog 81 #[.agg (ndC nd k).toArray, .string p] w Z (fun Z' w' u => RItems Z' w' 40 spotC (rall nd p) u)) : ∀ {Z : Nat → Prop} (p : ByteArray) (k : Value) (w : World), (∀ x ∈ rall (.mk nm v m ks) p, x.path.size ≤ 4611686018427387000) → (rall (.mk nm v m ks) p).length ≤ 100000000 → (∀ b, Z b → b < w.heap.size) → RNds Z w ks k → PCalls Try.prog 81 #[.agg (ndC (.mk nm v m ks) k).toArray, .string p] w Z (fun Z' w' u => RItems Z' w' 40 spotC (rall (.mk nm v m ks) p) u) := by
  intro Z p kv w hxs hcnt hz hr
  obtain ⟨A, c, rfl, hlen2⟩ := hr.slice
  refine enter (N := 44) Try.func81 rfl Try.ntmps81 (Nat.le_of_ble_eq_true rfl) [(0, .agg (ndC (.mk nm v m ks) (.slice A ks.length c)).toArray), (1, .string p)] (by repeat (first | exact trivial | refine ⟨rfl, ?_⟩)) (Mem.start w (fun _ => False) Z hz) ?_
  refine JC_seq ?_
  refine JC_region ?_
  refine st_box rfl (by decide) (fun b2 => ?_)
  refine JL_v (vo_assign rfl) nofun (by decide) ?_
  refine JL_nil ?_
  refine JX_then ?_
  refine JC_seq ?_
  refine JC_region ?_
  refine JL_v (vo_move rfl) nofun (by decide) ?_
  refine JL_v (vo_fieldAddr rfl fo30_1) nofun (by decide) ?_
  refine JL_v (vo_load rfl (by first | exact .frz ‹_› | exact .own (by repeat (first | exact .head _ | refine .tail _ ?_))) (by first | exact PartAt.whole Try.underlying24 rfl sz24 | exact pn_all ‹_› | exact pn_val (node_self _ _ _ _) | exact pn_marks (node_self _ _ _ _) | exact pn_name ‹_›)) nofun (by decide) ?_
  refine JL_v (vo_fieldAddr rfl fo30_2) nofun (by decide) ?_
  refine JL_v (vo_load rfl (by first | exact .frz ‹_› | exact .own (by repeat (first | exact .head _ | refine .tail _ ?_))) (by first | exact PartAt.whole Try.underlying27 rfl sz27 | exact pn_all ‹_› | exact pn_val (node_self _ _ _ _) | exact pn_marks (node_self _ _ _ _) | exact pn_name ‹_›)) nofun (by decide) ?_
  refine JL_v (vo_build rfl (by first | exact bl78 _ _ _)) nofun (by decide) ?_
  refine st_bslice1 rfl Try.underlying69 (by first | exact zr78) sz78 (by exact Nat.le_of_ble_eq_true rfl) (by exact Nat.ne_of_gt (Nat.le_of_ble_eq_true rfl)) (by decide) (fun b14 => ?_)
  refine JL_toRow 1 40 (by rfl) (by omega) ?_
  refine JL_v (vo_assign rfl) nofun (by decide) ?_
  refine JL_nil ?_
  refine JX_then ?_
  refine JC_seq ?_
  refine JC_seq ?_
  refine JC_region ?_
  refine JL_v (vo_assign rfl) nofun (by decide) ?_
  refine JL_nil ?_
  refine JX_then ?_
  refine JC_block ?_
  refine JC_loop (α := AllAt v m ks p Z w) (fun x => [(1, .string p), (2, .pointer (some ⟨b2, 0, none⟩)), (5, x.vl), (6, .int .i64 x.i)]) (fun x => Mem w (fun _ => False) Z x.Z x.wz [.row x.vl 78 40 (1 + (rallL (ks.take x.i) p).length) ((⟨p, v, m⟩ :: rallL (ks.take x.i) p).flatMap spotC), .blk b2 (.cells (ndC (.mk nm v m ks) (.slice A ks.length c)).toArray 30 (0, 0))]) (fun x => ks.length - x.i) ⟨0, Z, w, _, by omega, .refl _ _⟩ (by repeat (first | exact trivial | refine ⟨rfl, ?_⟩ | refine ⟨trivial, ?_⟩)) (fun w hw => by simpa [rallL, Value.cells, List.flatMap_cons, Nd.val, Nd.marks] using hw) ?_
  rintro x
  have hxle := x.hi
  refine JC_seq ?_
  refine JC_seq ?_
  refine JC_region ?_
  refine JL_v (vo_move rfl) nofun (by decide) ?_
  refine JL_v (vo_fieldAddr rfl fo30_3) nofun (by decide) ?_
  refine JL_v (vo_load rfl (by first | exact .frz ‹_› | exact .own (by repeat (first | exact .head _ | refine .tail _ ?_))) (by first | exact .cell Try.underlying28 rfl rfl | exact pn_all ‹_› | exact pn_val (node_self _ _ _ _) | exact pn_marks (node_self _ _ _ _) | exact pn_name ‹_›)) nofun (by decide) ?_
  refine JL_v (vo_len rfl Try.underlying28) nofun (by decide) ?_
  refine JL_v (vo_cmp rfl rfl rfl) nofun (by decide) ?_
  refine JL_nil ?_
  refine JX_then ?_
  refine JC_cond _ rfl (fun hc19 => ?_) (fun hc19 => ?_)
  · have hil : x.i < ks.length := by simp at hc19; omega
    obtain ⟨nk, hnk⟩ : ∃ nk, ks[x.i]? = some nk := ⟨_, List.getElem?_eq_getElem hil⟩
    obtain ⟨b', o', c', cs', te, fr, kk, hv, hfb0, hseg, hkk⟩ := hr.at_ hnk
    cases hv
    obtain ⟨Ak, ck, rfl, hlk⟩ := hkk.slice
    have hfb := x.ext.fb _ _ hfb0
    clear hfb0
    have hmem := List.mem_of_getElem? hnk
    have htk := take_snoc_get hnk
    have hsub := rall_mem_kid (p := p) hmem
    have hksz : ∀ y ∈ rall nk (belowP p nk.name), y.path.size ≤ 4611686018427387000 := fun y hy => hxs y (by rw [rall]; exact List.mem_cons_of_mem _ (hsub y hy))
    have hpsz : p.size ≤ 4611686018427387000 := hxs ⟨p, v, m⟩ (by rw [rall]; exact List.mem_cons_self)
    have hnsz : (belowP p nk.name).size ≤ 4611686018427387000 := by
      obtain ⟨n9, v9, m9, k9⟩ := nk
      exact hksz ⟨_, v9, m9⟩ (by rw [rall]; exact List.mem_cons_self)
    have hnsz2 : nk.name.size ≤ 4611686018427387000 := by
      have h9 := hnsz
      unfold belowP at h9
      split at h9
      · exact h9
      · simp only [ByteArray.size_append] at h9; omega
    have hlt : (rallL (ks.take (x.i + 1)) p).length = (rallL (ks.take x.i) p).length + (rall nk (belowP p nk.name)).length := by rw [htk, rallL_append]; simp [rallL]
    have hlt2 := rallL_len_take ks p (x.i + 1)
    have hlen3 : (rallL ks p).length + 1 ≤ 100000000 := by rw [rall] at hcnt; simpa using hcnt
    have hklen : (rall nk (belowP p nk.name)).length ≤ 100000000 := by omega
    refine JC_skip ?_
    refine JX_then ?_
    refine JC_seq ?_
    refine JC_block ?_
    refine JC_seq ?_
    refine JC_region ?_
    refine JL_v (vo_fieldAddr rfl fo30_3) nofun (by decide) ?_
    refine JL_v (vo_load rfl (by first | exact .frz ‹_› | exact .own (by repeat (first | exact .head _ | refine .tail _ ?_))) (by first | exact .cell Try.underlying28 rfl rfl | exact pn_all ‹_› | exact pn_val (node_self _ _ _ _) | exact pn_marks (node_self _ _ _ _) | exact pn_name ‹_›)) nofun (by decide) ?_
    refine JL_v (vo_move rfl) nofun (by decide) ?_
    refine JL_v (vo_indexAddr rfl rfl Try.underlying28 sz30 (by omega) (by omega)) nofun (by decide) ?_
    refine JL_v (vo_fieldAddr rfl fo30_0) nofun (by decide) ?_
    refine JL_v (vo_load rfl (by first | exact .frz ‹_› | exact .own (by repeat (first | exact .head _ | refine .tail _ ?_))) (by first | exact .cell Try.underlying9 rfl rfl | exact pn_all ‹_› | exact pn_val (node_self _ _ _ _) | exact pn_marks (node_self _ _ _ _) | exact pn_name ‹_›)) nofun (by decide) ?_
    refine JL_v (vo_assign rfl) nofun (by decide) ?_
    refine JL_nil ?_
    refine JX_then ?_
    refine JC_seq ?_
    refine JC_seq ?_
    refine JC_region ?_
    refine JL_v (vo_move rfl) nofun (by decide) ?_
    refine JL_v (vo_scmp rfl rfl rfl) nofun (by decide) ?_
    refine JL_nil ?_
    refine JX_then ?_
    refine JC_joinV [(7, .string (belowP p nk.name))] ?_ ?_
    · refine JC_cond _ rfl (fun hc29 => ?_) (fun hc29 => ?_)
      · refine JC_region ?_
        refine JL_v (vo_move rfl) nofun (by decide) ?_
        refine JL_v (vo_concat rfl rfl (by first | omega | (simp only [ByteArray.size_append, size47]; omega))) nofun (by decide) ?_
        refine JL_v (vo_move rfl) nofun (by decide) ?_
        refine JL_v (vo_concat rfl rfl (by first | omega | (simp only [ByteArray.size_append, size47]; omega))) nofun (by decide) ?_
        refine JL_v (vo_assign rfl) nofun (by decide) ?_
        refine JL_nil ?_
        refine JX_joinV [(7, _)] (by repeat (first | exact trivial | refine ⟨rfl, ?_⟩ | refine ⟨trivial, ?_⟩)) ?_
        simp_all [belowP]
      · refine JC_skip ?_
        refine JX_joinV [(7, _)] (by repeat (first | exact trivial | refine ⟨rfl, ?_⟩ | refine ⟨trivial, ?_⟩)) ?_
        simp_all [belowP]
    · refine JX_then ?_
      refine JC_region ?_
      refine JL_v (vo_move rfl) nofun (by decide) ?_
      refine JL_v (vo_fieldAddr rfl fo30_3) nofun (by decide) ?_
      refine JL_v (vo_load rfl (by first | exact .frz ‹_› | exact .own (by repeat (first | exact .head _ | refine .tail _ ?_))) (by first | exact .cell Try.underlying28 rfl rfl | exact pn_all ‹_› | exact pn_val (node_self _ _ _ _) | exact pn_marks (node_self _ _ _ _) | exact pn_name ‹_›)) nofun (by decide) ?_
      refine JL_v (vo_move rfl) nofun (by decide) ?_
      refine JL_v (vo_indexAddr rfl rfl Try.underlying28 sz30 (by omega) (by omega)) nofun (by decide) ?_
      refine JL_v (vo_load rfl (by first | exact .frz ‹_› | exact .own (by repeat (first | exact .head _ | refine .tail _ ?_))) (by first | exact PartAt.whole Try.underlying30 rfl sz30 | exact pn_all ‹_› | exact pn_val (node_self _ _ _ _) | exact pn_marks (node_self _ _ _ _) | exact pn_name ‹_›)) nofun (by decide) ?_
      refine JL_v (vo_move rfl) nofun (by decide) ?_
      refine st_pcall rfl en81 (by decide) (fun w hw => hks nk hmem (belowP p nk.name) _ w hksz hklen hw.zlt' ((hkk.ext x.ext).ext hw.extZ)) (fun v Z' wz' he hR => ?_)
      obtain ⟨b7, o7, c7, cs7, te7, fr7, rfl, hfb7, _⟩ := hR.at_ (i := 0) (x := (rall nk (belowP p nk.name)).head (by obtain ⟨_, _, _, _⟩ := nk; simp [rall])) (by obtain ⟨_, _, _, _⟩ := nk; simp [rall])
      have hflat : SegAt cs7 o7 ((rall nk (belowP p nk.name)).flatMap spotC) := by
        obtain ⟨A8, c8, h8, _, _, h9⟩ := hR
        rcases h9 with h9 | ⟨b9, o9, cs9, te9, fr9, h9, hf9, hc9⟩
        · obtain ⟨_, _, _, _⟩ := nk; simp [rall] at h9
        · subst h9; cases h8; have h10 := hf9.at_; rw [hfb7.at_] at h10; cases h10; exact RItems.flat (b := 0) spotC_length (by omega) hc9
      refine st_append (news := (rall nk (belowP p nk.name)).flatMap spotC) rfl rfl Try.underlying69 ap78 zero78 (by decide) (by repeat (first | exact .head _ | apply TurnF.tail)) (.frz hfb7) (flat_length spotC_length _) hflat (flat_one spotC_one _) (by omega) (by decide) (by decide) (fun v42 => ?_)
      refine JL_v (vo_assign rfl) nofun (by decide) ?_
      refine JL_nil ?_
      refine JX_block ?_
      refine JX_then ?_
      refine JC_region ?_
      refine JL_v (vo_move rfl) nofun (by decide) ?_
      refine JL_v (vo_add rfl rfl (by omega) (by omega)) nofun (by decide) ?_
      refine JL_v (vo_assign rfl) nofun (by decide) ?_
      refine JL_nil ?_
      refine JX_loop ⟨x.i + 1, Z', wz', v42, hil, x.ext.trans he⟩ (by show ks.length - (x.i + 1) < ks.length - x.i; omega) (by repeat (first | exact trivial | refine ⟨rfl, ?_⟩ | refine ⟨trivial, ?_⟩)) (fun w hw => ?_)
      have e1 : (⟨p, v, m⟩ :: rallL (ks.take (x.i + 1)) p : List RSpot).flatMap spotC = (⟨p, v, m⟩ :: rallL (ks.take x.i) p : List RSpot).flatMap spotC ++ (rall nk (belowP p nk.name)).flatMap spotC := by rw [htk, rallL_append]; simp [rallL]
      dsimp only
      rw [hlt, e1, ← Nat.add_assoc]
      exact hw
  · refine JC_exit ?_
    refine JX_then_exit ?_
    refine JX_thenK_exit ?_
    refine JX_block_exit ?_
    refine JX_then ?_
    refine JC_seq ?_
    refine JC_region ?_
    refine JL_v (vo_move rfl) nofun (by decide) ?_
    refine JL_v (vo_assign rfl) nofun (by decide) ?_
    refine JL_nil ?_
    refine JX_then ?_
    refine JC_ret ?_
    refine ret1 rfl rfl ?_
    intro w1 hM
    have hxi : x.i = ks.length := by simp at hc19; omega
    rw [hxi, List.take_length, show 1 + (rallL ks p).length = (⟨p, v, m⟩ :: rallL ks p : List RSpot).length by simp; omega] at hM
    obtain ⟨Z1, h1, h2, h3⟩ := hM.freezeItems spotC_length (.head _ _) (fun b hb => ((hM.sep _ (.head _) b hb).2).elim id (fun h => h.elim))
    exact ⟨_, rfl, h1.below, by rw [rall]; exact h3.ext h1.ext_end⟩
theorem rall_spec : ∀ nd, NdOK nd → (∀ {Z : Nat → Prop} (p : ByteArray) (k : Value) (w : World), (∀ x ∈ rall nd p, x.path.size ≤ 4611686018427387000) → (rall nd p).length ≤ 100000000 → (∀ b, Z b → b < w.heap.size) → RNds Z w nd.kids k → PCalls Try.prog 81 #[.agg (ndC nd k).toArray, .string p] w Z (fun Z' w' u => RItems Z' w' 40 spotC (rall nd p) u)) := by
  refine Nd.ind fun nm v m ks ih hok => ?_
  cases hok with
  | mk hn hl hk => exact rall_of nm v m ks hl (fun nd hm => ih nd hm (hk nd hm))


end Go.Eng

set_option linter.unusedVariables false
set_option linter.unusedSimpArgs false
namespace Go.Eng
open Go Go.RowKit Go.Proofs
theorem en30 : Enters Try.prog 30 := ⟨_, Try.func30, by kernel_rfl, by kernel_rfl⟩

set_option maxRecDepth 8000 in
set_option maxHeartbeats 1000000 in
theorem refall_spec {Z : Nat → Prop} (nd : Nd) (hok : NdOK nd) (k : Value) (hxs : ∀ x ∈ rall nd ⟨#[]⟩, x.path.size ≤ 4611686018427387000) (hcnt : (rall nd ⟨#[]⟩).length ≤ 100000000) (w : World) (hz : ∀ b, Z b → b < w.heap.size) (hr : RNds Z w nd.kids k) : PCalls Try.prog 21 #[.agg (ndC nd k).toArray] w Z (fun Z' w' u => RItems Z' w' 40 spotC (rall nd ⟨#[]⟩) u) := by
  obtain ⟨A, c, rfl, hlen2⟩ := hr.slice
  refine enter (N := 5) Try.func21 rfl Try.ntmps21 (Nat.le_of_ble_eq_true rfl) [(0, .agg (ndC nd (.slice A nd.kids.length c)).toArray)] (by repeat (first | exact trivial | refine ⟨rfl, ?_⟩)) (Mem.start w (fun _ => False) Z hz) ?_
  refine JC_seq ?_
  refine JC_region ?_
  refine st_box rfl (by decide) (fun b1 => ?_)
  refine JL_v (vo_assign rfl) nofun (by decide) ?_
  refine JL_nil ?_
  refine JX_then ?_
  refine JC_seq ?_
  refine JC_region ?_
  refine JL_v (vo_load rfl (by first | exact .frz ‹_› | exact .own (by repeat (first | exact .head _ | refine .tail _ ?_))) (by first | exact PartAt.whole Try.underlying30 rfl sz30 | exact pn_all ‹_› | exact pn_val (node_self _ _ _ _) | exact pn_marks (node_self _ _ _ _) | exact pn_name ‹_›)) nofun (by decide) ?_
  refine st_pcall rfl en81 (by decide) (fun w hw => rall_spec nd hok _ _ w hxs hcnt hw.zlt' (hr.ext hw.extZ)) (fun v Z' wz' he hR => ?_)
  skip
  refine JL_v (vo_assign rfl) nofun (by decide) ?_
  refine JL_nil ?_
  refine JX_then ?_
  refine JC_ret ?_
  refine ret1 rfl rfl ?_
  intro w1 hM; exact ⟨_, rfl, hM.below, hR.ext hM.ext_end⟩
set_option maxRecDepth 8000 in
set_option maxHeartbeats 1000000 in
theorem refnames_spec {Z : Nat → Prop} (nd : Nd) (hlen : nd.kids.length ≤ 1048576) (k : Value) (w : World) (hz : ∀ b, Z b → b < w.heap.size) (hr : RNds Z w nd.kids k) : PCalls Try.prog 22 #[.agg (ndC nd k).toArray] w Z (fun Z' w' u => RVals Z' w' ((namesOf nd.kids).map strV) u) := by
  obtain ⟨A, c, rfl, hlen2⟩ := hr.slice
  refine enter (N := 22) Try.func22 rfl Try.ntmps22 (Nat.le_of_ble_eq_true rfl) [(0, .agg (ndC nd (.slice A nd.kids.length c)).toArray)] (by repeat (first | exact trivial | refine ⟨rfl, ?_⟩)) (Mem.start w (fun _ => False) Z hz) ?_
  refine JC_seq ?_
  refine JC_region ?_
  refine st_box rfl (by decide) (fun b1 => ?_)
  refine JL_v (vo_assign rfl) nofun (by decide) ?_
  refine JL_nil ?_
  refine JX_then ?_
  refine JC_seq ?_
  refine JC_region ?_
  refine JL_v (vo_assign rfl) nofun (by decide) ?_
  refine JL_nil ?_
  refine JX_then ?_
  refine JC_seq ?_
  refine JC_seq ?_
  refine JC_region ?_
  refine JL_nilrow 9 1 ?_
  refine JL_v (vo_assign rfl) nofun (by decide) ?_
  refine JL_nil ?_
  refine JX_then ?_
  refine JC_block ?_
  refine JC_loop (α := { i : Nat × Value // i.1 ≤ nd.kids.length }) (fun x => [(1, .pointer (some ⟨b1, 0, none⟩)), (3, x.1.2), (4, .int .i64 x.1.1)]) (fun x => Mem w (fun _ => False) Z Z w [.row x.1.2 9 1 x.1.1 ((namesOf (nd.kids.take x.1.1)).map strV), .blk b1 (.cells (ndC nd (.slice A nd.kids.length c)).toArray 30 (0, 0))]) (fun x => nd.kids.length - x.1.1) ⟨(0, _), by omega⟩ (by repeat (first | exact trivial | refine ⟨rfl, ?_⟩ | refine ⟨trivial, ?_⟩)) (fun w hw => by simpa [namesOf, Value.cells] using hw) ?_
  rintro ⟨⟨i, vl⟩, hile⟩
  dsimp only at hile ⊢
  refine JC_seq ?_
  refine JC_seq ?_
  refine JC_region ?_
  refine JL_v (vo_move rfl) nofun (by decide) ?_
  refine JL_v (vo_fieldAddr rfl fo30_3) nofun (by decide) ?_
  refine JL_v (vo_load rfl (by first | exact .frz ‹_› | exact .own (by repeat (first | exact .head _ | refine .tail _ ?_))) (by first | exact .cell Try.underlying28 rfl rfl | exact pn_all ‹_› | exact pn_val (node_self _ _ _ _) | exact pn_marks (node_self _ _ _ _) | exact pn_name ‹_›)) nofun (by decide) ?_
  refine JL_v (vo_len rfl Try.underlying28) nofun (by decide) ?_
  refine JL_v (vo_cmp rfl rfl rfl) nofun (by decide) ?_
  refine JL_nil ?_
  refine JX_then ?_
  refine JC_cond _ rfl (fun hc9 => ?_) (fun hc9 => ?_)
  · have hil : i < nd.kids.length := by simp at hc9; omega
    obtain ⟨nk, hnk⟩ : ∃ nk, nd.kids[i]? = some nk := ⟨_, List.getElem?_eq_getElem hil⟩
    obtain ⟨b', o', c', cs', te, fr, kk, hv, hfb, hseg, hkk⟩ := hr.at_ hnk
    cases hv
    have e1 : namesOf (nd.kids.take (i + 1)) = namesOf (nd.kids.take i) ++ [nk.name] := by simp [namesOf_eq, take_snoc_get hnk]
    refine JC_skip ?_
    refine JX_then ?_
    refine JC_seq ?_
    refine JC_block ?_
    refine JC_region ?_
    refine JL_v (vo_move rfl) nofun (by decide) ?_
    refine JL_v (vo_fieldAddr rfl fo30_3) nofun (by decide) ?_
    refine JL_v (vo_load rfl (by first | exact .frz ‹_› | exact .own (by repeat (first | exact .head _ | refine .tail _ ?_))) (by first | exact .cell Try.underlying28 rfl rfl | exact pn_all ‹_› | exact pn_val (node_self _ _ _ _) | exact pn_marks (node_self _ _ _ _) | exact pn_name ‹_›)) nofun (by decide) ?_
    refine JL_v (vo_move rfl) nofun (by decide) ?_
    refine JL_v (vo_indexAddr rfl rfl Try.underlying28 sz30 (by omega) (by omega)) nofun (by decide) ?_
    refine JL_v (vo_fieldAddr rfl fo30_0) nofun (by decide) ?_
    refine JL_v (vo_load rfl (by first | exact .frz ‹_› | exact .own (by repeat (first | exact .head _ | refine .tail _ ?_))) (by first | exact .cell Try.underlying9 rfl rfl | exact pn_all ‹_› | exact pn_val (node_self _ _ _ _) | exact pn_marks (node_self _ _ _ _) | exact pn_name ‹_›)) nofun (by decide) ?_
    refine st_bslice1 rfl Try.underlying71 (by first | exact zr9) sz9 (by exact Nat.le_of_ble_eq_true rfl) (by exact Nat.ne_of_gt (Nat.le_of_ble_eq_true rfl)) (by decide) (fun b19 => ?_)
    refine st_appendB rfl rfl Try.underlying71 ap9 (by rfl) (by decide) (by first | exact .frz ‹_› | exact .own (by repeat (first | exact .head _ | refine .tail _ ?_))) (by repeat (first | exact .head _ | apply TurnF.tail)) (by rfl) (by first | exact one_of_all rfl | assumption) (by omega) (by decide) (by decide) (fun v20 => ?_)
    refine JL_v (vo_assign rfl) nofun (by decide) ?_
    refine JL_nil ?_
    refine JX_block ?_
    refine JX_then ?_
    refine JC_region ?_
    refine JL_v (vo_move rfl) nofun (by decide) ?_
    refine JL_v (vo_add rfl rfl (by omega) (by omega)) nofun (by decide) ?_
    refine JL_v (vo_assign rfl) nofun (by decide) ?_
    refine JL_nil ?_
    refine JX_loop ⟨(i + 1, v20), hil⟩ (by show nd.kids.length - (i + 1) < nd.kids.length - i; omega) (by repeat (first | exact trivial | refine ⟨rfl, ?_⟩ | refine ⟨trivial, ?_⟩)) (fun w hw => ?_)
    dsimp only
    rw [e1, List.map_append]
    exact hw.sub (.cons _ (List.Sublist.refl _))
  · refine JC_exit ?_
    refine JX_then_exit ?_
    refine JX_thenK_exit ?_
    refine JX_block_exit ?_
    refine JX_then ?_
    refine JC_seq ?_
    refine JC_region ?_
    refine JL_v (vo_move rfl) nofun (by decide) ?_
    refine JL_v (vo_assign rfl) nofun (by decide) ?_
    refine JL_nil ?_
    refine JX_then ?_
    refine JC_ret ?_
    refine ret1 rfl rfl ?_
    intro w1 hM
    have hxi : i = nd.kids.length := by simp at hc9; omega
    subst hxi
    rw [List.take_length] at hM
    obtain ⟨Z1, h1, h2, h3⟩ := hM.freezeRow (.head _ _)
    exact ⟨_, rfl, h1.below, h3.ext h1.ext_end⟩
set_option maxRecDepth 8000 in
set_option maxHeartbeats 1000000 in
theorem rcount_of (nm : ByteArray) (v : Val) (m : Mk2) (ks : List Nd) (hlen : ks.length ≤ 1048576) (hks : ∀ nd ∈ ks, ∀ (k : Value) (w : World), (trOf nd).count ≤ 1000000000000 → RNds (fun b => b < w.heap.size) w nd.kids k → SCalls Try.prog 30 #[.agg (ndC nd k).toArray] w (fun u => u = .int .i64 (rcount nd))) : ∀ (k : Value) (w : World), (trOf (.mk nm v m ks)).count ≤ 1000000000000 → RNds (fun b => b < w.heap.size) w ks k → SCalls Try.prog 30 #[.agg (ndC (.mk nm v m ks) k).toArray] w (fun u => u = .int .i64 (rcount (.mk nm v m ks))) := by
  intro kv w hcnt hr
  obtain ⟨A, c, rfl, hlen2⟩ := hr.slice
  have hk0 : (Nd.mk nm v m ks).val.kind = v.kind := rfl
  refine enter (N := 25) Try.func30 rfl Try.ntmps30 (Nat.le_of_ble_eq_true rfl) [(0, .agg (ndC (.mk nm v m ks) (.slice A ks.length c)).toArray)] (by repeat (first | exact trivial | refine ⟨rfl, ?_⟩)) (Mem.start w (fun _ => False) (fun b => b < w.heap.size) (fun _ h => h)) ?_
  refine JC_seq ?_
  refine JC_region ?_
  refine st_box rfl (by decide) (fun b1 => ?_)
  refine JL_v (vo_assign rfl) nofun (by decide) ?_
  refine JL_nil ?_
  refine JX_then ?_
  refine JC_seq ?_
  refine JC_seq ?_
  refine JC_region ?_
  refine JL_v (vo_fieldAddr rfl fo30_1) nofun (by decide) ?_
  refine JL_v (vo_fieldAddr rfl fo24_0) nofun (by decide) ?_
  refine JL_v (vo_load rfl (by first | exact .frz ‹_› | exact .own (by repeat (first | exact .head _ | refine .tail _ ?_))) (by first | exact .cell Try.underlying3 rfl rfl | exact pn_all ‹_› | exact pn_val (node_self _ _ _ _) | exact pn_marks (node_self _ _ _ _) | exact pn_name ‹_›)) nofun (by decide) ?_
  refine JL_v (vo_cmp rfl rfl rfl) nofun (by decide) ?_
  refine JL_nil ?_
  refine JX_then ?_
  refine JC_cond _ rfl (fun hc8 => ?_) (fun hc8 => ?_)
  · refine JC_seq ?_
    refine JC_region ?_
    refine JL_v (vo_assign rfl) nofun (by decide) ?_
    refine JL_nil ?_
    refine JX_then ?_
    refine JC_ret ?_
    refine JX_then_ret ?_
    refine ret1 rfl rfl ?_
    intro w1 hM; refine SC_end hM ?_; have : v.kind = 0 := (by simpa [Nd.val] using hc8); simp [rcount, this]
  · refine JC_skip ?_
    refine JX_then ?_
    refine JC_seq ?_
    refine JC_region ?_
    refine JL_v (vo_assign rfl) nofun (by decide) ?_
    refine JL_nil ?_
    refine JX_then ?_
    refine JC_seq ?_
    refine JC_seq ?_
    refine JC_region ?_
    refine JL_v (vo_assign rfl) nofun (by decide) ?_
    refine JL_nil ?_
    refine JX_then ?_
    refine JC_block ?_
    have hkn : v.kind ≠ 0 := by simpa [Nd.val] using hc8
    simp only [trOf, Tr.count] at hcnt
    refine JC_loop (α := { i : Nat // i ≤ ks.length }) (fun x => [(1, .pointer (some ⟨b1, 0, none⟩)), (3, .int .i64 (1 + rcountL (ks.take x.1))), (4, .int .i64 x.1)]) (fun x => Mem w (fun _ => False) (fun b => b < w.heap.size) (fun b => b < w.heap.size) w [.blk b1 (.cells (ndC (.mk nm v m ks) (.slice A ks.length c)).toArray 30 (0, 0))]) (fun x => ks.length - x.1) ⟨0, by omega⟩ (by simpa [rcountL] using (by repeat (first | exact trivial | refine ⟨rfl, ?_⟩ | refine ⟨trivial, ?_⟩))) (fun w hw => hw) ?_
    rintro ⟨i, hile⟩
    dsimp only
    refine JC_seq ?_
    refine JC_seq ?_
    refine JC_region ?_
    refine JL_v (vo_move rfl) nofun (by decide) ?_
    refine JL_v (vo_fieldAddr rfl fo30_3) nofun (by decide) ?_
    refine JL_v (vo_load rfl (by first | exact .frz ‹_› | exact .own (by repeat (first | exact .head _ | refine .tail _ ?_))) (by first | exact .cell Try.underlying28 rfl rfl | exact pn_all ‹_› | exact pn_val (node_self _ _ _ _) | exact pn_marks (node_self _ _ _ _) | exact pn_name ‹_›)) nofun (by decide) ?_
    refine JL_v (vo_len rfl Try.underlying28) nofun (by decide) ?_
    refine JL_v (vo_cmp rfl rfl rfl) nofun (by decide) ?_
    refine JL_nil ?_
    refine JX_then ?_
    refine JC_cond _ rfl (fun hc13 => ?_) (fun hc13 => ?_)
    · have hil : i < ks.length := by simp at hc13; omega
      obtain ⟨nk, hnk⟩ : ∃ nk, ks[i]? = some nk := ⟨_, List.getElem?_eq_getElem hil⟩
      obtain ⟨b', o', c', cs', te, fr, kk, hv, hfb, hseg, hkk⟩ := hr.at_ hnk
      cases hv
      have hmem := List.mem_of_getElem? hnk
      have htk := take_snoc_get hnk
      have hcnk : (trOf nk).count ≤ 1000000000000 := by
        have := cntL_mem (k := trOf nk) (ks := trsOf ks) (by rw [trsOf_eq]; exact List.mem_map_of_mem hmem)
        omega
      have hn1 := rcount_le nk
      have hn2 := rcountL_le (ks.take i)
      have hn3 : cntL (trsOf (ks.take i)) ≤ cntL (trsOf ks) := by
        have := cntL_take (trsOf ks) i
        rw [trsOf_eq, ← List.map_take, ← trsOf_eq] at this
        rwa [trsOf_eq ks]
      have hn4 : 1 + rcountL (ks.take i) + rcount nk = 1 + rcountL (ks.take (i + 1)) := by rw [htk, rcountL_append]; simp only [rcountL]; omega
      refine JC_skip ?_
      refine JX_then ?_
      refine JC_seq ?_
      refine JC_block ?_
      refine JC_region ?_
      refine JL_v (vo_move rfl) nofun (by decide) ?_
      refine JL_v (vo_fieldAddr rfl fo30_3) nofun (by decide) ?_
      refine JL_v (vo_load rfl (by first | exact .frz ‹_› | exact .own (by repeat (first | exact .head _ | refine .tail _ ?_))) (by first | exact .cell Try.underlying28 rfl rfl | exact pn_all ‹_› | exact pn_val (node_self _ _ _ _) | exact pn_marks (node_self _ _ _ _) | exact pn_name ‹_›)) nofun (by decide) ?_
      refine JL_v (vo_move rfl) nofun (by decide) ?_
      refine JL_v (vo_indexAddr rfl rfl Try.underlying28 sz30 (by omega) (by omega)) nofun (by decide) ?_
      refine JL_v (vo_load rfl (by first | exact .frz ‹_› | exact .own (by repeat (first | exact .head _ | refine .tail _ ?_))) (by first | exact PartAt.whole Try.underlying30 rfl sz30 | exact pn_all ‹_› | exact pn_val (node_self _ _ _ _) | exact pn_marks (node_self _ _ _ _) | exact pn_name ‹_›)) nofun (by decide) ?_
      refine st_scall rfl en30 (by decide) (fun w hw => hks nk hmem _ w hcnk (hkk.ext hw.ext_all)) ?_
      rintro _ rfl
      refine JL_v (vo_add rfl rfl (by omega) (by omega)) nofun (by decide) ?_
      refine JL_v (vo_assign rfl) nofun (by decide) ?_
      refine JL_nil ?_
      refine JX_block ?_
      refine JX_then ?_
      refine JC_region ?_
      refine JL_v (vo_move rfl) nofun (by decide) ?_
      refine JL_v (vo_add rfl rfl (by omega) (by omega)) nofun (by decide) ?_
      refine JL_v (vo_assign rfl) nofun (by decide) ?_
      refine JL_nil ?_
      refine JX_loop ⟨i + 1, hil⟩ (by show ks.length - (i + 1) < ks.length - i; omega) (by dsimp only; rw [← hn4]; exact (by repeat (first | exact trivial | refine ⟨rfl, ?_⟩ | refine ⟨trivial, ?_⟩))) (fun w hw => hw.sub (by repeat (first | exact List.Sublist.refl _ | apply List.Sublist.cons)))
    · refine JC_exit ?_
      refine JX_then_exit ?_
      refine JX_thenK_exit ?_
      refine JX_block_exit ?_
      refine JX_then ?_
      refine JC_seq ?_
      refine JC_region ?_
      refine JL_v (vo_move rfl) nofun (by decide) ?_
      refine JL_v (vo_assign rfl) nofun (by decide) ?_
      refine JL_nil ?_
      refine JX_then ?_
      refine JC_ret ?_
      refine ret1 rfl rfl ?_
      intro w1 hM
      have hxi : i = ks.length := by simp at hc13; omega
      subst hxi
      refine SC_end hM ?_
      simp [rcount, hkn]
theorem rcount_spec : ∀ nd, NdOK nd → (∀ (k : Value) (w : World), (trOf nd).count ≤ 1000000000000 → RNds (fun b => b < w.heap.size) w nd.kids k → SCalls Try.prog 30 #[.agg (ndC nd k).toArray] w (fun u => u = .int .i64 (rcount nd))) := by
  refine Nd.ind fun nm v m ks ih hok => ?_
  cases hok with
  | mk hn hl hk => exact rcount_of nm v m ks hl (fun nd hm => ih nd hm (hk nd hm))


end Go.Eng

set_option linter.unusedVariables false
set_option linter.unusedSimpArgs false
namespace Go.Eng
open Go Go.RowKit Go.Proofs
def pvC (x : ByteArray × Val) : List Value := .string x.1 :: valC x.2
theorem pvC_length (x : ByteArray × Val) : (pvC x).length = 36 := rfl
def cont82 (n : Int) (i : Nat) : Bool := decide (n < 1) || decide ((i : Int) + 1 < n)
def well82 (n : Int) (i : Nat) : Bool := decide (n < 1) || decide ((i : Int) ≤ n)
def taken (n : Int) (len : Nat) : Nat := if n < 1 then len else min n.toNat len
theorem feed82 (n : Int) : ∀ (k i : Nat), ¬ n < 1 → (i : Int) < n → (feed (cont82 n) i k).2 = min n.toNat (i + k)
  | 0, i, h, hi => by simp [feed_zero]; omega
  | k + 1, i, h, hi => by
    rw [feed_succ]
    by_cases hc : (i : Int) + 1 < n
    · rw [show cont82 n i = true by simp [cont82, hc], if_pos rfl, feed82 n k (i + 1) h (by omega)]; omega
    · rw [show cont82 n i = false by simp [cont82, hc, h], if_neg (by simp)]; simp only; omega
theorem fed82 (n : Int) (len : Nat) : (feed (cont82 n) 0 len).2 = taken n len := by
  unfold taken
  split
  · rename_i h
    rw [feed_true (feed_iff.2 (fun j _ => by simp [cont82, h]))]; omega
  · rename_i h
    rw [feed82 n len 0 h (by omega)]; simp
theorem well_taken (n : Int) (len : Nat) : well82 n (taken n len) = true := by
  unfold well82 taken
  split
  · rename_i h; simp [h]
  · rename_i h; simp only [h, decide_false, Bool.false_or, decide_eq_true_eq]; omega
def H82 (n : Int) (xs : List (ByteArray × Val)) (bw bl : Nat) (i : Nat) (L : List Res) : Prop :=
  ∃ v, L = [.row v 124 36 i ((xs.take i).flatMap pvC), .blk bw (.cells #[.bool (well82 n i)] 4 (0, 0)), .blk bl (.cells #[v] 73 (0, 0))]
theorem bl124 (p : ByteArray) (v : Val) : Try.prog.built 124 [(0, .string p), (1, .agg (valC v).toArray)] = some (pvC (p, v)).toArray := by kernel_rfl
theorem zr124 : (Try.prog.info? 124).bind (·.zero) = some (.agg (pvC (⟨#[]⟩, zeroVal)).toArray) := by kernel_rfl
theorem row_slice {w0 : World} {E Z0 Z : Nat → Prop} {wz w : World} {L : List Res} {v : Value} {e : TypeId} {sz n : Nat} {xs : List Value} (h : Mem w0 E Z0 Z wz L w) (hm : Res.row v e sz n xs ∈ L) : ∃ A c, v = .slice A n c := by
  rcases (h.own _ hm).2 with ⟨rfl, rfl⟩ | ⟨g, cap, cur, rfl, _⟩
  · exact ⟨_, _, rfl⟩
  · exact ⟨_, _, rfl⟩
theorem hold_slice {w : World} {L : List Res} {v : Value} {e : TypeId} {sz n : Nat} {xs : List Value} (h : Holds L w) (hm : Res.row v e sz n xs ∈ L) : ∃ A c, v = .slice A n c := by
  rcases (h.own _ hm).2 with ⟨rfl, rfl⟩ | ⟨g, cap, cur, rfl, _⟩
  · exact ⟨_, _, rfl⟩
  · exact ⟨_, _, rfl⟩
end Go.Eng
