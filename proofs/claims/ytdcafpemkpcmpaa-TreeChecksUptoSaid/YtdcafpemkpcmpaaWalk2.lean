/-
  Part of the proofs over this seat: D3 W4 W5. Own work; imports the kit.
-/
import Derived.Test.YtdcafpemkpcmpaaData1
import Derived.Test.YtdcafpemkpcmpaaEng2
import Derived.Test.YtdcafpemkpcmpaaWalk1
set_option linter.unusedVariables false
set_option linter.unusedSimpArgs false
namespace Go.Eng
open Go Go.RowKit Go.Proofs

theorem Nd.ind {p : Nd → Prop} (h : ∀ n v m ks, (∀ k ∈ ks, p k) → p (.mk n v m ks)) : ∀ n, p n
  | .mk n v m ks => h n v m ks (fun k hk => Nd.ind h k)
/-- sizes -/
inductive NdOK : Nd → Prop where
  | mk {nd : Nd} (hn : nd.name.size ≤ 1048576) (hl : nd.kids.length ≤ 1048576) (hk : ∀ k ∈ nd.kids, NdOK k) : NdOK nd
def joinP (p : ByteArray) (level : Int) (n : ByteArray) : ByteArray := if level = 0 then n else p ++ ⟨#[47]⟩ ++ n
def kindBad (v : Val) (n : Int) : Bool := decide (v.kind < 1) || decide (v.kind > 3) || (v.kind != 1 && decide (n > 0))
def notUp (prev : Option ByteArray) (n : ByteArray) : Bool := match prev with | none => false | some q => blt n q || beq n q
def notUp' (prev : Option ByteArray) (n : ByteArray) : Bool := match prev with | none => false | some q => !blt q n
mutual
/-- the program's check -/
def chk : Nd → ByteArray → Int → ByteArray × Int
  | .mk _ v m ks, p, level => if kindBad v ks.length then (p, 40) else if possB v m ≠ 0 then (p, possB v m) else chkL ks none p level
def chkL : List Nd → Option ByteArray → ByteArray → Int → ByteArray × Int
  | [], _, _, _ => (⟨#[]⟩, 0)
  | k :: ks, prev, p, level =>
    if level = 64 then (joinP p level k.name, 43)
    else if nameB k.name = false then (joinP p level k.name, 30)
    else if notUp prev k.name then (joinP p level k.name, 42)
    else if (chk k (joinP p level k.name) (level + 1)).2 ≠ 0 then chk k (joinP p level k.name) (level + 1) else chkL ks (some k.name) p level
end
mutual
/-- the document's check -/
def rchk : Nd → ByteArray → Int → ByteArray × Int
  | .mk _ v m ks, p, level => rchkL ks none p level
def rchkL : List Nd → Option ByteArray → ByteArray → Int → ByteArray × Int
  | [], _, _, _ => (⟨#[]⟩, 0)
  | k :: ks, prev, p, level =>
    if level + 1 > 64 then (joinP p level k.name, 43)
    else if nameB k.name = false then (joinP p level k.name, 30)
    else if notUp' prev k.name then (joinP p level k.name, 42)
    else if ownB k.val k.marks k.kids.length ≠ 0 then (joinP p level k.name, ownB k.val k.marks k.kids.length)
    else if (rchk k (joinP p level k.name) (level + 1)).2 ≠ 0 then rchk k (joinP p level k.name) (level + 1) else rchkL ks (some k.name) p level
end
def prevOf (l : List Nd) (i : Nat) : Option ByteArray := if i = 0 then none else (l[i - 1]?).map Nd.name
theorem prevOf_succ {l : List Nd} {i : Nat} {nd : Nd} (h : l[i]? = some nd) : prevOf l (i + 1) = some nd.name := by simp [prevOf, h]
theorem drop_of_get {α : Type} {l : List α} {i : Nat} {x : α} (h : l[i]? = some x) : l.drop i = x :: l.drop (i + 1) := by
  obtain ⟨hi, rfl⟩ := List.getElem?_eq_some_iff.1 h
  exact List.drop_eq_getElem_cons hi
def zeroVal : Val := ⟨0, 0, 0, fun _ => 0⟩
def zeroMk : Mk2 := ⟨⟨0, 0⟩, ⟨0, 0⟩⟩
theorem zr30 : (Try.prog.info? 30).bind (·.zero) = some (.agg (nodeC ⟨#[]⟩ zeroVal zeroMk (.slice none 0 0)).toArray) := by kernel_rfl
theorem joinP_size (p : ByteArray) (level : Int) (n : ByteArray) : (joinP p level n).size ≤ p.size + 1 + n.size := by
  unfold joinP
  split
  · omega
  · simp only [ByteArray.size_append, size47]; omega
end Go.Eng

set_option linter.unusedVariables false
set_option linter.unusedSimpArgs false
namespace Go.Eng
open Go Go.RowKit Go.Proofs
theorem en105 : Enters Try.prog 105 := ⟨_, Try.func105, by kernel_rfl, by kernel_rfl⟩
theorem en62 : Enters Try.prog 62 := ⟨_, Try.func62, by kernel_rfl, by kernel_rfl⟩
theorem en90 : Enters Try.prog 90 := ⟨_, Try.func90, by kernel_rfl, by kernel_rfl⟩
theorem fo30_1 : fieldOff Try.prog 30 1 = some 1 := by kernel_rfl
theorem fo30_2 : fieldOff Try.prog 30 2 = some 36 := by kernel_rfl

set_option maxRecDepth 8000 in
set_option maxHeartbeats 1000000 in
theorem chk_of (nm : ByteArray) (v : Val) (m : Mk2) (ks : List Nd) (hok : ∀ x ∈ ks, NdOK x) (hlen : ks.length ≤ 1048576) (hks : ∀ nd ∈ ks, ∀ (p : ByteArray) (level : Int) (k : Value) (w : World), 0 ≤ level → level ≤ 64 → p.size ≤ 2097152 * level → RNds (fun b => b < w.heap.size) w nd.kids k → SCalls Try.prog 62 #[.agg (ndC nd k).toArray, .string p, .int .i64 level] w (fun u => u = .tuple #[.string (chk nd p level).1, .int .i64 (chk nd p level).2])) : ∀ (p : ByteArray) (level : Int) (k : Value) (w : World), 0 ≤ level → level ≤ 64 → p.size ≤ 2097152 * level → RNds (fun b => b < w.heap.size) w ks k → SCalls Try.prog 62 #[.agg (ndC (.mk nm v m ks) k).toArray, .string p, .int .i64 level] w (fun u => u = .tuple #[.string (chk (.mk nm v m ks) p level).1, .int .i64 (chk (.mk nm v m ks) p level).2]) := by
  intro p level k0 w hl0 hl1 hps hr
  obtain ⟨A, c, rfl, hlen2⟩ := hr.slice
  refine enter (N := 102) Try.func62 rfl Try.ntmps62 (Nat.le_of_ble_eq_true rfl) [(0, .agg (ndC (.mk nm v m ks) (.slice A ks.length c)).toArray), (1, .string p), (2, .int .i64 level)] (by repeat (first | exact trivial | refine ⟨rfl, ?_⟩)) (Mem.start w (fun _ => False) (fun b => b < w.heap.size) (fun _ h => h)) ?_
  refine JC_seq ?_
  refine JC_region ?_
  refine st_box rfl (by decide) (fun b3 => ?_)
  refine JL_v (vo_assign rfl) nofun (by decide) ?_
  refine JL_v (vo_assign rfl) nofun (by decide) ?_
  refine JL_nil ?_
  refine JX_then ?_
  refine JC_seq ?_
  refine JC_seq ?_
  refine JC_joinB 36 (kindBad v ks.length) ?_ ?_
  · refine JC_region ?_
    refine JL_v (vo_fieldAddr rfl fo30_1) nofun (by decide) ?_
    refine JL_v (vo_fieldAddr rfl fo24_0) nofun (by decide) ?_
    refine JL_v (vo_load rfl (by first | exact .frz ‹_› | exact .own (by repeat (first | exact .head _ | refine .tail _ ?_))) (by first | exact .cell Try.underlying3 rfl rfl | exact pn_all ‹_› | exact pn_val (node_self _ _ _ _) | exact pn_marks (node_self _ _ _ _) | exact pn_name ‹_›)) nofun (by decide) ?_
    refine JL_v (vo_cmp rfl rfl rfl) nofun (by decide) ?_
    refine JL_v (vo_move rfl) nofun (by decide) ?_
    refine JL_case 19 rfl (fun hg19 => ?_) (fun hg19 => ?_)
    · refine JL_no rfl rfl (by decide) ?_
      refine JL_no rfl rfl (by decide) ?_
      refine JL_no rfl rfl (by decide) ?_
      refine JL_no rfl rfl (by decide) ?_
      refine JL_v (vo_pick rfl rfl) nofun (by decide) ?_
      refine JL_v (vo_move rfl) nofun (by decide) ?_
      refine JL_no rfl rfl (by decide) ?_
      refine JL_no rfl rfl (by decide) ?_
      refine JL_no rfl rfl (by decide) ?_
      refine JL_no rfl rfl (by decide) ?_
      refine JL_no rfl rfl (by decide) ?_
      refine JL_nou rfl rfl (by decide) ?_
      refine JL_nou rfl rfl (by decide) ?_
      refine JL_nou rfl rfl (by decide) ?_
      refine JL_nou rfl rfl (by decide) ?_
      refine JL_no rfl rfl (by decide) ?_
      refine JL_v (vo_pick rfl rfl) nofun (by decide) ?_
      refine JL_nil ?_
      refine JX_joinB _ ⟨rfl, (by repeat (first | exact trivial | refine ⟨rfl, ?_⟩ | refine ⟨trivial, ?_⟩))⟩ ?_
      simp_all [kindBad, ndC, nodeC, Nd.val] <;> first | omega | grind
    · refine JL_yes rfl rfl ?_
      refine JL_v (vo_fieldAddr rfl fo30_1) nofun (by decide) ?_
      refine JL_yes rfl rfl ?_
      refine JL_v (vo_fieldAddr rfl fo24_0) nofun (by decide) ?_
      refine JL_yes rfl rfl ?_
      refine JL_v (vo_load rfl (by first | exact .frz ‹_› | exact .own (by repeat (first | exact .head _ | refine .tail _ ?_))) (by first | exact .cell Try.underlying3 rfl rfl | exact pn_all ‹_› | exact pn_val (node_self _ _ _ _) | exact pn_marks (node_self _ _ _ _) | exact pn_name ‹_›)) nofun (by decide) ?_
      refine JL_yes rfl rfl ?_
      refine JL_v (vo_cmp rfl rfl rfl) nofun (by decide) ?_
      refine JL_v (vo_pick rfl rfl) nofun (by decide) ?_
      refine JL_v (vo_move rfl) nofun (by decide) ?_
      refine JL_case 25 rfl (fun hg25 => ?_) (fun hg25 => ?_)
      · refine JL_no rfl rfl (by decide) ?_
        refine JL_no rfl rfl (by decide) ?_
        refine JL_no rfl rfl (by decide) ?_
        refine JL_no rfl rfl (by decide) ?_
        refine JL_no rfl rfl (by decide) ?_
        refine JL_nou rfl rfl (by decide) ?_
        refine JL_nou rfl rfl (by decide) ?_
        refine JL_nou rfl rfl (by decide) ?_
        refine JL_nou rfl rfl (by decide) ?_
        refine JL_no rfl rfl (by decide) ?_
        refine JL_v (vo_pick rfl rfl) nofun (by decide) ?_
        refine JL_nil ?_
        refine JX_joinB _ ⟨rfl, (by repeat (first | exact trivial | refine ⟨rfl, ?_⟩ | refine ⟨trivial, ?_⟩))⟩ ?_
        simp_all [kindBad, ndC, nodeC, Nd.val] <;> first | omega | grind
      · refine JL_yes rfl rfl ?_
        refine JL_v (vo_fieldAddr rfl fo30_1) nofun (by decide) ?_
        refine JL_yes rfl rfl ?_
        refine JL_v (vo_fieldAddr rfl fo24_0) nofun (by decide) ?_
        refine JL_yes rfl rfl ?_
        refine JL_v (vo_load rfl (by first | exact .frz ‹_› | exact .own (by repeat (first | exact .head _ | refine .tail _ ?_))) (by first | exact .cell Try.underlying3 rfl rfl | exact pn_all ‹_› | exact pn_val (node_self _ _ _ _) | exact pn_marks (node_self _ _ _ _) | exact pn_name ‹_›)) nofun (by decide) ?_
        refine JL_yes rfl rfl ?_
        refine JL_v (vo_cmp rfl rfl rfl) nofun (by decide) ?_
        refine JL_yes rfl rfl ?_
        refine JL_v (vo_move rfl) nofun (by decide) ?_
        refine JL_case 30 rfl (fun hg30 => ?_) (fun hg30 => ?_)
        · refine JL_yes rfl rfl ?_
          refine JL_v (vo_fieldAddr rfl fo30_3) nofun (by decide) ?_
          refine JL_yes rfl rfl ?_
          refine JL_v (vo_load rfl (by first | exact .frz ‹_› | exact .own (by repeat (first | exact .head _ | refine .tail _ ?_))) (by first | exact .cell Try.underlying28 rfl rfl | exact pn_all ‹_› | exact pn_val (node_self _ _ _ _) | exact pn_marks (node_self _ _ _ _) | exact pn_name ‹_›)) nofun (by decide) ?_
          refine JL_yes rfl rfl ?_
          refine JL_v (vo_len rfl Try.underlying28) nofun (by decide) ?_
          refine JL_yes rfl rfl ?_
          refine JL_v (vo_cmp rfl rfl rfl) nofun (by decide) ?_
          refine JL_yes rfl rfl ?_
          refine JL_v (vo_pick rfl rfl) nofun (by decide) ?_
          refine JL_v (vo_pick rfl rfl) nofun (by decide) ?_
          refine JL_nil ?_
          refine JX_joinB _ ⟨rfl, (by repeat (first | exact trivial | refine ⟨rfl, ?_⟩ | refine ⟨trivial, ?_⟩))⟩ ?_
          simp_all [kindBad, ndC, nodeC, Nd.val] <;> first | omega | grind
        · refine JL_no rfl rfl (by decide) ?_
          refine JL_no rfl rfl (by decide) ?_
          refine JL_no rfl rfl (by decide) ?_
          refine JL_no rfl rfl (by decide) ?_
          refine JL_yes rfl rfl ?_
          refine JL_v (vo_pick rfl rfl) nofun (by decide) ?_
          refine JL_v (vo_pick rfl rfl) nofun (by decide) ?_
          refine JL_nil ?_
          refine JX_joinB _ ⟨rfl, (by repeat (first | exact trivial | refine ⟨rfl, ?_⟩ | refine ⟨trivial, ?_⟩))⟩ ?_
          simp_all [kindBad, ndC, nodeC, Nd.val] <;> first | omega | grind
  · refine JX_then ?_
    refine JC_cond _ rfl (fun hc36 => ?_) (fun hc36 => ?_)
    · refine JC_seq ?_
      refine JC_region ?_
      refine JL_v (vo_move rfl) nofun (by decide) ?_
      refine JL_v (vo_assign rfl) nofun (by decide) ?_
      refine JL_v (vo_assign rfl) nofun (by decide) ?_
      refine JL_nil ?_
      refine JX_then ?_
      refine JC_ret ?_
      refine JX_then_ret ?_
      refine ret2 rfl rfl rfl ?_
      intro w1 hM; refine SC_end hM ?_; simp_all [chk, Nd.val, Nd.marks]
    · refine JC_skip ?_
      refine JX_then ?_
      refine JC_seq ?_
      refine JC_seq ?_
      refine JC_region ?_
      refine JL_v (vo_fieldAddr rfl fo30_1) nofun (by decide) ?_
      refine JL_v (vo_load rfl (by first | exact .frz ‹_› | exact .own (by repeat (first | exact .head _ | refine .tail _ ?_))) (by first | exact PartAt.whole Try.underlying24 rfl sz24 | exact pn_all ‹_› | exact pn_val (node_self _ _ _ _) | exact pn_marks (node_self _ _ _ _) | exact pn_name ‹_›)) nofun (by decide) ?_
      refine JL_v (vo_fieldAddr rfl fo30_2) nofun (by decide) ?_
      refine JL_v (vo_load rfl (by first | exact .frz ‹_› | exact .own (by repeat (first | exact .head _ | refine .tail _ ?_))) (by first | exact PartAt.whole Try.underlying27 rfl sz27 | exact pn_all ‹_› | exact pn_val (node_self _ _ _ _) | exact pn_marks (node_self _ _ _ _) | exact pn_name ‹_›)) nofun (by decide) ?_
      refine st_scall rfl en90 (by decide) (fun w hw => possible_spec _ _ w) ?_
      rintro _ rfl
      refine JL_v (vo_assign rfl) nofun (by decide) ?_
      refine JL_nil ?_
      refine JX_then ?_
      refine JC_seq ?_
      refine JC_region ?_
      refine JL_v (vo_move rfl) nofun (by decide) ?_
      refine JL_v (vo_cmp rfl rfl rfl) nofun (by decide) ?_
      refine JL_nil ?_
      refine JX_then ?_
      refine JC_cond _ rfl (fun hc44 => ?_) (fun hc44 => ?_)
      · refine JC_seq ?_
        refine JC_region ?_
        refine JL_v (vo_move rfl) nofun (by decide) ?_
        refine JL_v (vo_move rfl) nofun (by decide) ?_
        refine JL_v (vo_assign rfl) nofun (by decide) ?_
        refine JL_v (vo_assign rfl) nofun (by decide) ?_
        refine JL_nil ?_
        refine JX_then ?_
        refine JC_ret ?_
        refine JX_then_ret ?_
        refine ret2 rfl rfl rfl ?_
        intro w1 hM; refine SC_end hM ?_; simp_all [chk, Nd.val, Nd.marks]
      · refine JC_skip ?_
        refine JX_then ?_
        refine JC_seq ?_
        refine JC_seq ?_
        refine JC_region ?_
        refine JL_v (vo_fieldAddr rfl fo30_3) nofun (by decide) ?_
        refine JL_v (vo_load rfl (by first | exact .frz ‹_› | exact .own (by repeat (first | exact .head _ | refine .tail _ ?_))) (by first | exact .cell Try.underlying28 rfl rfl | exact pn_all ‹_› | exact pn_val (node_self _ _ _ _) | exact pn_marks (node_self _ _ _ _) | exact pn_name ‹_›)) nofun (by decide) ?_
        refine JL_v (vo_len rfl Try.underlying28) nofun (by decide) ?_
        refine JL_v (vo_move rfl) nofun (by decide) ?_
        refine JL_nil ?_
        refine JX_then ?_
        refine JC_block ?_
        refine JC_loop (α := { i : Nat // i ≤ ks.length ∧ chkL (ks.drop i) (prevOf ks i) p level = chk (.mk nm v m ks) p level }) (fun i => [(1, .string p), (2, .int .i64 level), (3, .pointer (some ⟨b3, 0, none⟩)), (48, .slice A ks.length c), (49, .int .i64 ks.length), (50, .int .i64 i.1)]) (fun i => Mem w (fun _ => False) (fun b => b < w.heap.size) (fun b => b < w.heap.size) w  [.blk b3 (.cells (ndC (.mk nm v m ks) (.slice A ks.length c)).toArray 30 (0, 0))]) (fun i => ks.length - i.1) ⟨0, by omega, by simp_all [chk, prevOf, Nd.val, Nd.marks]⟩ (by repeat (first | exact trivial | refine ⟨rfl, ?_⟩ | refine ⟨trivial, ?_⟩)) (fun w hw => hw) ?_
        rintro ⟨i, hile, hinv⟩
        dsimp only
        refine JC_seq ?_
        refine JC_region ?_
        refine JL_v (vo_cmp rfl rfl rfl) nofun (by decide) ?_
        refine JL_nil ?_
        refine JX_then ?_
        refine JC_seq ?_
        refine JC_cond _ rfl (fun hc51 => ?_) (fun hc51 => ?_)
        · have hil : i < ks.length := by simp at hc51; omega
          obtain ⟨nk, hnk⟩ : ∃ nk, ks[i]? = some nk := ⟨_, List.getElem?_eq_getElem hil⟩
          obtain ⟨b', o', c', cs', te, fr, kk, hv, hfb, hseg, hkk⟩ := hr.at_ hnk
          cases hv
          obtain ⟨Ak, ck, rfl, hlk⟩ := hkk.slice
          have hmem := List.mem_of_getElem? hnk
          have hokk := hok nk hmem
          have hns : nk.name.size ≤ 1048576 := by cases hokk; assumption
          have hdrop := drop_of_get hnk
          refine JC_skip ?_
          refine JX_then ?_
          refine JC_seq ?_
          refine JC_block ?_
          refine JC_seq ?_
          refine JC_region ?_
          refine JL_v (vo_move rfl) nofun (by decide) ?_
          refine JL_v (vo_indexAddr rfl rfl Try.underlying28 sz30 (by omega) (by omega)) nofun (by decide) ?_
          refine JL_v (vo_load rfl (by first | exact .frz ‹_› | exact .own (by repeat (first | exact .head _ | refine .tail _ ?_))) (by first | exact PartAt.whole Try.underlying30 rfl sz30 | exact pn_all ‹_› | exact pn_val (node_self _ _ _ _) | exact pn_marks (node_self _ _ _ _) | exact pn_name ‹_›)) nofun (by decide) ?_
          refine st_alloc zr30 (by decide) (fun b10 => ?_)
          refine JL_v (vo_assign rfl) nofun (by decide) ?_
          refine st_storeW rfl rfl sz30 rfl (by repeat (first | exact .head _ _ _ | apply Turn.tail)) (by rfl) ?_
          refine JL_nil ?_
          refine JX_then ?_
          refine JC_seq ?_
          refine JC_region ?_
          refine JL_v (vo_move rfl) nofun (by decide) ?_
          refine JL_v (vo_concat rfl rfl (by first | omega | (simp only [ByteArray.size_append, size47]; omega))) nofun (by decide) ?_
          refine JL_v (vo_fieldAddr rfl fo30_0) nofun (by decide) ?_
          refine JL_v (vo_load rfl (by first | exact .frz ‹_› | exact .own (by repeat (first | exact .head _ | refine .tail _ ?_))) (by first | exact .cell Try.underlying9 rfl rfl | exact pn_all ‹_› | exact pn_val (node_self _ _ _ _) | exact pn_marks (node_self _ _ _ _) | exact pn_name ‹_›)) nofun (by decide) ?_
          refine JL_v (vo_concat rfl rfl (by first | omega | (simp only [ByteArray.size_append, size47]; omega))) nofun (by decide) ?_
          refine JL_v (vo_assign rfl) nofun (by decide) ?_
          refine JL_nil ?_
          refine JX_then ?_
          refine JC_seq ?_
          refine JC_seq ?_
          refine JC_region ?_
          refine JL_v (vo_move rfl) nofun (by decide) ?_
          refine JL_v (vo_cmp rfl rfl rfl) nofun (by decide) ?_
          refine JL_nil ?_
          refine JX_then ?_
          refine JC_joinV [(11, .string (joinP p level nk.name))] ?_ ?_
          · refine JC_cond _ rfl (fun hc61 => ?_) (fun hc61 => ?_)
            · refine JC_region ?_
              refine JL_v (vo_fieldAddr rfl fo30_0) nofun (by decide) ?_
              refine JL_v (vo_load rfl (by first | exact .frz ‹_› | exact .own (by repeat (first | exact .head _ | refine .tail _ ?_))) (by first | exact .cell Try.underlying9 rfl rfl | exact pn_all ‹_› | exact pn_val (node_self _ _ _ _) | exact pn_marks (node_self _ _ _ _) | exact pn_name ‹_›)) nofun (by decide) ?_
              refine JL_v (vo_assign rfl) nofun (by decide) ?_
              refine JL_nil ?_
              refine JX_joinV [(11, _)] (by repeat (first | exact trivial | refine ⟨rfl, ?_⟩ | refine ⟨trivial, ?_⟩)) ?_
              simp_all [joinP] <;> rfl
            · refine JC_skip ?_
              refine JX_joinV [(11, _)] (by repeat (first | exact trivial | refine ⟨rfl, ?_⟩ | refine ⟨trivial, ?_⟩)) ?_
              simp_all [joinP] <;> rfl
          · refine JX_then ?_
            refine JC_seq ?_
            refine JC_seq ?_
            refine JC_region ?_
            refine JL_v (vo_move rfl) nofun (by decide) ?_
            refine JL_v (vo_cmp rfl rfl rfl) nofun (by decide) ?_
            refine JL_nil ?_
            refine JX_then ?_
            refine JC_cond _ rfl (fun hc65 => ?_) (fun hc65 => ?_)
            · refine JC_seq ?_
              refine JC_region ?_
              refine JL_v (vo_move rfl) nofun (by decide) ?_
              refine JL_v (vo_assign rfl) nofun (by decide) ?_
              refine JL_v (vo_assign rfl) nofun (by decide) ?_
              refine JL_nil ?_
              refine JX_then ?_
              refine JC_ret ?_
              refine JX_then_ret ?_
              refine JX_block_ret ?_
              refine JX_then_ret ?_
              refine JX_thenK_ret ?_
              refine JX_block_ret ?_
              refine JX_then_ret ?_
              refine ret2 rfl rfl rfl ?_
              intro w1 hM; refine SC_end hM ?_; rw [← hinv, hdrop]; simp_all [chkL]
            · have hl64 : level ≠ 64 := by simpa using hc65
              refine JC_skip ?_
              refine JX_then ?_
              refine JC_seq ?_
              refine JC_seq ?_
              refine JC_region ?_
              refine JL_v (vo_fieldAddr rfl fo30_0) nofun (by decide) ?_
              refine JL_v (vo_load rfl (by first | exact .frz ‹_› | exact .own (by repeat (first | exact .head _ | refine .tail _ ?_))) (by first | exact .cell Try.underlying9 rfl rfl | exact pn_all ‹_› | exact pn_val (node_self _ _ _ _) | exact pn_marks (node_self _ _ _ _) | exact pn_name ‹_›)) nofun (by decide) ?_
              refine st_scall rfl en105 (by decide) (fun w hw => pcheck_spec _ w) ?_
              rintro _ rfl
              refine JL_v (vo_assign rfl) nofun (by decide) ?_
              refine JL_nil ?_
              refine JX_then ?_
              refine JC_seq ?_
              refine JC_region ?_
              refine JL_v (vo_move rfl) nofun (by decide) ?_
              refine JL_v (vo_cmp rfl rfl rfl) nofun (by decide) ?_
              refine JL_nil ?_
              refine JX_then ?_
              refine JC_cond _ rfl (fun hc71 => ?_) (fun hc71 => ?_)
              · refine JC_seq ?_
                refine JC_region ?_
                refine JL_v (vo_move rfl) nofun (by decide) ?_
                refine JL_v (vo_move rfl) nofun (by decide) ?_
                refine JL_v (vo_assign rfl) nofun (by decide) ?_
                refine JL_v (vo_assign rfl) nofun (by decide) ?_
                refine JL_nil ?_
                refine JX_then ?_
                refine JC_ret ?_
                refine JX_then_ret ?_
                refine JX_block_ret ?_
                refine JX_then_ret ?_
                refine JX_thenK_ret ?_
                refine JX_block_ret ?_
                refine JX_then_ret ?_
                refine ret2 rfl rfl rfl ?_
                intro w1 hM; refine SC_end hM ?_; rw [← hinv, hdrop]; simp_all [chkL]
              · refine JC_skip ?_
                refine JX_then ?_
                refine JC_seq ?_
                refine JC_seq ?_
                refine JC_joinB 87 (notUp (prevOf ks i) nk.name) ?_ ?_
                · refine JC_drawM 14 (by kernel_rfl) (fun w hw => Mem.drew hw) ?_
                  refine JR_v (i := 0) rfl (by kernel_rfl) (by kernel_rfl) rfl (by kernel_rfl) (by kernel_rfl) (panic_then (panic_Then (panic_Then (panic_block (panic_Then (panic_then (panic_block (panic_Then panic_body)))))))) (by decide) (vo_move rfl) (fun w hw => hw) ?_
                  refine JR_v (i := 1) rfl (by kernel_rfl) (by kernel_rfl) rfl (by kernel_rfl) (by kernel_rfl) (panic_then (panic_Then (panic_Then (panic_block (panic_Then (panic_then (panic_block (panic_Then panic_body)))))))) (by decide) (vo_cmp rfl rfl rfl) (fun w hw => hw) ?_
                  refine JR_v (i := 2) rfl (by kernel_rfl) (by kernel_rfl) rfl (by kernel_rfl) (by kernel_rfl) (panic_then (panic_Then (panic_Then (panic_block (panic_Then (panic_then (panic_block (panic_Then panic_body)))))))) (by decide) (vo_move rfl) (fun w hw => hw) ?_
                  refine JR_case 76 rfl (fun hg76 => ?_) (fun hg76 => ?_)
                  · have hi0 : 0 < i := by simp at hg76; omega
                    obtain ⟨np, hnp⟩ : ∃ np, ks[i - 1]? = some np := ⟨_, List.getElem?_eq_getElem (by omega)⟩
                    obtain ⟨b2', o2', c2', cs2', te2, fr2, kk2, hv2, hfb2, hseg2, hkk2⟩ := hr.at_ hnp
                    have hseg3 : SegAt cs2' (o2' + ((i : Int) - 1).toNat * 41) (ndC np kk2) := by rw [show ((i : Int) - 1).toNat = i - 1 by omega]; exact hseg2
                    clear hseg2
                    cases hv2
                    have hprev : prevOf ks i = some np.name := by unfold prevOf; rw [if_neg (by omega), hnp]; rfl
                    refine JR_vy (i := 3) rfl rfl rfl (by kernel_rfl) (by kernel_rfl) rfl (by kernel_rfl) (by kernel_rfl) (panic_then (panic_Then (panic_Then (panic_block (panic_Then (panic_then (panic_block (panic_Then panic_body)))))))) (by decide) (vo_fieldAddr rfl fo30_0) (fun w hw => hw) ?_
                    refine JR_vy (i := 4) rfl rfl rfl (by kernel_rfl) (by kernel_rfl) rfl (by kernel_rfl) (by kernel_rfl) (panic_then (panic_Then (panic_Then (panic_block (panic_Then (panic_then (panic_block (panic_Then panic_body)))))))) (by decide) (vo_load rfl (by first | exact .frz ‹_› | exact .own (by repeat (first | exact .head _ | refine .tail _ ?_))) (by first | exact .cell Try.underlying9 rfl rfl | exact pn_all ‹_› | exact pn_val (node_self _ _ _ _) | exact pn_marks (node_self _ _ _ _) | exact pn_name ‹_›)) (fun w hw => hw) ?_
                    refine JR_vy (i := 5) rfl rfl rfl (by kernel_rfl) (by kernel_rfl) rfl (by kernel_rfl) (by kernel_rfl) (panic_then (panic_Then (panic_Then (panic_block (panic_Then (panic_then (panic_block (panic_Then panic_body)))))))) (by decide) (vo_fieldAddr rfl fo30_3) (fun w hw => hw) ?_
                    refine JR_vy (i := 6) rfl rfl rfl (by kernel_rfl) (by kernel_rfl) rfl (by kernel_rfl) (by kernel_rfl) (panic_then (panic_Then (panic_Then (panic_block (panic_Then (panic_then (panic_block (panic_Then panic_body)))))))) (by decide) (vo_load rfl (by first | exact .frz ‹_› | exact .own (by repeat (first | exact .head _ | refine .tail _ ?_))) (by first | exact .cell Try.underlying28 rfl rfl | exact pn_all ‹_› | exact pn_val (node_self _ _ _ _) | exact pn_marks (node_self _ _ _ _) | exact pn_name ‹_›)) (fun w hw => hw) ?_
                    refine JR_vy (i := 7) rfl rfl rfl (by kernel_rfl) (by kernel_rfl) rfl (by kernel_rfl) (by kernel_rfl) (panic_then (panic_Then (panic_Then (panic_block (panic_Then (panic_then (panic_block (panic_Then panic_body)))))))) (by decide) (vo_move rfl) (fun w hw => hw) ?_
                    refine JR_vy (i := 8) rfl rfl rfl (by kernel_rfl) (by kernel_rfl) rfl (by kernel_rfl) (by kernel_rfl) (panic_then (panic_Then (panic_Then (panic_block (panic_Then (panic_then (panic_block (panic_Then panic_body)))))))) (by decide) (vo_sub rfl rfl (by omega) (by omega)) (fun w hw => hw) ?_
                    refine JR_vy (i := 9) rfl rfl rfl (by kernel_rfl) (by kernel_rfl) rfl (by kernel_rfl) (by kernel_rfl) (panic_then (panic_Then (panic_Then (panic_block (panic_Then (panic_then (panic_block (panic_Then panic_body)))))))) (by decide) (vo_indexAddr rfl rfl Try.underlying28 sz30 (by omega) (by omega)) (fun w hw => hw) ?_
                    refine JR_vy (i := 10) rfl rfl rfl (by kernel_rfl) (by kernel_rfl) rfl (by kernel_rfl) (by kernel_rfl) (panic_then (panic_Then (panic_Then (panic_block (panic_Then (panic_then (panic_block (panic_Then panic_body)))))))) (by decide) (vo_fieldAddr rfl fo30_0) (fun w hw => hw) ?_
                    refine JR_vy (i := 11) rfl rfl rfl (by kernel_rfl) (by kernel_rfl) rfl (by kernel_rfl) (by kernel_rfl) (panic_then (panic_Then (panic_Then (panic_block (panic_Then (panic_then (panic_block (panic_Then panic_body)))))))) (by decide) (vo_load rfl (by first | exact .frz ‹_› | exact .own (by repeat (first | exact .head _ | refine .tail _ ?_))) (by first | exact .cell Try.underlying9 rfl rfl | exact pn_all ‹_› | exact pn_val (node_self _ _ _ _) | exact pn_marks (node_self _ _ _ _) | exact pn_name ‹_›)) (fun w hw => hw) ?_
                    refine JR_vy (i := 12) rfl rfl rfl (by kernel_rfl) (by kernel_rfl) rfl (by kernel_rfl) (by kernel_rfl) (panic_then (panic_Then (panic_Then (panic_block (panic_Then (panic_then (panic_block (panic_Then panic_body)))))))) (by decide) (vo_scmp rfl rfl rfl) (fun w hw => hw) ?_
                    refine JR_v (i := 13) rfl (by kernel_rfl) (by kernel_rfl) rfl (by kernel_rfl) (by kernel_rfl) (panic_then (panic_Then (panic_Then (panic_block (panic_Then (panic_then (panic_block (panic_Then panic_body)))))))) (by decide) (vo_pick rfl rfl) (fun w hw => hw) ?_
                    refine JR_done (by kernel_rfl) ?_
                    refine JX_joinB _ ⟨rfl, (by repeat (first | exact trivial | refine ⟨rfl, ?_⟩ | refine ⟨trivial, ?_⟩))⟩ ?_
                    simp_all [notUp, prevOf]
                  · refine JR_vn (i := 3) rfl rfl rfl (by kernel_rfl) (by kernel_rfl) rfl (by kernel_rfl) (by kernel_rfl) (panic_then (panic_Then (panic_Then (panic_block (panic_Then (panic_then (panic_block (panic_Then panic_body)))))))) (by decide) (fun w hw => hw) ?_
                    refine JR_vn (i := 4) rfl rfl rfl (by kernel_rfl) (by kernel_rfl) rfl (by kernel_rfl) (by kernel_rfl) (panic_then (panic_Then (panic_Then (panic_block (panic_Then (panic_then (panic_block (panic_Then panic_body)))))))) (by decide) (fun w hw => hw) ?_
                    refine JR_vn (i := 5) rfl rfl rfl (by kernel_rfl) (by kernel_rfl) rfl (by kernel_rfl) (by kernel_rfl) (panic_then (panic_Then (panic_Then (panic_block (panic_Then (panic_then (panic_block (panic_Then panic_body)))))))) (by decide) (fun w hw => hw) ?_
                    refine JR_vn (i := 6) rfl rfl rfl (by kernel_rfl) (by kernel_rfl) rfl (by kernel_rfl) (by kernel_rfl) (panic_then (panic_Then (panic_Then (panic_block (panic_Then (panic_then (panic_block (panic_Then panic_body)))))))) (by decide) (fun w hw => hw) ?_
                    refine JR_vn (i := 7) rfl rfl rfl (by kernel_rfl) (by kernel_rfl) rfl (by kernel_rfl) (by kernel_rfl) (panic_then (panic_Then (panic_Then (panic_block (panic_Then (panic_then (panic_block (panic_Then panic_body)))))))) (by decide) (fun w hw => hw) ?_
                    refine JR_vn (i := 8) rfl rfl rfl (by kernel_rfl) (by kernel_rfl) rfl (by kernel_rfl) (by kernel_rfl) (panic_then (panic_Then (panic_Then (panic_block (panic_Then (panic_then (panic_block (panic_Then panic_body)))))))) (by decide) (fun w hw => hw) ?_
                    refine JR_vn (i := 9) rfl rfl rfl (by kernel_rfl) (by kernel_rfl) rfl (by kernel_rfl) (by kernel_rfl) (panic_then (panic_Then (panic_Then (panic_block (panic_Then (panic_then (panic_block (panic_Then panic_body)))))))) (by decide) (fun w hw => hw) ?_
                    refine JR_vn (i := 10) rfl rfl rfl (by kernel_rfl) (by kernel_rfl) rfl (by kernel_rfl) (by kernel_rfl) (panic_then (panic_Then (panic_Then (panic_block (panic_Then (panic_then (panic_block (panic_Then panic_body)))))))) (by decide) (fun w hw => hw) ?_
                    refine JR_vn (i := 11) rfl rfl rfl (by kernel_rfl) (by kernel_rfl) rfl (by kernel_rfl) (by kernel_rfl) (panic_then (panic_Then (panic_Then (panic_block (panic_Then (panic_then (panic_block (panic_Then panic_body)))))))) (by decide) (fun w hw => hw) ?_
                    refine JR_vn (i := 12) rfl rfl rfl (by kernel_rfl) (by kernel_rfl) rfl (by kernel_rfl) (by kernel_rfl) (panic_then (panic_Then (panic_Then (panic_block (panic_Then (panic_then (panic_block (panic_Then panic_body)))))))) (by decide) (fun w hw => hw) ?_
                    refine JR_v (i := 13) rfl (by kernel_rfl) (by kernel_rfl) rfl (by kernel_rfl) (by kernel_rfl) (panic_then (panic_Then (panic_Then (panic_block (panic_Then (panic_then (panic_block (panic_Then panic_body)))))))) (by decide) (vo_pick rfl rfl) (fun w hw => hw) ?_
                    refine JR_done (by kernel_rfl) ?_
                    refine JX_joinB _ ⟨rfl, (by repeat (first | exact trivial | refine ⟨rfl, ?_⟩ | refine ⟨trivial, ?_⟩))⟩ ?_
                    simp_all [notUp, prevOf]
                · refine JX_then ?_
                  refine JC_cond _ rfl (fun hc87 => ?_) (fun hc87 => ?_)
                  · refine JC_seq ?_
                    refine JC_region ?_
                    refine JL_v (vo_move rfl) nofun (by decide) ?_
                    refine JL_v (vo_assign rfl) nofun (by decide) ?_
                    refine JL_v (vo_assign rfl) nofun (by decide) ?_
                    refine JL_nil ?_
                    refine JX_then ?_
                    refine JC_ret ?_
                    refine JX_then_ret ?_
                    refine JX_block_ret ?_
                    refine JX_then_ret ?_
                    refine JX_thenK_ret ?_
                    refine JX_block_ret ?_
                    refine JX_then_ret ?_
                    refine ret2 rfl rfl rfl ?_
                    intro w1 hM; refine SC_end hM ?_; rw [← hinv, hdrop]; simp_all [chkL]
                  · refine JC_skip ?_
                    refine JX_then ?_
                    refine JC_seq ?_
                    refine JC_region ?_
                    refine JL_v (vo_load rfl (by first | exact .frz ‹_› | exact .own (by repeat (first | exact .head _ | refine .tail _ ?_))) (by first | exact PartAt.whole Try.underlying30 rfl sz30 | exact pn_all ‹_› | exact pn_val (node_self _ _ _ _) | exact pn_marks (node_self _ _ _ _) | exact pn_name ‹_›)) nofun (by decide) ?_
                    refine JL_v (vo_move rfl) nofun (by decide) ?_
                    refine JL_v (vo_move rfl) nofun (by decide) ?_
                    refine JL_v (vo_add rfl rfl (by omega) (by omega)) nofun (by decide) ?_
                    refine st_scall rfl en62 (by decide) (fun w hw => hks nk hmem _ _ _ w (by omega) (by omega) (by have := joinP_size p level nk.name; omega) (hkk.ext hw.ext_all)) ?_
                    rintro _ rfl
                    refine JL_v (vo_move rfl) nofun (by decide) ?_
                    refine JL_v (vo_extract rfl rfl) nofun (by decide) ?_
                    refine JL_v (vo_extract rfl rfl) nofun (by decide) ?_
                    refine JL_v (vo_assign rfl) nofun (by decide) ?_
                    refine JL_v (vo_assign rfl) nofun (by decide) ?_
                    refine JL_nil ?_
                    refine JX_then ?_
                    refine JC_seq ?_
                    refine JC_region ?_
                    refine JL_v (vo_move rfl) nofun (by decide) ?_
                    refine JL_v (vo_cmp rfl rfl rfl) nofun (by decide) ?_
                    refine JL_nil ?_
                    refine JX_then ?_
                    refine JC_cond _ rfl (fun hc98 => ?_) (fun hc98 => ?_)
                    · refine JC_seq ?_
                      refine JC_region ?_
                      refine JL_v (vo_move rfl) nofun (by decide) ?_
                      refine JL_v (vo_move rfl) nofun (by decide) ?_
                      refine JL_v (vo_assign rfl) nofun (by decide) ?_
                      refine JL_v (vo_assign rfl) nofun (by decide) ?_
                      refine JL_nil ?_
                      refine JX_then ?_
                      refine JC_ret ?_
                      refine JX_block_ret ?_
                      refine JX_then_ret ?_
                      refine JX_thenK_ret ?_
                      refine JX_block_ret ?_
                      refine JX_then_ret ?_
                      refine ret2 rfl rfl rfl ?_
                      intro w1 hM; refine SC_end hM ?_; rw [← hinv, hdrop]; simp_all [chkL]
                    · refine JC_skip ?_
                      refine JX_block ?_
                      refine JX_then ?_
                      refine JC_region ?_
                      refine JL_v (vo_add rfl rfl (by omega) (by omega)) nofun (by decide) ?_
                      refine JL_v (vo_move rfl) nofun (by decide) ?_
                      refine JL_nil ?_
                      refine JX_loop ⟨i + 1, hil, ?_⟩ (by show ks.length - (i + 1) < ks.length - i; omega) (by repeat (first | exact trivial | refine ⟨rfl, ?_⟩ | refine ⟨trivial, ?_⟩)) (fun w hw => hw.sub (List.sublist_cons_self _ _))
                      rw [prevOf_succ hnk, ← hinv, hdrop]
                      simp_all [chkL]
        · refine JC_exit ?_
          refine JX_then_exit ?_
          refine JX_thenK_exit ?_
          refine JX_block_exit ?_
          refine JX_then ?_
          refine JC_seq ?_
          refine JC_region ?_
          refine JL_v (vo_assign rfl) nofun (by decide) ?_
          refine JL_v (vo_assign rfl) nofun (by decide) ?_
          refine JL_nil ?_
          refine JX_then ?_
          refine JC_ret ?_
          refine ret2 rfl rfl rfl ?_
          intro w1 hM; refine SC_end hM ?_; rw [← hinv]; have : i = ks.length := (by simp at hc51; omega); simp [this, chkL]

end Go.Eng

set_option linter.unusedVariables false
set_option linter.unusedSimpArgs false
namespace Go.Eng
open Go Go.RowKit Go.Proofs
theorem en104 : Enters Try.prog 104 := ⟨_, Try.func104, by kernel_rfl, by kernel_rfl⟩
theorem en60 : Enters Try.prog 60 := ⟨_, Try.func60, by kernel_rfl, by kernel_rfl⟩
theorem en61 : Enters Try.prog 61 := ⟨_, Try.func61, by kernel_rfl, by kernel_rfl⟩

set_option maxRecDepth 8000 in
set_option maxHeartbeats 1000000 in
theorem rchk_of (nm : ByteArray) (v : Val) (m : Mk2) (ks : List Nd) (hok : ∀ x ∈ ks, NdOK x) (hlen : ks.length ≤ 1048576) (hks : ∀ nd ∈ ks, ∀ (p : ByteArray) (level : Int) (k : Value) (w : World), 0 ≤ level → level ≤ 64 → p.size ≤ 2097152 * level → RNds (fun b => b < w.heap.size) w nd.kids k → SCalls Try.prog 61 #[.agg (ndC nd k).toArray, .string p, .int .i64 level] w (fun u => u = .tuple #[.string (rchk nd p level).1, .int .i64 (rchk nd p level).2])) : ∀ (p : ByteArray) (level : Int) (k : Value) (w : World), 0 ≤ level → level ≤ 64 → p.size ≤ 2097152 * level → RNds (fun b => b < w.heap.size) w ks k → SCalls Try.prog 61 #[.agg (ndC (.mk nm v m ks) k).toArray, .string p, .int .i64 level] w (fun u => u = .tuple #[.string (rchk (.mk nm v m ks) p level).1, .int .i64 (rchk (.mk nm v m ks) p level).2]) := by
  intro p level k0 w hl0 hl1 hps hr
  obtain ⟨A, c, rfl, hlen2⟩ := hr.slice
  refine enter (N := 86) Try.func61 rfl Try.ntmps61 (Nat.le_of_ble_eq_true rfl) [(0, .agg (ndC (.mk nm v m ks) (.slice A ks.length c)).toArray), (1, .string p), (2, .int .i64 level)] (by repeat (first | exact trivial | refine ⟨rfl, ?_⟩)) (Mem.start w (fun _ => False) (fun b => b < w.heap.size) (fun _ h => h)) ?_
  refine JC_seq ?_
  refine JC_region ?_
  refine st_box rfl (by decide) (fun b3 => ?_)
  refine JL_v (vo_assign rfl) nofun (by decide) ?_
  refine JL_v (vo_assign rfl) nofun (by decide) ?_
  refine JL_nil ?_
  refine JX_then ?_
  refine JC_seq ?_
  refine JC_seq ?_
  refine JC_region ?_
  refine JL_v (vo_assign rfl) nofun (by decide) ?_
  refine JL_nil ?_
  refine JX_then ?_
  refine JC_block ?_
  refine JC_loop (α := { i : Nat // i ≤ ks.length ∧ rchkL (ks.drop i) (prevOf ks i) p level = rchk (.mk nm v m ks) p level }) (fun i => [(1, .string p), (2, .int .i64 level), (3, .pointer (some ⟨b3, 0, none⟩)), (8, .int .i64 i.1)]) (fun i => Mem w (fun _ => False) (fun b => b < w.heap.size) (fun b => b < w.heap.size) w  [.blk b3 (.cells (ndC (.mk nm v m ks) (.slice A ks.length c)).toArray 30 (0, 0))]) (fun i => ks.length - i.1) ⟨0, by omega, by simp [rchk, prevOf]⟩ (by repeat (first | exact trivial | refine ⟨rfl, ?_⟩ | refine ⟨trivial, ?_⟩)) (fun w hw => hw) ?_
  rintro ⟨i, hile, hinv⟩
  dsimp only
  refine JC_seq ?_
  refine JC_seq ?_
  refine JC_region ?_
  refine JL_v (vo_move rfl) nofun (by decide) ?_
  refine JL_v (vo_fieldAddr rfl fo30_3) nofun (by decide) ?_
  refine JL_v (vo_load rfl (by first | exact .frz ‹_› | exact .own (by repeat (first | exact .head _ | refine .tail _ ?_))) (by first | exact .cell Try.underlying28 rfl rfl | exact pn_all ‹_› | exact pn_val (node_self _ _ _ _) | exact pn_marks (node_self _ _ _ _) | exact pn_name ‹_›)) nofun (by decide) ?_
  refine JL_v (vo_len rfl Try.underlying28) nofun (by decide) ?_
  refine JL_v (vo_cmp rfl rfl rfl) nofun (by decide) ?_
  refine JL_nil ?_
  refine JX_then ?_
  refine JC_cond _ rfl (fun hc18 => ?_) (fun hc18 => ?_)
  · have hil : i < ks.length := by simp at hc18; omega
    obtain ⟨nk, hnk⟩ : ∃ nk, ks[i]? = some nk := ⟨_, List.getElem?_eq_getElem hil⟩
    obtain ⟨b', o', c', cs', te, fr, kk, hv, hfb, hseg, hkk⟩ := hr.at_ hnk
    cases hv
    obtain ⟨Ak, ck, rfl, hlk⟩ := hkk.slice
    have hmem := List.mem_of_getElem? hnk
    have hokk := hok nk hmem
    have hns : nk.name.size ≤ 1048576 := by cases hokk; assumption
    have hdrop := drop_of_get hnk
    refine JC_skip ?_
    refine JX_then ?_
    refine JC_seq ?_
    refine JC_block ?_
    refine JC_seq ?_
    refine JC_region ?_
    refine JL_v (vo_fieldAddr rfl fo30_3) nofun (by decide) ?_
    refine JL_v (vo_load rfl (by first | exact .frz ‹_› | exact .own (by repeat (first | exact .head _ | refine .tail _ ?_))) (by first | exact .cell Try.underlying28 rfl rfl | exact pn_all ‹_› | exact pn_val (node_self _ _ _ _) | exact pn_marks (node_self _ _ _ _) | exact pn_name ‹_›)) nofun (by decide) ?_
    refine JL_v (vo_move rfl) nofun (by decide) ?_
    refine JL_v (vo_indexAddr rfl rfl Try.underlying28 sz30 (by omega) (by omega)) nofun (by decide) ?_
    refine JL_v (vo_load rfl (by first | exact .frz ‹_› | exact .own (by repeat (first | exact .head _ | refine .tail _ ?_))) (by first | exact PartAt.whole Try.underlying30 rfl sz30 | exact pn_all ‹_› | exact pn_val (node_self _ _ _ _) | exact pn_marks (node_self _ _ _ _) | exact pn_name ‹_›)) nofun (by decide) ?_
    refine st_alloc zr30 (by decide) (fun b9 => ?_)
    refine st_storeW rfl rfl sz30 rfl (by repeat (first | exact .head _ _ _ | apply Turn.tail)) (by rfl) ?_
    refine JL_nil ?_
    refine JX_then ?_
    refine JC_seq ?_
    refine JC_region ?_
    refine JL_v (vo_fieldAddr rfl fo30_0) nofun (by decide) ?_
    refine JL_v (vo_load rfl (by first | exact .frz ‹_› | exact .own (by repeat (first | exact .head _ | refine .tail _ ?_))) (by first | exact .cell Try.underlying9 rfl rfl | exact pn_all ‹_› | exact pn_val (node_self _ _ _ _) | exact pn_marks (node_self _ _ _ _) | exact pn_name ‹_›)) nofun (by decide) ?_
    refine JL_v (vo_assign rfl) nofun (by decide) ?_
    refine JL_nil ?_
    refine JX_then ?_
    refine JC_seq ?_
    refine JC_seq ?_
    refine JC_region ?_
    refine JL_v (vo_move rfl) nofun (by decide) ?_
    refine JL_v (vo_cmp rfl rfl rfl) nofun (by decide) ?_
    refine JL_nil ?_
    refine JX_then ?_
    refine JC_joinV [(10, .string (joinP p level nk.name))] ?_ ?_
    · refine JC_cond _ rfl (fun hc29 => ?_) (fun hc29 => ?_)
      · refine JC_region ?_
        refine JL_v (vo_move rfl) nofun (by decide) ?_
        refine JL_v (vo_concat rfl rfl (by first | omega | (simp only [ByteArray.size_append, size47]; omega))) nofun (by decide) ?_
        refine JL_v (vo_fieldAddr rfl fo30_0) nofun (by decide) ?_
        refine JL_v (vo_load rfl (by first | exact .frz ‹_› | exact .own (by repeat (first | exact .head _ | refine .tail _ ?_))) (by first | exact .cell Try.underlying9 rfl rfl | exact pn_all ‹_› | exact pn_val (node_self _ _ _ _) | exact pn_marks (node_self _ _ _ _) | exact pn_name ‹_›)) nofun (by decide) ?_
        refine JL_v (vo_concat rfl rfl (by first | omega | (simp only [ByteArray.size_append, size47]; omega))) nofun (by decide) ?_
        refine JL_v (vo_assign rfl) nofun (by decide) ?_
        refine JL_nil ?_
        refine JX_joinV [(10, _)] (by repeat (first | exact trivial | refine ⟨rfl, ?_⟩ | refine ⟨trivial, ?_⟩)) ?_
        have hlv : level = 0 ∨ 0 < level := by omega
        rcases hlv with h | h <;> simp_all [joinP] <;> first | rfl | omega
      · refine JC_skip ?_
        refine JX_joinV [(10, _)] (by repeat (first | exact trivial | refine ⟨rfl, ?_⟩ | refine ⟨trivial, ?_⟩)) ?_
        have hlv : level = 0 ∨ 0 < level := by omega
        rcases hlv with h | h <;> simp_all [joinP] <;> first | rfl | omega
    · refine JX_then ?_
      refine JC_seq ?_
      refine JC_seq ?_
      refine JC_region ?_
      refine JL_v (vo_move rfl) nofun (by decide) ?_
      refine JL_v (vo_add rfl rfl (by omega) (by omega)) nofun (by decide) ?_
      refine JL_v (vo_cmp rfl rfl rfl) nofun (by decide) ?_
      refine JL_nil ?_
      refine JX_then ?_
      refine JC_cond _ rfl (fun hc37 => ?_) (fun hc37 => ?_)
      · refine JC_seq ?_
        refine JC_region ?_
        refine JL_v (vo_move rfl) nofun (by decide) ?_
        refine JL_v (vo_assign rfl) nofun (by decide) ?_
        refine JL_v (vo_assign rfl) nofun (by decide) ?_
        refine JL_nil ?_
        refine JX_then ?_
        refine JC_ret ?_
        refine JX_then_ret ?_
        refine JX_block_ret ?_
        refine JX_then_ret ?_
        refine JX_thenK_ret ?_
        refine JX_block_ret ?_
        refine JX_then_ret ?_
        refine ret2 rfl rfl rfl ?_
        intro w1 hM; refine SC_end hM ?_; rw [← hinv, hdrop]; simp_all [rchkL] <;> grind
      · have hl64 : level ≤ 63 := by simp at hc37; omega
        refine JC_skip ?_
        refine JX_then ?_
        refine JC_seq ?_
        refine JC_region ?_
        refine JL_v (vo_fieldAddr rfl fo30_0) nofun (by decide) ?_
        refine JL_v (vo_load rfl (by first | exact .frz ‹_› | exact .own (by repeat (first | exact .head _ | refine .tail _ ?_))) (by first | exact .cell Try.underlying9 rfl rfl | exact pn_all ‹_› | exact pn_val (node_self _ _ _ _) | exact pn_marks (node_self _ _ _ _) | exact pn_name ‹_›)) nofun (by decide) ?_
        refine st_scall rfl en104 (by decide) (fun w hw => check3_spec _ (by omega) w) ?_
        rintro _ rfl
        refine JL_v (vo_assign rfl) nofun (by decide) ?_
        refine JL_nil ?_
        refine JX_then ?_
        refine JC_seq ?_
        refine JC_seq ?_
        refine JC_joinB 59 (nameB nk.name && notUp' (prevOf ks i) nk.name) ?_ ?_
        · refine JC_drawM 18 (by kernel_rfl) (fun w hw => Mem.drew hw) ?_
          refine JR_v (i := 0) rfl (by kernel_rfl) (by kernel_rfl) rfl (by kernel_rfl) (by kernel_rfl) (panic_then (panic_Then (panic_Then (panic_block (panic_Then (panic_then (panic_block (panic_Then panic_body)))))))) (by decide) (vo_move rfl) (fun w hw => hw) ?_
          refine JR_v (i := 1) rfl (by kernel_rfl) (by kernel_rfl) rfl (by kernel_rfl) (by kernel_rfl) (panic_then (panic_Then (panic_Then (panic_block (panic_Then (panic_then (panic_block (panic_Then panic_body)))))))) (by decide) (vo_cmp rfl rfl rfl) (fun w hw => hw) ?_
          refine JR_v (i := 2) rfl (by kernel_rfl) (by kernel_rfl) rfl (by kernel_rfl) (by kernel_rfl) (panic_then (panic_Then (panic_Then (panic_block (panic_Then (panic_then (panic_block (panic_Then panic_body)))))))) (by decide) (vo_move rfl) (fun w hw => hw) ?_
          refine JR_case 44 rfl (fun hg44 => ?_) (fun hg44 => ?_)
          · refine JR_vy (i := 3) rfl rfl rfl (by kernel_rfl) (by kernel_rfl) rfl (by kernel_rfl) (by kernel_rfl) (panic_then (panic_Then (panic_Then (panic_block (panic_Then (panic_then (panic_block (panic_Then panic_body)))))))) (by decide) (vo_move rfl) (fun w hw => hw) ?_
            refine JR_vy (i := 4) rfl rfl rfl (by kernel_rfl) (by kernel_rfl) rfl (by kernel_rfl) (by kernel_rfl) (panic_then (panic_Then (panic_Then (panic_block (panic_Then (panic_then (panic_block (panic_Then panic_body)))))))) (by decide) (vo_cmp rfl rfl rfl) (fun w hw => hw) ?_
            refine JR_v (i := 5) rfl (by kernel_rfl) (by kernel_rfl) rfl (by kernel_rfl) (by kernel_rfl) (panic_then (panic_Then (panic_Then (panic_block (panic_Then (panic_then (panic_block (panic_Then panic_body)))))))) (by decide) (vo_pick rfl rfl) (fun w hw => hw) ?_
            refine JR_v (i := 6) rfl (by kernel_rfl) (by kernel_rfl) rfl (by kernel_rfl) (by kernel_rfl) (panic_then (panic_Then (panic_Then (panic_block (panic_Then (panic_then (panic_block (panic_Then panic_body)))))))) (by decide) (vo_move rfl) (fun w hw => hw) ?_
            refine JR_case 48 rfl (fun hg48 => ?_) (fun hg48 => ?_)
            · have hi0 : 0 < i := by simp at hg48; grind
              obtain ⟨np, hnp⟩ : ∃ np, ks[i - 1]? = some np := ⟨_, List.getElem?_eq_getElem (by omega)⟩
              obtain ⟨b2', o2', c2', cs2', te2, fr2, kk2, hv2, hfb2, hseg2, hkk2⟩ := hr.at_ hnp
              have hseg3 : SegAt cs2' (o2' + ((i : Int) - 1).toNat * 41) (ndC np kk2) := by rw [show ((i : Int) - 1).toNat = i - 1 by omega]; exact hseg2
              clear hseg2
              cases hv2
              have hprev : prevOf ks i = some np.name := by unfold prevOf; rw [if_neg (by omega), hnp]; rfl
              refine JR_vy (i := 7) rfl rfl rfl (by kernel_rfl) (by kernel_rfl) rfl (by kernel_rfl) (by kernel_rfl) (panic_then (panic_Then (panic_Then (panic_block (panic_Then (panic_then (panic_block (panic_Then panic_body)))))))) (by decide) (vo_fieldAddr rfl fo30_3) (fun w hw => hw) ?_
              refine JR_vy (i := 8) rfl rfl rfl (by kernel_rfl) (by kernel_rfl) rfl (by kernel_rfl) (by kernel_rfl) (panic_then (panic_Then (panic_Then (panic_block (panic_Then (panic_then (panic_block (panic_Then panic_body)))))))) (by decide) (vo_load rfl (by first | exact .frz ‹_› | exact .own (by repeat (first | exact .head _ | refine .tail _ ?_))) (by first | exact .cell Try.underlying28 rfl rfl | exact pn_all ‹_› | exact pn_val (node_self _ _ _ _) | exact pn_marks (node_self _ _ _ _) | exact pn_name ‹_›)) (fun w hw => hw) ?_
              refine JR_vy (i := 9) rfl rfl rfl (by kernel_rfl) (by kernel_rfl) rfl (by kernel_rfl) (by kernel_rfl) (panic_then (panic_Then (panic_Then (panic_block (panic_Then (panic_then (panic_block (panic_Then panic_body)))))))) (by decide) (vo_move rfl) (fun w hw => hw) ?_
              refine JR_vy (i := 10) rfl rfl rfl (by kernel_rfl) (by kernel_rfl) rfl (by kernel_rfl) (by kernel_rfl) (panic_then (panic_Then (panic_Then (panic_block (panic_Then (panic_then (panic_block (panic_Then panic_body)))))))) (by decide) (vo_sub rfl rfl (by omega) (by omega)) (fun w hw => hw) ?_
              refine JR_vy (i := 11) rfl rfl rfl (by kernel_rfl) (by kernel_rfl) rfl (by kernel_rfl) (by kernel_rfl) (panic_then (panic_Then (panic_Then (panic_block (panic_Then (panic_then (panic_block (panic_Then panic_body)))))))) (by decide) (vo_indexAddr rfl rfl Try.underlying28 sz30 (by omega) (by omega)) (fun w hw => hw) ?_
              refine JR_vy (i := 12) rfl rfl rfl (by kernel_rfl) (by kernel_rfl) rfl (by kernel_rfl) (by kernel_rfl) (panic_then (panic_Then (panic_Then (panic_block (panic_Then (panic_then (panic_block (panic_Then panic_body)))))))) (by decide) (vo_fieldAddr rfl fo30_0) (fun w hw => hw) ?_
              refine JR_vy (i := 13) rfl rfl rfl (by kernel_rfl) (by kernel_rfl) rfl (by kernel_rfl) (by kernel_rfl) (panic_then (panic_Then (panic_Then (panic_block (panic_Then (panic_then (panic_block (panic_Then panic_body)))))))) (by decide) (vo_load rfl (by first | exact .frz ‹_› | exact .own (by repeat (first | exact .head _ | refine .tail _ ?_))) (by first | exact .cell Try.underlying9 rfl rfl | exact pn_all ‹_› | exact pn_val (node_self _ _ _ _) | exact pn_marks (node_self _ _ _ _) | exact pn_name ‹_›)) (fun w hw => hw) ?_
              refine JR_vy (i := 14) rfl rfl rfl (by kernel_rfl) (by kernel_rfl) rfl (by kernel_rfl) (by kernel_rfl) (panic_then (panic_Then (panic_Then (panic_block (panic_Then (panic_then (panic_block (panic_Then panic_body)))))))) (by decide) (vo_fieldAddr rfl fo30_0) (fun w hw => hw) ?_
              refine JR_vy (i := 15) rfl rfl rfl (by kernel_rfl) (by kernel_rfl) rfl (by kernel_rfl) (by kernel_rfl) (panic_then (panic_Then (panic_Then (panic_block (panic_Then (panic_then (panic_block (panic_Then panic_body)))))))) (by decide) (vo_load rfl (by first | exact .frz ‹_› | exact .own (by repeat (first | exact .head _ | refine .tail _ ?_))) (by first | exact .cell Try.underlying9 rfl rfl | exact pn_all ‹_› | exact pn_val (node_self _ _ _ _) | exact pn_marks (node_self _ _ _ _) | exact pn_name ‹_›)) (fun w hw => hw) ?_
              refine JR_vy (i := 16) rfl rfl rfl (by kernel_rfl) (by kernel_rfl) rfl (by kernel_rfl) (by kernel_rfl) (panic_then (panic_Then (panic_Then (panic_block (panic_Then (panic_then (panic_block (panic_Then panic_body)))))))) (by decide) (vo_scmp rfl rfl rfl) (fun w hw => hw) ?_
              refine JR_v (i := 17) rfl (by kernel_rfl) (by kernel_rfl) rfl (by kernel_rfl) (by kernel_rfl) (panic_then (panic_Then (panic_Then (panic_block (panic_Then (panic_then (panic_block (panic_Then panic_body)))))))) (by decide) (vo_pick rfl rfl) (fun w hw => hw) ?_
              refine JR_done (by kernel_rfl) ?_
              refine JX_joinB _ ⟨rfl, (by repeat (first | exact trivial | refine ⟨rfl, ?_⟩ | refine ⟨trivial, ?_⟩))⟩ ?_
              simp_all [notUp', prevOf] <;> first | omega | grind
            · refine JR_vn (i := 7) rfl rfl rfl (by kernel_rfl) (by kernel_rfl) rfl (by kernel_rfl) (by kernel_rfl) (panic_then (panic_Then (panic_Then (panic_block (panic_Then (panic_then (panic_block (panic_Then panic_body)))))))) (by decide) (fun w hw => hw) ?_
              refine JR_vn (i := 8) rfl rfl rfl (by kernel_rfl) (by kernel_rfl) rfl (by kernel_rfl) (by kernel_rfl) (panic_then (panic_Then (panic_Then (panic_block (panic_Then (panic_then (panic_block (panic_Then panic_body)))))))) (by decide) (fun w hw => hw) ?_
              refine JR_vn (i := 9) rfl rfl rfl (by kernel_rfl) (by kernel_rfl) rfl (by kernel_rfl) (by kernel_rfl) (panic_then (panic_Then (panic_Then (panic_block (panic_Then (panic_then (panic_block (panic_Then panic_body)))))))) (by decide) (fun w hw => hw) ?_
              refine JR_vn (i := 10) rfl rfl rfl (by kernel_rfl) (by kernel_rfl) rfl (by kernel_rfl) (by kernel_rfl) (panic_then (panic_Then (panic_Then (panic_block (panic_Then (panic_then (panic_block (panic_Then panic_body)))))))) (by decide) (fun w hw => hw) ?_
              refine JR_vn (i := 11) rfl rfl rfl (by kernel_rfl) (by kernel_rfl) rfl (by kernel_rfl) (by kernel_rfl) (panic_then (panic_Then (panic_Then (panic_block (panic_Then (panic_then (panic_block (panic_Then panic_body)))))))) (by decide) (fun w hw => hw) ?_
              refine JR_vn (i := 12) rfl rfl rfl (by kernel_rfl) (by kernel_rfl) rfl (by kernel_rfl) (by kernel_rfl) (panic_then (panic_Then (panic_Then (panic_block (panic_Then (panic_then (panic_block (panic_Then panic_body)))))))) (by decide) (fun w hw => hw) ?_
              refine JR_vn (i := 13) rfl rfl rfl (by kernel_rfl) (by kernel_rfl) rfl (by kernel_rfl) (by kernel_rfl) (panic_then (panic_Then (panic_Then (panic_block (panic_Then (panic_then (panic_block (panic_Then panic_body)))))))) (by decide) (fun w hw => hw) ?_
              refine JR_vn (i := 14) rfl rfl rfl (by kernel_rfl) (by kernel_rfl) rfl (by kernel_rfl) (by kernel_rfl) (panic_then (panic_Then (panic_Then (panic_block (panic_Then (panic_then (panic_block (panic_Then panic_body)))))))) (by decide) (fun w hw => hw) ?_
              refine JR_vn (i := 15) rfl rfl rfl (by kernel_rfl) (by kernel_rfl) rfl (by kernel_rfl) (by kernel_rfl) (panic_then (panic_Then (panic_Then (panic_block (panic_Then (panic_then (panic_block (panic_Then panic_body)))))))) (by decide) (fun w hw => hw) ?_
              refine JR_vn (i := 16) rfl rfl rfl (by kernel_rfl) (by kernel_rfl) rfl (by kernel_rfl) (by kernel_rfl) (panic_then (panic_Then (panic_Then (panic_block (panic_Then (panic_then (panic_block (panic_Then panic_body)))))))) (by decide) (fun w hw => hw) ?_
              refine JR_v (i := 17) rfl (by kernel_rfl) (by kernel_rfl) rfl (by kernel_rfl) (by kernel_rfl) (panic_then (panic_Then (panic_Then (panic_block (panic_Then (panic_then (panic_block (panic_Then panic_body)))))))) (by decide) (vo_pick rfl rfl) (fun w hw => hw) ?_
              refine JR_done (by kernel_rfl) ?_
              refine JX_joinB _ ⟨rfl, (by repeat (first | exact trivial | refine ⟨rfl, ?_⟩ | refine ⟨trivial, ?_⟩))⟩ ?_
              simp_all [notUp', prevOf] <;> first | omega | grind
          · refine JR_vn (i := 3) rfl rfl rfl (by kernel_rfl) (by kernel_rfl) rfl (by kernel_rfl) (by kernel_rfl) (panic_then (panic_Then (panic_Then (panic_block (panic_Then (panic_then (panic_block (panic_Then panic_body)))))))) (by decide) (fun w hw => hw) ?_
            refine JR_vn (i := 4) rfl rfl rfl (by kernel_rfl) (by kernel_rfl) rfl (by kernel_rfl) (by kernel_rfl) (panic_then (panic_Then (panic_Then (panic_block (panic_Then (panic_then (panic_block (panic_Then panic_body)))))))) (by decide) (fun w hw => hw) ?_
            refine JR_v (i := 5) rfl (by kernel_rfl) (by kernel_rfl) rfl (by kernel_rfl) (by kernel_rfl) (panic_then (panic_Then (panic_Then (panic_block (panic_Then (panic_then (panic_block (panic_Then panic_body)))))))) (by decide) (vo_pick rfl rfl) (fun w hw => hw) ?_
            refine JR_v (i := 6) rfl (by kernel_rfl) (by kernel_rfl) rfl (by kernel_rfl) (by kernel_rfl) (panic_then (panic_Then (panic_Then (panic_block (panic_Then (panic_then (panic_block (panic_Then panic_body)))))))) (by decide) (vo_move rfl) (fun w hw => hw) ?_
            refine JR_vn (i := 7) rfl rfl rfl (by kernel_rfl) (by kernel_rfl) rfl (by kernel_rfl) (by kernel_rfl) (panic_then (panic_Then (panic_Then (panic_block (panic_Then (panic_then (panic_block (panic_Then panic_body)))))))) (by decide) (fun w hw => hw) ?_
            refine JR_vn (i := 8) rfl rfl rfl (by kernel_rfl) (by kernel_rfl) rfl (by kernel_rfl) (by kernel_rfl) (panic_then (panic_Then (panic_Then (panic_block (panic_Then (panic_then (panic_block (panic_Then panic_body)))))))) (by decide) (fun w hw => hw) ?_
            refine JR_vn (i := 9) rfl rfl rfl (by kernel_rfl) (by kernel_rfl) rfl (by kernel_rfl) (by kernel_rfl) (panic_then (panic_Then (panic_Then (panic_block (panic_Then (panic_then (panic_block (panic_Then panic_body)))))))) (by decide) (fun w hw => hw) ?_
            refine JR_vn (i := 10) rfl rfl rfl (by kernel_rfl) (by kernel_rfl) rfl (by kernel_rfl) (by kernel_rfl) (panic_then (panic_Then (panic_Then (panic_block (panic_Then (panic_then (panic_block (panic_Then panic_body)))))))) (by decide) (fun w hw => hw) ?_
            refine JR_vn (i := 11) rfl rfl rfl (by kernel_rfl) (by kernel_rfl) rfl (by kernel_rfl) (by kernel_rfl) (panic_then (panic_Then (panic_Then (panic_block (panic_Then (panic_then (panic_block (panic_Then panic_body)))))))) (by decide) (fun w hw => hw) ?_
            refine JR_vn (i := 12) rfl rfl rfl (by kernel_rfl) (by kernel_rfl) rfl (by kernel_rfl) (by kernel_rfl) (panic_then (panic_Then (panic_Then (panic_block (panic_Then (panic_then (panic_block (panic_Then panic_body)))))))) (by decide) (fun w hw => hw) ?_
            refine JR_vn (i := 13) rfl rfl rfl (by kernel_rfl) (by kernel_rfl) rfl (by kernel_rfl) (by kernel_rfl) (panic_then (panic_Then (panic_Then (panic_block (panic_Then (panic_then (panic_block (panic_Then panic_body)))))))) (by decide) (fun w hw => hw) ?_
            refine JR_vn (i := 14) rfl rfl rfl (by kernel_rfl) (by kernel_rfl) rfl (by kernel_rfl) (by kernel_rfl) (panic_then (panic_Then (panic_Then (panic_block (panic_Then (panic_then (panic_block (panic_Then panic_body)))))))) (by decide) (fun w hw => hw) ?_
            refine JR_vn (i := 15) rfl rfl rfl (by kernel_rfl) (by kernel_rfl) rfl (by kernel_rfl) (by kernel_rfl) (panic_then (panic_Then (panic_Then (panic_block (panic_Then (panic_then (panic_block (panic_Then panic_body)))))))) (by decide) (fun w hw => hw) ?_
            refine JR_vn (i := 16) rfl rfl rfl (by kernel_rfl) (by kernel_rfl) rfl (by kernel_rfl) (by kernel_rfl) (panic_then (panic_Then (panic_Then (panic_block (panic_Then (panic_then (panic_block (panic_Then panic_body)))))))) (by decide) (fun w hw => hw) ?_
            refine JR_v (i := 17) rfl (by kernel_rfl) (by kernel_rfl) rfl (by kernel_rfl) (by kernel_rfl) (panic_then (panic_Then (panic_Then (panic_block (panic_Then (panic_then (panic_block (panic_Then panic_body)))))))) (by decide) (vo_pick rfl rfl) (fun w hw => hw) ?_
            refine JR_done (by kernel_rfl) ?_
            refine JX_joinB _ ⟨rfl, (by repeat (first | exact trivial | refine ⟨rfl, ?_⟩ | refine ⟨trivial, ?_⟩))⟩ ?_
            simp_all [notUp', prevOf] <;> first | omega | grind
        · refine JX_then ?_
          refine JC_joinV [(11, .int .i64 (if nameB nk.name = false then 30 else if notUp' (prevOf ks i) nk.name = true then 42 else 0 : Int))] ?_ ?_
          · refine JC_cond _ rfl (fun hc59 => ?_) (fun hc59 => ?_)
            · refine JC_region ?_
              refine JL_v (vo_assign rfl) nofun (by decide) ?_
              refine JL_nil ?_
              refine JX_joinV [(11, _)] (by repeat (first | exact trivial | refine ⟨rfl, ?_⟩ | refine ⟨trivial, ?_⟩)) ?_
              simp_all <;> grind
            · refine JC_skip ?_
              refine JX_joinV [(11, _)] (by repeat (first | exact trivial | refine ⟨rfl, ?_⟩ | refine ⟨trivial, ?_⟩)) ?_
              simp_all <;> grind
          · refine JX_then ?_
            refine JC_seq ?_
            refine JC_seq ?_
            refine JC_region ?_
            refine JL_v (vo_move rfl) nofun (by decide) ?_
            refine JL_v (vo_cmp rfl rfl rfl) nofun (by decide) ?_
            refine JL_nil ?_
            refine JX_then ?_
            refine JC_joinV [(11, .int .i64 (if (if nameB nk.name = false then 30 else if notUp' (prevOf ks i) nk.name = true then 42 else 0 : Int) = 0 then ownB nk.val nk.marks nk.kids.length else (if nameB nk.name = false then 30 else if notUp' (prevOf ks i) nk.name = true then 42 else 0 : Int) : Int))] ?_ ?_
            · refine JC_cond _ rfl (fun hc61 => ?_) (fun hc61 => ?_)
              · refine JC_region ?_
                refine JL_v (vo_fieldAddr rfl fo30_1) nofun (by decide) ?_
                refine JL_v (vo_load rfl (by first | exact .frz ‹_› | exact .own (by repeat (first | exact .head _ | refine .tail _ ?_))) (by first | exact PartAt.whole Try.underlying24 rfl sz24 | exact pn_all ‹_› | exact pn_val (node_self _ _ _ _) | exact pn_marks (node_self _ _ _ _) | exact pn_name ‹_›)) nofun (by decide) ?_
                refine JL_v (vo_fieldAddr rfl fo30_2) nofun (by decide) ?_
                refine JL_v (vo_load rfl (by first | exact .frz ‹_› | exact .own (by repeat (first | exact .head _ | refine .tail _ ?_))) (by first | exact PartAt.whole Try.underlying27 rfl sz27 | exact pn_all ‹_› | exact pn_val (node_self _ _ _ _) | exact pn_marks (node_self _ _ _ _) | exact pn_name ‹_›)) nofun (by decide) ?_
                refine JL_v (vo_fieldAddr rfl fo30_3) nofun (by decide) ?_
                refine JL_v (vo_load rfl (by first | exact .frz ‹_› | exact .own (by repeat (first | exact .head _ | refine .tail _ ?_))) (by first | exact .cell Try.underlying28 rfl rfl | exact pn_all ‹_› | exact pn_val (node_self _ _ _ _) | exact pn_marks (node_self _ _ _ _) | exact pn_name ‹_›)) nofun (by decide) ?_
                refine JL_v (vo_len rfl Try.underlying28) nofun (by decide) ?_
                refine st_scall rfl en60 (by decide) (fun w hw => own_spec _ _ _ w) ?_
                rintro _ rfl
                refine JL_v (vo_assign rfl) nofun (by decide) ?_
                refine JL_nil ?_
                refine JX_joinV [(11, _)] (by repeat (first | exact trivial | refine ⟨rfl, ?_⟩ | refine ⟨trivial, ?_⟩)) ?_
                simp_all [Nd.val] <;> grind
              · refine JC_skip ?_
                refine JX_joinV [(11, _)] (by repeat (first | exact trivial | refine ⟨rfl, ?_⟩ | refine ⟨trivial, ?_⟩)) ?_
                simp_all [Nd.val] <;> grind
            · refine JX_then ?_
              refine JC_seq ?_
              refine JC_seq ?_
              refine JC_region ?_
              refine JL_v (vo_move rfl) nofun (by decide) ?_
              refine JL_v (vo_cmp rfl rfl rfl) nofun (by decide) ?_
              refine JL_nil ?_
              refine JX_then ?_
              refine JC_cond _ rfl (fun hc71 => ?_) (fun hc71 => ?_)
              · refine JC_seq ?_
                refine JC_region ?_
                refine JL_v (vo_move rfl) nofun (by decide) ?_
                refine JL_v (vo_move rfl) nofun (by decide) ?_
                refine JL_v (vo_assign rfl) nofun (by decide) ?_
                refine JL_v (vo_assign rfl) nofun (by decide) ?_
                refine JL_nil ?_
                refine JX_then ?_
                refine JC_ret ?_
                refine JX_then_ret ?_
                refine JX_block_ret ?_
                refine JX_then_ret ?_
                refine JX_thenK_ret ?_
                refine JX_block_ret ?_
                refine JX_then_ret ?_
                refine ret2 rfl rfl rfl ?_
                intro w1 hM; refine SC_end hM ?_; rw [← hinv, hdrop]; simp_all [rchkL] <;> grind
              · refine JC_skip ?_
                refine JX_then ?_
                refine JC_seq ?_
                refine JC_region ?_
                refine JL_v (vo_load rfl (by first | exact .frz ‹_› | exact .own (by repeat (first | exact .head _ | refine .tail _ ?_))) (by first | exact PartAt.whole Try.underlying30 rfl sz30 | exact pn_all ‹_› | exact pn_val (node_self _ _ _ _) | exact pn_marks (node_self _ _ _ _) | exact pn_name ‹_›)) nofun (by decide) ?_
                refine JL_v (vo_move rfl) nofun (by decide) ?_
                refine JL_v (vo_move rfl) nofun (by decide) ?_
                refine JL_v (vo_add rfl rfl (by omega) (by omega)) nofun (by decide) ?_
                refine st_scall rfl en61 (by decide) (fun w hw => hks nk hmem _ _ _ w (by omega) (by omega) (by have := joinP_size p level nk.name; omega) (hkk.ext hw.ext_all)) ?_
                rintro _ rfl
                refine JL_v (vo_move rfl) nofun (by decide) ?_
                refine JL_v (vo_extract rfl rfl) nofun (by decide) ?_
                refine JL_v (vo_extract rfl rfl) nofun (by decide) ?_
                refine JL_v (vo_assign rfl) nofun (by decide) ?_
                refine JL_v (vo_assign rfl) nofun (by decide) ?_
                refine JL_nil ?_
                refine JX_then ?_
                refine JC_seq ?_
                refine JC_region ?_
                refine JL_v (vo_move rfl) nofun (by decide) ?_
                refine JL_v (vo_cmp rfl rfl rfl) nofun (by decide) ?_
                refine JL_nil ?_
                refine JX_then ?_
                refine JC_cond _ rfl (fun hc83 => ?_) (fun hc83 => ?_)
                · refine JC_seq ?_
                  refine JC_region ?_
                  refine JL_v (vo_move rfl) nofun (by decide) ?_
                  refine JL_v (vo_move rfl) nofun (by decide) ?_
                  refine JL_v (vo_assign rfl) nofun (by decide) ?_
                  refine JL_v (vo_assign rfl) nofun (by decide) ?_
                  refine JL_nil ?_
                  refine JX_then ?_
                  refine JC_ret ?_
                  refine JX_block_ret ?_
                  refine JX_then_ret ?_
                  refine JX_thenK_ret ?_
                  refine JX_block_ret ?_
                  refine JX_then_ret ?_
                  refine ret2 rfl rfl rfl ?_
                  intro w1 hM; refine SC_end hM ?_; rw [← hinv, hdrop]; simp_all [rchkL] <;> grind
                · refine JC_skip ?_
                  refine JX_block ?_
                  refine JX_then ?_
                  refine JC_region ?_
                  refine JL_v (vo_move rfl) nofun (by decide) ?_
                  refine JL_v (vo_add rfl rfl (by omega) (by omega)) nofun (by decide) ?_
                  refine JL_v (vo_assign rfl) nofun (by decide) ?_
                  refine JL_nil ?_
                  refine JX_loop ⟨i + 1, hil, ?_⟩ (by show ks.length - (i + 1) < ks.length - i; omega) (by repeat (first | exact trivial | refine ⟨rfl, ?_⟩ | refine ⟨trivial, ?_⟩)) (fun w hw => hw.sub (List.sublist_cons_self _ _))
                  rw [prevOf_succ hnk, ← hinv, hdrop]
                  simp_all [rchkL] <;> grind
  · refine JC_exit ?_
    refine JX_then_exit ?_
    refine JX_thenK_exit ?_
    refine JX_block_exit ?_
    refine JX_then ?_
    refine JC_seq ?_
    refine JC_region ?_
    refine JL_v (vo_assign rfl) nofun (by decide) ?_
    refine JL_v (vo_assign rfl) nofun (by decide) ?_
    refine JL_nil ?_
    refine JX_then ?_
    refine JC_ret ?_
    refine ret2 rfl rfl rfl ?_
    intro w1 hM; refine SC_end hM ?_; rw [← hinv]; have : i = ks.length := (by simp at hc18; omega); simp [this, rchkL]

end Go.Eng
