/-
  Part of the proofs over this seat: D11 D12 W18. Own work; imports the kit.
-/
import Derived.Test.YtdcafpemkpcmpaaWalk7
set_option linter.unusedVariables false
set_option linter.unusedSimpArgs false
namespace Go.Eng
open Go Go.RowKit Go.Proofs
theorem bl_not : ∀ x y : List UInt8, (!Op.bytesLess x y) = (Op.bytesLess y x || (y == x))
  | [], [] => by simp [Op.bytesLess]
  | [], _ :: _ => by simp [Op.bytesLess]
  | _ :: _, [] => by simp [Op.bytesLess]
  | a :: x, b :: y => by
    have ih := bl_not x y
    simp only [Op.bytesLess, List.cons_beq_cons]
    rcases Nat.lt_trichotomy a.toNat b.toNat with h | h | h
    · have h1 : a < b := UInt8.lt_iff_toNat_lt.2 h
      have h2 : ¬ b < a := fun h => by have := UInt8.lt_iff_toNat_lt.1 h; omega
      have h3 : ¬ b = a := fun e => by subst e; omega
      simp [h1, h2, h3]
    · have h3 : b = a := UInt8.toNat_inj.1 h.symm
      subst h3
      have h1 : ¬ b < b := fun h => by have := UInt8.lt_iff_toNat_lt.1 h; omega
      simpa [h1] using ih
    · have h1 : b < a := UInt8.lt_iff_toNat_lt.2 h
      have h2 : ¬ a < b := fun h => by have := UInt8.lt_iff_toNat_lt.1 h; omega
      have h3 : ¬ a = b := fun e => by subst e; omega
      simp [h1, h2, h3]
theorem notUp_eq (prev : Option ByteArray) (n : ByteArray) : notUp prev n = notUp' prev n := by
  cases prev with
  | none => rfl
  | some q => simp only [notUp, notUp', blt, beq, bl_not]
theorem mk2Eq_zero {m : Mk2} (h : mk2Eq m ⟨⟨0, 0⟩, ⟨0, 0⟩⟩ = true) : markB m.a = true ∧ markB m.b = true := by
  simp only [mk2Eq, Bool.and_eq_true] at h
  simp [markB, h.1, h.2]
theorem ownB_eq (v : Val) (m : Mk2) (n : Int) : ownB v m n = if kindBad v n then 40 else possB v m := by
  unfold ownB kindBad
  split
  · rfl
  · rename_i h
    simp only [Bool.or_eq_true, decide_eq_true_eq, Bool.and_eq_true, not_or, not_and, bne_iff_ne] at h
    have hk : v.kind = 1 ∨ v.kind = 2 ∨ v.kind = 3 := by omega
    have hz := @mk2Eq_zero m
    unfold possB rightB
    generalize markB m.a = A at *
    generalize markB m.b = B at *
    generalize mk2Eq m ⟨⟨0, 0⟩, ⟨0, 0⟩⟩ = C at *
    generalize sumEq v.sum (fun _ => 0) = S
    rcases hk with hk | hk | hk
    · simp only [hk, if_true]
      generalize decide (0 ≤ v.mode) = d1
      generalize decide (v.mode ≤ 8) = d2
      generalize decide (v.size = 0) = d3
      cases A <;> cases B <;> cases C <;> cases S <;> cases d1 <;> cases d2 <;> cases d3 <;> simp_all
    · simp only [hk, show ¬ (2 : Int) = 1 by decide, if_false, if_true]
      generalize decide (0 ≤ v.mode) = d1
      generalize decide (v.mode ≤ 8) = d2
      generalize decide (0 ≤ v.size) = d3
      generalize decide (v.size ≤ 1099511627775) = d4
      cases A <;> cases B <;> cases C <;> cases d1 <;> cases d2 <;> cases d3 <;> cases d4 <;> simp_all
    · simp only [hk, show ¬ (3 : Int) = 1 by decide, show ¬ (3 : Int) = 2 by decide, if_false, if_true]
      generalize decide (v.mode = 0) = d1
      generalize decide (1 ≤ v.size) = d2
      generalize decide (v.size ≤ 4095) = d3
      cases A <;> cases B <;> cases C <;> cases d1 <;> cases d2 <;> cases d3 <;> simp_all
theorem possB_ne {v : Val} {m : Mk2} : possB v m = 0 ∨ possB v m = 40 ∨ possB v m = 41 := by
  unfold possB
  split
  · split <;> simp
  · split
    · split <;> simp
    · split
      · split <;> simp
      · simp
mutual
/-- the two checks answer alike -/
theorem chk_rchk : ∀ (nd : Nd) (p : ByteArray) (level : Int), level ≤ 64 → chk nd p level = if ownB nd.val nd.marks nd.kids.length ≠ 0 then (p, ownB nd.val nd.marks nd.kids.length) else rchk nd p level
  | .mk nm v m ks, p, level, hl => by
    have ih := chkL_rchkL ks none p level hl
    simp only [chk, rchk, Nd.val, Nd.marks, Nd.kids, ownB_eq]
    cases hk : kindBad v ks.length with
    | true => simp
    | false =>
      simp only [Bool.false_eq_true, if_false]
      split
      · simp_all
      · simp_all
theorem chkL_rchkL : ∀ (ks : List Nd) (prev : Option ByteArray) (p : ByteArray) (level : Int), level ≤ 64 → chkL ks prev p level = rchkL ks prev p level
  | [], _, _, _, _ => rfl
  | k :: ks, prev, p, level, hl => by
    simp only [chkL, rchkL]
    by_cases h64 : level = 64
    · rw [if_pos h64, if_pos (show level + 1 > 64 by omega)]
    · rw [if_neg h64, if_neg (show ¬ level + 1 > 64 by omega), notUp_eq]
      have ih := chk_rchk k (joinP p level k.name) (level + 1) (by omega)
      have ih2 := chkL_rchkL ks (some k.name) p level hl
      split
      · rfl
      · split
        · rfl
        · rw [ih, ih2]
          by_cases ho : ownB k.val k.marks k.kids.length = 0
          · simp [ho]
          · simp [ho]
end
theorem chk0_eq (nd : Nd) : chk0 nd = rchk0 nd := by
  rw [chk0, rchk0, chk_rchk nd _ 0 (by omega)]
theorem kind_of_own {v : Val} {m : Mk2} {n : Int} (h : ownB v m n = 0) : v.kind ≠ 0 := by
  rw [ownB_eq] at h
  split at h
  · cases h
  · rename_i hk
    simp only [kindBad, Bool.or_eq_true, decide_eq_true_eq, not_or] at hk
    omega
mutual
theorem rcount_rchk : ∀ (nd : Nd) (p : ByteArray) (level : Int), ownB nd.val nd.marks nd.kids.length = 0 → (rchk nd p level).2 = 0 → rcount nd = (trOf nd).count
  | .mk nm v m ks, p, level, ho, h => by
    have hk := kind_of_own ho
    simp only [Nd.val] at hk
    have ih := rcountL_rchk ks none p level (by simpa [rchk] using h)
    simp only [rcount, hk, if_false, trOf, Tr.count, ih.1]
    omega
theorem rcountL_rchk : ∀ (ks : List Nd) (prev : Option ByteArray) (p : ByteArray) (level : Int), (rchkL ks prev p level).2 = 0 → rcountL ks = cntL (trsOf ks) ∧ ∀ k ∈ ks, rcount k = (trOf k).count
  | [], _, _, _, _ => by simp [rcountL, trsOf, cntL]
  | k :: ks, prev, p, level, h => by
    simp only [rchkL] at h
    split at h
    · simp at h
    · split at h
      · simp at h
      · split at h
        · simp at h
        · split at h
          · rename_i ho; exact absurd h ho
          · rename_i ho
            split at h
            · rename_i hr; exact absurd h hr
            · rename_i hr
              have h1 := rcount_rchk k _ _ (by simpa using ho) (by simpa using hr)
              have h2 := rcountL_rchk ks _ _ _ h
              refine ⟨by simp only [rcountL, trsOf, cntL, h1, h2.1]; omega, fun x hx => ?_⟩
              rcases List.mem_cons.1 hx with rfl | hx
              · exact h1
              · exact h2.2 x hx
end
theorem rcount_ok {nd : Nd} (h : (rchk0 nd).2 = 0) : ∀ k ∈ nd.kids, rcount k = (trOf k).count := by
  unfold rchk0 at h
  split at h
  · rename_i ho; exact absurd h ho
  · cases nd with
    | mk nm v m ks => exact (rcountL_rchk ks none _ _ (by simpa [rchk] using h)).2
end Go.Eng

set_option linter.unusedVariables false
set_option linter.unusedSimpArgs false
namespace Go.Eng
open Go Go.RowKit Go.Proofs
theorem RNds.one {Z : Nat → Prop} {w : World} {nd : Nd} {k : Value} {b : Nat} {te : TypeId} {fr : Nat × Nat} (hb : FB Z w b (.cells (ndC nd k).toArray te fr)) (hk : RNds Z w nd.kids k) : RNds Z w [nd] (.slice (some ⟨b, 0, none⟩) 1 1) :=
  RNds.mk (l := [nd]) (o := 0) (fun _ => k) (Nat.le_refl _) (by omega) hb (fun i x hx => by
    cases i with
    | zero => simp at hx; subst hx; simpa using SegAt.self (ndC nd k)
    | succ i => simp at hx) (fun i x hx => by
    cases i with
    | zero => simp at hx; subst hx; exact hk
    | succ i => simp at hx)
mutual
theorem rall_len : ∀ (nd : Nd) (p : ByteArray), (rall nd p).length = (trOf nd).count
  | .mk _ v m ks, p => by simp only [rall, trOf, Tr.count, List.length_cons, rallL_len ks p]; omega
theorem rallL_len : ∀ (ks : List Nd) (p : ByteArray), (rallL ks p).length = cntL (trsOf ks)
  | [], p => by simp [rallL, trsOf, cntL]
  | k :: ks, p => by simp only [rallL, trsOf, cntL, List.length_append, rall_len k, rallL_len ks]
end
theorem belowP_size (p n : ByteArray) : (belowP p n).size ≤ p.size + 1 + n.size := by
  unfold belowP
  split
  · omega
  · simp only [ByteArray.size_append, size47]; omega
mutual
theorem rall_size : ∀ (nd : Nd), NdOK nd → ∀ (p : ByteArray), ∀ x ∈ rall nd p, x.path.size ≤ p.size + 1048577 * (trOf nd).count
  | .mk nm v m ks, hok, p, x, hx => by
    rw [rall] at hx
    rcases List.mem_cons.1 hx with rfl | hx
    · show p.size ≤ _; omega
    · have := rallL_size ks (by cases hok with | mk _ _ hk => exact hk) p x hx
      simp only [trOf, Tr.count]; omega
theorem rallL_size : ∀ (ks : List Nd), (∀ k ∈ ks, NdOK k) → ∀ (p : ByteArray), ∀ x ∈ rallL ks p, x.path.size ≤ p.size + 1048577 + 1048577 * cntL (trsOf ks)
  | [], _, p, x, hx => by simp [rallL] at hx
  | k :: ks, hok, p, x, hx => by
    rw [rallL] at hx
    rcases List.mem_append.1 hx with hx | hx
    · have h1 := rall_size k (hok k (.head _)) _ x hx
      have h2 := belowP_size p k.name
      have h3 : k.name.size ≤ 1048576 := by cases hok k (.head _); assumption
      simp only [trsOf, cntL]; omega
    · have h1 := rallL_size ks (fun k hk => hok k (.tail _ hk)) p x hx
      simp only [trsOf, cntL]; omega
end
theorem same_take {nd : Nd} {m : Nat} (j : Nat) (x : ByteArray × Val) (y : RSpot) (hj : ((allT (trOf nd) ⟨#[]⟩).take m)[j]? = some x) (hk : (rall nd ⟨#[]⟩)[j]? = some y) : x.1 = y.path ∧ x.2 = y.val := by
  rw [List.getElem?_take] at hj
  split at hj
  · rw [← rall_all nd ⟨#[]⟩, List.getElem?_map, hk] at hj
    cases hj
    exact ⟨rfl, rfl⟩
  · cases hj
/-- what the walk law stands on -/
structure R12 (nd : Nd) (Zk : Nat → Prop) (wzk : World) where
  Z : Nat → Prop
  wz : World
  b11 : Nat
  b12 : Nat
  v54 : Value
  v56 : Value
  ext : Ext Zk wzk Z wz
  all : RItems Z wz 40 spotC (rall nd ⟨#[]⟩) v54
  names : RVals Z wz ((namesOf nd.kids).map strV) v56
structure AtL (Zk : Nat → Prop) (wzk : World) where
  k : Nat
  Z : Nat → Prop
  wz : World
  hk : k ≤ 3
  ext : Ext Zk wzk Z wz
theorem len_most {m : Int} {len l : Nat} (h : l = taken m len) : (m = 0 → (l : Int) = len) ∧ (0 < m → (l : Int) = if (len : Int) < m then (len : Int) else m) := by
  subst h
  unfold taken
  constructor
  · intro h; rw [if_pos (by omega)]
  · intro h; rw [if_neg (by omega)]; split <;> omega
def mostOf (k : Nat) (n : Int) : Int := if k = 1 then (if 1 > n then 1 else n) else 0
end Go.Eng

set_option linter.unusedVariables false
set_option linter.unusedSimpArgs false
namespace Go.Eng
open Go Go.RowKit Go.Proofs
theorem en11 : Enters Try.prog 11 := ⟨_, Try.func11, by kernel_rfl, by kernel_rfl⟩
theorem en13 : Enters Try.prog 13 := ⟨_, Try.func13, by kernel_rfl, by kernel_rfl⟩
theorem en19 : Enters Try.prog 19 := ⟨_, Try.func19, by kernel_rfl, by kernel_rfl⟩
theorem en20 : Enters Try.prog 20 := ⟨_, Try.func20, by kernel_rfl, by kernel_rfl⟩
theorem en21 : Enters Try.prog 21 := ⟨_, Try.func21, by kernel_rfl, by kernel_rfl⟩
theorem en22 : Enters Try.prog 22 := ⟨_, Try.func22, by kernel_rfl, by kernel_rfl⟩
theorem en9 : Enters Try.prog 9 := ⟨_, Try.func9, by kernel_rfl, by kernel_rfl⟩
theorem sz64 : (Try.prog.info? 64).map (·.size) = some 1 := by kernel_rfl
theorem sz67 : (Try.prog.info? 67).map (·.size) = some 1 := by kernel_rfl
theorem sz69 : (Try.prog.info? 69).map (·.size) = some 1 := by kernel_rfl
theorem sz71 : (Try.prog.info? 71).map (·.size) = some 1 := by kernel_rfl
theorem zr64 : (Try.prog.info? 64).bind (·.zero) = some (.nilFunc) := by kernel_rfl
theorem zr67 : (Try.prog.info? 67).bind (·.zero) = some (.nilFunc) := by kernel_rfl
theorem zr69 : (Try.prog.info? 69).bind (·.zero) = some (.slice none 0 0) := by kernel_rfl
theorem zr71 : (Try.prog.info? 71).bind (·.zero) = some (.slice none 0 0) := by kernel_rfl

theorem en25 : Enters Try.prog 25 := ⟨_, Try.func25, by kernel_rfl, by kernel_rfl⟩
theorem en26 : Enters Try.prog 26 := ⟨_, Try.func26, by kernel_rfl, by kernel_rfl⟩

set_option maxRecDepth 8000 in
set_option maxHeartbeats 1000000 in
theorem law4_spec (nd : Nd) (hok : NdOK nd) (hcnt : (trOf nd).count ≤ 100000000) (n : Int) (k : Value) (w : World) (hr : RNds (fun b => b < w.heap.size) w nd.kids k) : SCalls Try.prog 4 #[.agg (ndC nd k).toArray, .int .i64 n] w (fun u => u = .bool true) := by
  obtain ⟨A, c, rfl, hlen2⟩ := hr.slice
  have hok0 := hok
  obtain ⟨hnm, hkl, hkk⟩ := hok
  have hcnt2 : (trOf nd).count ≤ 1000000000000 := by omega
  have hxs : ∀ x ∈ rall nd ⟨#[]⟩, x.path.size ≤ 4611686018427387000 := fun x hx => by
    have := rall_size nd hok0 ⟨#[]⟩ x hx
    have h0 : (⟨#[]⟩ : ByteArray).size = 0 := rfl
    omega
  have hrl : (rall nd ⟨#[]⟩).length ≤ 100000000 := by rw [rall_len]; exact hcnt
  have hall := rall_all nd ⟨#[]⟩
  have hal : (allT (trOf nd) ⟨#[]⟩).length = (rall nd ⟨#[]⟩).length := by rw [← hall, List.length_map]
  have hal2 : (allT (trOf nd) ⟨#[]⟩).length ≤ 100000000 := by omega
  have hxs2 : ∀ (j : Nat) (p : ByteArray) (v : Val), (allT (trOf nd) ⟨#[]⟩)[j]? = some (p, v) → p.size ≤ 4611686018427387000 := fun j p v h => by
    rw [← hall, List.getElem?_map] at h
    obtain ⟨x, hx, he⟩ := Option.map_eq_some_iff.1 h
    cases he
    exact hxs x (List.mem_of_getElem? hx)
  have hnl : (namesOf nd.kids).length = nd.kids.length := by rw [namesOf_eq, List.length_map]
  have htl : (trsOf nd.kids).length = nd.kids.length := by rw [trsOf_eq, List.length_map]
  refine enter (N := 128) Try.func4 rfl Try.ntmps4 (Nat.le_of_ble_eq_true rfl) [(0, .agg (ndC nd (.slice A nd.kids.length c)).toArray), (1, .int .i64 n)] (by repeat (first | exact trivial | refine ⟨rfl, ?_⟩)) (Mem.start w (fun _ => False) (fun b => b < w.heap.size) (fun _ h => h)) ?_
  refine JC_seq ?_
  refine JC_region ?_
  refine st_box rfl (by decide) (fun b2 => ?_)
  refine JL_v (vo_assign rfl) nofun (by decide) ?_
  refine JL_nil ?_
  refine JX_then ?_
  refine JC_seq ?_
  refine JC_seq ?_
  refine JC_region ?_
  refine JL_v (vo_load rfl (by first | exact .frz ‹_› | exact .own (by repeat (first | exact .head _ | refine .tail _ ?_))) (by first | exact PartAt.whole Try.underlying30 rfl sz30 | exact pn_all ‹_› | exact pn_val (node_self _ _ _ _) | exact pn_marks (node_self _ _ _ _) | exact pn_name ‹_›)) nofun (by decide) ?_
  refine st_bslice1 rfl Try.underlying28 (by first | exact zr30) sz30 (by exact Nat.le_of_ble_eq_true rfl) (by exact Nat.ne_of_gt (Nat.le_of_ble_eq_true rfl)) (by decide) (fun b22 => ?_)
  refine st_scall rfl en9 (by decide) (fun w hw => few_spec [nd] (by simpa using hok0) _ w (RNds.one ⟨Res.foot_lt (hw.own _ (.head _)) rfl, hw.own _ (.head _)⟩ (hr.ext hw.ext_all))) ?_
  rintro _ ⟨few, rfl⟩
  refine JL_v (vo_not rfl) nofun (by decide) ?_
  refine JL_nil ?_
  refine JX_then ?_
  refine JC_cond _ rfl (fun hc24 => ?_) (fun hc24 => ?_)
  · refine JC_seq ?_
    refine JC_region ?_
    refine JL_v (vo_assign rfl) nofun (by decide) ?_
    refine JL_nil ?_
    refine JX_then ?_
    refine JC_ret ?_
    refine JX_then_ret ?_
    refine ret1 rfl rfl ?_
    intro w1 hM; exact SC_end hM rfl
  · refine JC_skip ?_
    refine JX_then ?_
    refine JC_seq ?_
    refine JC_region ?_
    refine JL_v (vo_load rfl (by first | exact .frz ‹_› | exact .own (by repeat (first | exact .head _ | refine .tail _ ?_))) (by first | exact PartAt.whole Try.underlying30 rfl sz30 | exact pn_all ‹_› | exact pn_val (node_self _ _ _ _) | exact pn_marks (node_self _ _ _ _) | exact pn_name ‹_›)) nofun (by decide) ?_
    refine st_scall rfl en11 (by decide) (fun w hw => rcheck_spec nd hok0 _ w (hr.ext hw.ext_all)) ?_
    rintro _ rfl
    refine JL_v (vo_move rfl) nofun (by decide) ?_
    refine JL_v (vo_extract rfl rfl) nofun (by decide) ?_
    refine JL_v (vo_extract rfl rfl) nofun (by decide) ?_
    refine JL_v (vo_assign rfl) nofun (by decide) ?_
    refine JL_v (vo_assign rfl) nofun (by decide) ?_
    refine JL_nil ?_
    refine JX_then ?_
    refine JC_seq ?_
    refine JC_seq ?_
    refine JC_region ?_
    refine JL_v (vo_move rfl) nofun (by decide) ?_
    refine JL_v (vo_cmp rfl rfl rfl) nofun (by decide) ?_
    refine JL_nil ?_
    refine JX_then ?_
    refine JC_cond _ rfl (fun hc31 => ?_) (fun hc31 => ?_)
    · refine JC_seq ?_
      refine JC_region ?_
      refine JL_v (vo_assign rfl) nofun (by decide) ?_
      refine JL_nil ?_
      refine JX_then ?_
      refine JC_ret ?_
      refine JX_then_ret ?_
      refine ret1 rfl rfl ?_
      intro w1 hM; exact SC_end hM rfl
    · refine JC_skip ?_
      refine JX_then ?_
      refine JC_seq ?_
      refine JC_region ?_
      refine JL_v (vo_load rfl (by first | exact .frz ‹_› | exact .own (by repeat (first | exact .head _ | refine .tail _ ?_))) (by first | exact PartAt.whole Try.underlying30 rfl sz30 | exact pn_all ‹_› | exact pn_val (node_self _ _ _ _) | exact pn_marks (node_self _ _ _ _) | exact pn_name ‹_›)) nofun (by decide) ?_
      refine st_pcall rfl en13 (by decide) (fun w hw => of_spec nd hok0 _ w hw.zlt' (hr.ext hw.extZ) hcnt2) (fun v34 Z34 wz34 e34 h34 => ?_)
      have hrc0 : (rchk0 nd).2 = 0 := by simpa using hc31
      rw [if_neg (by rw [chk0_eq, hrc0]; simp)] at h34
      obtain ⟨b34, rfl, hT34⟩ := h34
      refine JL_v (vo_move rfl) nofun (by decide) ?_
      refine JL_v (vo_extract rfl rfl) nofun (by decide) ?_
      refine JL_v (vo_extract rfl rfl) nofun (by decide) ?_
      refine JL_v (vo_assign rfl) nofun (by decide) ?_
      refine JL_v (vo_assign rfl) nofun (by decide) ?_
      refine JL_nil ?_
      refine JX_then ?_
      refine JC_seq ?_
      refine JC_seq ?_
      refine JC_region ?_
      refine JL_v (vo_move rfl) nofun (by decide) ?_
      refine JL_v (vo_cmp rfl rfl rfl) nofun (by decide) ?_
      refine JL_v (vo_move rfl) nofun (by decide) ?_
      refine JL_case 39 rfl (fun hg39 => absurd hg39 (by decide)) (fun hg39 => ?_)
      refine JL_yes rfl rfl ?_
      refine JL_v (vo_move rfl) nofun (by decide) ?_
      refine JL_yes rfl rfl ?_
      refine JL_v (vo_eqNil rfl rfl Try.underlying55 rfl) nofun (by decide) ?_
      refine JL_v (vo_pick rfl rfl) nofun (by decide) ?_
      refine JL_nil ?_
      refine JX_then ?_
      refine JC_cond _ rfl (fun hc42 => ?_) (fun hc42 => ?_)
      · exact absurd hc42 (by simp)
      · refine JC_skip ?_
        refine JX_then ?_
        refine JC_seq ?_
        refine JC_region ?_
        refine JL_v (vo_move rfl) nofun (by decide) ?_
        refine st_pcall rfl en19 (by decide) (fun w hw => children_spec b34 w hw.zlt') (fun v44 Z44 wz44 e44 h44 => ?_)
        obtain ⟨c78, rfl, hfc78⟩ := h44
        refine JL_v (vo_move rfl) nofun (by decide) ?_
        refine st_pcall rfl en20 (by decide) (fun w hw => all_spec b34 w hw.zlt') (fun v46 Z46 wz46 e46 h46 => ?_)
        obtain ⟨c79, rfl, hfc79⟩ := h46
        refine st_alloc zr64 (by decide) (fun b9 => ?_)
        refine st_alloc zr67 (by decide) (fun b10 => ?_)
        refine st_store rfl rfl sz64 (by first | exact one_of_all rfl | assumption) (by repeat (first | exact .head _ _ _ | apply Turn.tail)) (by exact Nat.le_of_ble_eq_true rfl) (by rfl) ?_
        refine st_store rfl rfl sz67 (by first | exact one_of_all rfl | assumption) (by repeat (first | exact .head _ _ _ | apply Turn.tail)) (by exact Nat.le_of_ble_eq_true rfl) (by rfl) ?_
        refine JL_nil ?_
        refine JX_then ?_
        refine JC_seq ?_
        refine JC_seq ?_
        refine JC_region ?_
        refine JL_freezeBlk (by repeat (first | exact .head _ _ | apply Del.tail)) (o := .cells #[.func (.func 78) #[] #[.pointer (some ⟨c78, 0, none⟩)]] 64 (0, 0)) (b := b9) (fun Za wza ea hfb9a => ?_)
        refine JL_freezeBlk (by repeat (first | exact .head _ _ | apply Del.tail)) (o := .cells #[.func (.func 79) #[] #[.pointer (some ⟨c79, 0, none⟩)]] 67 (0, 0)) (b := b10) (fun Zb wzb eb hfb10b => ?_)
        refine JL_freezeBlk (by repeat (first | exact .head _ _ | apply Del.tail)) (o := .cells (ndC nd (.slice A nd.kids.length c)).toArray 30 (0, 0)) (b := b2) (fun Zk wzk ek hfb2k => ?_)
        have hfb9k := (eb.trans ek).fb _ _ hfb9a
        have hfb10k := ek.fb _ _ hfb10b
        have e46k := (ea.trans eb).trans ek
        have e44k := e46.trans e46k
        have e34k := e44.trans e44k
        have hrk := hr.ext (e34.trans e34k)
        have hTk := hT34.ext e34k
        have hfc78k := e44k.fb _ _ hfc78
        have hfc79k := e46k.fb _ _ hfc79
        refine JL_v (vo_load rfl (by first | exact .frz ‹_› | exact .own (by repeat (first | exact .head _ | refine .tail _ ?_))) (by first | exact .cell Try.underlying64 rfl rfl | exact pn_all ‹_› | exact pn_val (node_self _ _ _ _) | exact pn_marks (node_self _ _ _ _) | exact pn_name ‹_›)) nofun (by decide) ?_
        refine JL_v (vo_eqFunc rfl rfl Try.underlying64 rfl) nofun (by decide) ?_
        refine JL_v (vo_move rfl) nofun (by decide) ?_
        refine JL_case 49 rfl (fun hg49 => absurd hg49 (by simp)) (fun hg49 => ?_)
        refine JL_yes rfl rfl ?_
        refine JL_v (vo_load rfl (by first | exact .frz ‹_› | exact .own (by repeat (first | exact .head _ | refine .tail _ ?_))) (by first | exact .cell Try.underlying67 rfl rfl | exact pn_all ‹_› | exact pn_val (node_self _ _ _ _) | exact pn_marks (node_self _ _ _ _) | exact pn_name ‹_›)) nofun (by decide) ?_
        refine JL_yes rfl rfl ?_
        refine JL_v (vo_eqFunc rfl rfl Try.underlying67 rfl) nofun (by decide) ?_
        refine JL_v (vo_pick rfl rfl) nofun (by decide) ?_
        refine JL_nil ?_
        refine JX_then ?_
        refine JC_cond _ rfl (fun hc52 => ?_) (fun hc52 => ?_)
        · exact absurd hc52 (by simp)
        · refine JC_skip ?_
          refine JX_then ?_
          refine JC_seq ?_
          refine JC_joinG (α := R12 nd Zk wzk) (fun y => [(11, .pointer (some ⟨y.b11, 0, none⟩)), (12, .pointer (some ⟨y.b12, 0, none⟩))]) (fun y => Mem w (fun _ => False) (fun b => b < w.heap.size)  y.Z y.wz [.blk y.b11 (.cells #[y.v54] 69 (0, 0)), .blk y.b12 (.cells #[y.v56] 71 (0, 0))]) ?_ (fun y => ?_)
          · refine JC_draw (F := Later w (fun _ => False) (fun b => b < w.heap.size) Zk wzk) 7 (by kernel_rfl) (fun w hw => Mem.drew hw) ?_
            refine JR_v (i := 0) rfl (by kernel_rfl) (by kernel_rfl) rfl (by kernel_rfl) (by kernel_rfl) (panic_then (panic_Then panic_body)) (by decide) (vo_loadF rfl hfb2k (PartAt.whole Try.underlying30 rfl sz30)) (fun w hw => hw.later) ?_
            refine JR_v (i := 2) rfl (by kernel_rfl) (by kernel_rfl) rfl (by kernel_rfl) (by kernel_rfl) (panic_then (panic_Then panic_body)) (by decide) (vo_loadF rfl hfb2k (PartAt.whole Try.underlying30 rfl sz30)) (fun w hw => hw.later) ?_
            refine JR_split [1, 4, 5] (by kernel_rfl) rfl (all3 ?_ ?_ ?_)
            · refine JK_pcall rfl trivial rfl en21 (by decide) (fun w hw => refall_spec nd hok0 _ hxs hrl w hw.zlt' (hrk.ext hw.extZ)) (fun Z' wz' w he hw => hw.laterE (by first | exact e54.trans e56 | exact e54.trans he | exact e54 | exact he | exact Ext.refl _ _)) (fun v54 Z54 wz54 e54 h54 => ?_)
              refine JR_split [3, 4, 5] (by kernel_rfl) rfl (all3 ?_ ?_ ?_)
              · refine JK_pcall rfl trivial rfl en22 (by decide) (fun w hw => refnames_spec nd hkl _ w hw.zlt' ((hrk.ext e54).ext hw.extZ)) (fun Z' wz' w he hw => hw.laterE (by first | exact e54.trans e56 | exact e54.trans he | exact e54 | exact he | exact Ext.refl _ _)) (fun v56 Z56 wz56 e56 h56 => ?_)
                refine JR_split [4, 5] (by kernel_rfl) rfl (all2 ?_ ?_)
                · refine JK_alloc rfl trivial zr69 (by decide) (fun b w hw => hw.laterE (by first | exact e54.trans e56 | exact e54.trans he | exact e54 | exact he | exact Ext.refl _ _)) (fun b11 => ?_)
                  refine JR_split [5] (by kernel_rfl) rfl (all1 ?_)
                  refine JK_alloc rfl trivial zr71 (by decide) (fun b w hw => hw.laterE (by first | exact e54.trans e56 | exact e54.trans he | exact e54 | exact he | exact Ext.refl _ _)) (fun b12 => ?_)
                  obtain ⟨A54, c54, rfl, _⟩ := h54.slice
                  obtain ⟨A56, c56, rfl, _⟩ := h56.slice
                  refine JR_split [6] (by kernel_rfl) rfl (all1 ?_)
                  refine JK_do _ rfl rfl trivial (do_store rfl rfl sz69 (by first | exact one_of_all rfl | assumption) (by repeat (first | exact .head _ _ _ | apply Turn.tail)) (by exact Nat.le_of_ble_eq_true rfl) (by rfl)) (fun w hw => hw.laterE (by first | exact e54.trans e56 | exact e54.trans he | exact e54 | exact he | exact Ext.refl _ _)) ?_
                  refine JR_store rfl (by kernel_rfl) (by kernel_rfl) rfl rfl rfl sz71 (by first | exact one_of_all rfl | assumption) (by repeat (first | exact .head _ _ _ | apply Turn.tail)) (by exact Nat.le_of_ble_eq_true rfl) (by rfl) ?_
                  refine JX_join ⟨Z56, wz56, b11, b12, _, _, e54.trans e56, h54.ext e56, h56⟩ (by repeat (first | exact trivial | refine ⟨rfl, ?_⟩ | refine ⟨trivial, ?_⟩)) (fun w hw => by first | exact hw.sub (.cons_cons _ (.cons_cons _ (List.nil_sublist _))) | exact (hw.perm (.swap _ _ _)).sub (.cons_cons _ (.cons_cons _ (List.nil_sublist _))))
                · refine JK_alloc rfl trivial zr71 (by decide) (fun b w hw => hw.laterE (by first | exact e54.trans e56 | exact e54.trans he | exact e54 | exact he | exact Ext.refl _ _)) (fun b12 => ?_)
                  refine JR_split [4] (by kernel_rfl) rfl (all1 ?_)
                  refine JK_alloc rfl trivial zr69 (by decide) (fun b w hw => hw.laterE (by first | exact e54.trans e56 | exact e54.trans he | exact e54 | exact he | exact Ext.refl _ _)) (fun b11 => ?_)
                  obtain ⟨A54, c54, rfl, _⟩ := h54.slice
                  obtain ⟨A56, c56, rfl, _⟩ := h56.slice
                  refine JR_split [6] (by kernel_rfl) rfl (all1 ?_)
                  refine JK_do _ rfl rfl trivial (do_store rfl rfl sz69 (by first | exact one_of_all rfl | assumption) (by repeat (first | exact .head _ _ _ | apply Turn.tail)) (by exact Nat.le_of_ble_eq_true rfl) (by rfl)) (fun w hw => hw.laterE (by first | exact e54.trans e56 | exact e54.trans he | exact e54 | exact he | exact Ext.refl _ _)) ?_
                  refine JR_store rfl (by kernel_rfl) (by kernel_rfl) rfl rfl rfl sz71 (by first | exact one_of_all rfl | assumption) (by repeat (first | exact .head _ _ _ | apply Turn.tail)) (by exact Nat.le_of_ble_eq_true rfl) (by rfl) ?_
                  refine JX_join ⟨Z56, wz56, b11, b12, _, _, e54.trans e56, h54.ext e56, h56⟩ (by repeat (first | exact trivial | refine ⟨rfl, ?_⟩ | refine ⟨trivial, ?_⟩)) (fun w hw => by first | exact hw.sub (.cons_cons _ (.cons_cons _ (List.nil_sublist _))) | exact (hw.perm (.swap _ _ _)).sub (.cons_cons _ (.cons_cons _ (List.nil_sublist _))))
              · refine JK_alloc rfl trivial zr69 (by decide) (fun b w hw => hw.laterE (by first | exact e54.trans e56 | exact e54.trans he | exact e54 | exact he | exact Ext.refl _ _)) (fun b11 => ?_)
                refine JR_split [3, 5] (by kernel_rfl) rfl (all2 ?_ ?_)
                · refine JK_pcall rfl trivial rfl en22 (by decide) (fun w hw => refnames_spec nd hkl _ w hw.zlt' ((hrk.ext e54).ext hw.extZ)) (fun Z' wz' w he hw => hw.laterE (by first | exact e54.trans e56 | exact e54.trans he | exact e54 | exact he | exact Ext.refl _ _)) (fun v56 Z56 wz56 e56 h56 => ?_)
                  refine JR_split [5] (by kernel_rfl) rfl (all1 ?_)
                  refine JK_alloc rfl trivial zr71 (by decide) (fun b w hw => hw.laterE (by first | exact e54.trans e56 | exact e54.trans he | exact e54 | exact he | exact Ext.refl _ _)) (fun b12 => ?_)
                  obtain ⟨A54, c54, rfl, _⟩ := h54.slice
                  obtain ⟨A56, c56, rfl, _⟩ := h56.slice
                  refine JR_split [6] (by kernel_rfl) rfl (all1 ?_)
                  refine JK_do _ rfl rfl trivial (do_store rfl rfl sz69 (by first | exact one_of_all rfl | assumption) (by repeat (first | exact .head _ _ _ | apply Turn.tail)) (by exact Nat.le_of_ble_eq_true rfl) (by rfl)) (fun w hw => hw.laterE (by first | exact e54.trans e56 | exact e54.trans he | exact e54 | exact he | exact Ext.refl _ _)) ?_
                  refine JR_store rfl (by kernel_rfl) (by kernel_rfl) rfl rfl rfl sz71 (by first | exact one_of_all rfl | assumption) (by repeat (first | exact .head _ _ _ | apply Turn.tail)) (by exact Nat.le_of_ble_eq_true rfl) (by rfl) ?_
                  refine JX_join ⟨Z56, wz56, b11, b12, _, _, e54.trans e56, h54.ext e56, h56⟩ (by repeat (first | exact trivial | refine ⟨rfl, ?_⟩ | refine ⟨trivial, ?_⟩)) (fun w hw => by first | exact hw.sub (.cons_cons _ (.cons_cons _ (List.nil_sublist _))) | exact (hw.perm (.swap _ _ _)).sub (.cons_cons _ (.cons_cons _ (List.nil_sublist _))))
                · refine JK_alloc rfl trivial zr71 (by decide) (fun b w hw => hw.laterE (by first | exact e54.trans e56 | exact e54.trans he | exact e54 | exact he | exact Ext.refl _ _)) (fun b12 => ?_)
                  refine JR_split [3] (by kernel_rfl) rfl (all1 ?_)
                  refine JK_pcall rfl trivial rfl en22 (by decide) (fun w hw => refnames_spec nd hkl _ w hw.zlt' ((hrk.ext e54).ext hw.extZ)) (fun Z' wz' w he hw => hw.laterE (by first | exact e54.trans e56 | exact e54.trans he | exact e54 | exact he | exact Ext.refl _ _)) (fun v56 Z56 wz56 e56 h56 => ?_)
                  obtain ⟨A54, c54, rfl, _⟩ := h54.slice
                  obtain ⟨A56, c56, rfl, _⟩ := h56.slice
                  refine JR_split [6] (by kernel_rfl) rfl (all1 ?_)
                  refine JK_do _ rfl rfl trivial (do_store rfl rfl sz69 (by first | exact one_of_all rfl | assumption) (by repeat (first | exact .head _ _ _ | apply Turn.tail)) (by exact Nat.le_of_ble_eq_true rfl) (by rfl)) (fun w hw => hw.laterE (by first | exact e54.trans e56 | exact e54.trans he | exact e54 | exact he | exact Ext.refl _ _)) ?_
                  refine JR_store rfl (by kernel_rfl) (by kernel_rfl) rfl rfl rfl sz71 (by first | exact one_of_all rfl | assumption) (by repeat (first | exact .head _ _ _ | apply Turn.tail)) (by exact Nat.le_of_ble_eq_true rfl) (by rfl) ?_
                  refine JX_join ⟨Z56, wz56, b11, b12, _, _, e54.trans e56, h54.ext e56, h56⟩ (by repeat (first | exact trivial | refine ⟨rfl, ?_⟩ | refine ⟨trivial, ?_⟩)) (fun w hw => by first | exact hw.sub (.cons_cons _ (.cons_cons _ (List.nil_sublist _))) | exact (hw.perm (.swap _ _ _)).sub (.cons_cons _ (.cons_cons _ (List.nil_sublist _))))
              · refine JK_alloc rfl trivial zr71 (by decide) (fun b w hw => hw.laterE (by first | exact e54.trans e56 | exact e54.trans he | exact e54 | exact he | exact Ext.refl _ _)) (fun b12 => ?_)
                refine JR_split [3, 4] (by kernel_rfl) rfl (all2 ?_ ?_)
                · refine JK_pcall rfl trivial rfl en22 (by decide) (fun w hw => refnames_spec nd hkl _ w hw.zlt' ((hrk.ext e54).ext hw.extZ)) (fun Z' wz' w he hw => hw.laterE (by first | exact e54.trans e56 | exact e54.trans he | exact e54 | exact he | exact Ext.refl _ _)) (fun v56 Z56 wz56 e56 h56 => ?_)
                  refine JR_split [4] (by kernel_rfl) rfl (all1 ?_)
                  refine JK_alloc rfl trivial zr69 (by decide) (fun b w hw => hw.laterE (by first | exact e54.trans e56 | exact e54.trans he | exact e54 | exact he | exact Ext.refl _ _)) (fun b11 => ?_)
                  obtain ⟨A54, c54, rfl, _⟩ := h54.slice
                  obtain ⟨A56, c56, rfl, _⟩ := h56.slice
                  refine JR_split [6] (by kernel_rfl) rfl (all1 ?_)
                  refine JK_do _ rfl rfl trivial (do_store rfl rfl sz69 (by first | exact one_of_all rfl | assumption) (by repeat (first | exact .head _ _ _ | apply Turn.tail)) (by exact Nat.le_of_ble_eq_true rfl) (by rfl)) (fun w hw => hw.laterE (by first | exact e54.trans e56 | exact e54.trans he | exact e54 | exact he | exact Ext.refl _ _)) ?_
                  refine JR_store rfl (by kernel_rfl) (by kernel_rfl) rfl rfl rfl sz71 (by first | exact one_of_all rfl | assumption) (by repeat (first | exact .head _ _ _ | apply Turn.tail)) (by exact Nat.le_of_ble_eq_true rfl) (by rfl) ?_
                  refine JX_join ⟨Z56, wz56, b11, b12, _, _, e54.trans e56, h54.ext e56, h56⟩ (by repeat (first | exact trivial | refine ⟨rfl, ?_⟩ | refine ⟨trivial, ?_⟩)) (fun w hw => by first | exact hw.sub (.cons_cons _ (.cons_cons _ (List.nil_sublist _))) | exact (hw.perm (.swap _ _ _)).sub (.cons_cons _ (.cons_cons _ (List.nil_sublist _))))
                · refine JK_alloc rfl trivial zr69 (by decide) (fun b w hw => hw.laterE (by first | exact e54.trans e56 | exact e54.trans he | exact e54 | exact he | exact Ext.refl _ _)) (fun b11 => ?_)
                  refine JR_split [3] (by kernel_rfl) rfl (all1 ?_)
                  refine JK_pcall rfl trivial rfl en22 (by decide) (fun w hw => refnames_spec nd hkl _ w hw.zlt' ((hrk.ext e54).ext hw.extZ)) (fun Z' wz' w he hw => hw.laterE (by first | exact e54.trans e56 | exact e54.trans he | exact e54 | exact he | exact Ext.refl _ _)) (fun v56 Z56 wz56 e56 h56 => ?_)
                  obtain ⟨A54, c54, rfl, _⟩ := h54.slice
                  obtain ⟨A56, c56, rfl, _⟩ := h56.slice
                  refine JR_split [6] (by kernel_rfl) rfl (all1 ?_)
                  refine JK_do _ rfl rfl trivial (do_store rfl rfl sz69 (by first | exact one_of_all rfl | assumption) (by repeat (first | exact .head _ _ _ | apply Turn.tail)) (by exact Nat.le_of_ble_eq_true rfl) (by rfl)) (fun w hw => hw.laterE (by first | exact e54.trans e56 | exact e54.trans he | exact e54 | exact he | exact Ext.refl _ _)) ?_
                  refine JR_store rfl (by kernel_rfl) (by kernel_rfl) rfl rfl rfl sz71 (by first | exact one_of_all rfl | assumption) (by repeat (first | exact .head _ _ _ | apply Turn.tail)) (by exact Nat.le_of_ble_eq_true rfl) (by rfl) ?_
                  refine JX_join ⟨Z56, wz56, b11, b12, _, _, e54.trans e56, h54.ext e56, h56⟩ (by repeat (first | exact trivial | refine ⟨rfl, ?_⟩ | refine ⟨trivial, ?_⟩)) (fun w hw => by first | exact hw.sub (.cons_cons _ (.cons_cons _ (List.nil_sublist _))) | exact (hw.perm (.swap _ _ _)).sub (.cons_cons _ (.cons_cons _ (List.nil_sublist _))))
            · refine JK_alloc rfl trivial zr69 (by decide) (fun b w hw => hw.laterE (by first | exact e54.trans e56 | exact e54.trans he | exact e54 | exact he | exact Ext.refl _ _)) (fun b11 => ?_)
              refine JR_split [1, 5] (by kernel_rfl) rfl (all2 ?_ ?_)
              · refine JK_pcall rfl trivial rfl en21 (by decide) (fun w hw => refall_spec nd hok0 _ hxs hrl w hw.zlt' (hrk.ext hw.extZ)) (fun Z' wz' w he hw => hw.laterE (by first | exact e54.trans e56 | exact e54.trans he | exact e54 | exact he | exact Ext.refl _ _)) (fun v54 Z54 wz54 e54 h54 => ?_)
                refine JR_split [3, 5] (by kernel_rfl) rfl (all2 ?_ ?_)
                · refine JK_pcall rfl trivial rfl en22 (by decide) (fun w hw => refnames_spec nd hkl _ w hw.zlt' ((hrk.ext e54).ext hw.extZ)) (fun Z' wz' w he hw => hw.laterE (by first | exact e54.trans e56 | exact e54.trans he | exact e54 | exact he | exact Ext.refl _ _)) (fun v56 Z56 wz56 e56 h56 => ?_)
                  refine JR_split [5] (by kernel_rfl) rfl (all1 ?_)
                  refine JK_alloc rfl trivial zr71 (by decide) (fun b w hw => hw.laterE (by first | exact e54.trans e56 | exact e54.trans he | exact e54 | exact he | exact Ext.refl _ _)) (fun b12 => ?_)
                  obtain ⟨A54, c54, rfl, _⟩ := h54.slice
                  obtain ⟨A56, c56, rfl, _⟩ := h56.slice
                  refine JR_split [6] (by kernel_rfl) rfl (all1 ?_)
                  refine JK_do _ rfl rfl trivial (do_store rfl rfl sz69 (by first | exact one_of_all rfl | assumption) (by repeat (first | exact .head _ _ _ | apply Turn.tail)) (by exact Nat.le_of_ble_eq_true rfl) (by rfl)) (fun w hw => hw.laterE (by first | exact e54.trans e56 | exact e54.trans he | exact e54 | exact he | exact Ext.refl _ _)) ?_
                  refine JR_store rfl (by kernel_rfl) (by kernel_rfl) rfl rfl rfl sz71 (by first | exact one_of_all rfl | assumption) (by repeat (first | exact .head _ _ _ | apply Turn.tail)) (by exact Nat.le_of_ble_eq_true rfl) (by rfl) ?_
                  refine JX_join ⟨Z56, wz56, b11, b12, _, _, e54.trans e56, h54.ext e56, h56⟩ (by repeat (first | exact trivial | refine ⟨rfl, ?_⟩ | refine ⟨trivial, ?_⟩)) (fun w hw => by first | exact hw.sub (.cons_cons _ (.cons_cons _ (List.nil_sublist _))) | exact (hw.perm (.swap _ _ _)).sub (.cons_cons _ (.cons_cons _ (List.nil_sublist _))))
                · refine JK_alloc rfl trivial zr71 (by decide) (fun b w hw => hw.laterE (by first | exact e54.trans e56 | exact e54.trans he | exact e54 | exact he | exact Ext.refl _ _)) (fun b12 => ?_)
                  refine JR_split [3] (by kernel_rfl) rfl (all1 ?_)
                  refine JK_pcall rfl trivial rfl en22 (by decide) (fun w hw => refnames_spec nd hkl _ w hw.zlt' ((hrk.ext e54).ext hw.extZ)) (fun Z' wz' w he hw => hw.laterE (by first | exact e54.trans e56 | exact e54.trans he | exact e54 | exact he | exact Ext.refl _ _)) (fun v56 Z56 wz56 e56 h56 => ?_)
                  obtain ⟨A54, c54, rfl, _⟩ := h54.slice
                  obtain ⟨A56, c56, rfl, _⟩ := h56.slice
                  refine JR_split [6] (by kernel_rfl) rfl (all1 ?_)
                  refine JK_do _ rfl rfl trivial (do_store rfl rfl sz69 (by first | exact one_of_all rfl | assumption) (by repeat (first | exact .head _ _ _ | apply Turn.tail)) (by exact Nat.le_of_ble_eq_true rfl) (by rfl)) (fun w hw => hw.laterE (by first | exact e54.trans e56 | exact e54.trans he | exact e54 | exact he | exact Ext.refl _ _)) ?_
                  refine JR_store rfl (by kernel_rfl) (by kernel_rfl) rfl rfl rfl sz71 (by first | exact one_of_all rfl | assumption) (by repeat (first | exact .head _ _ _ | apply Turn.tail)) (by exact Nat.le_of_ble_eq_true rfl) (by rfl) ?_
                  refine JX_join ⟨Z56, wz56, b11, b12, _, _, e54.trans e56, h54.ext e56, h56⟩ (by repeat (first | exact trivial | refine ⟨rfl, ?_⟩ | refine ⟨trivial, ?_⟩)) (fun w hw => by first | exact hw.sub (.cons_cons _ (.cons_cons _ (List.nil_sublist _))) | exact (hw.perm (.swap _ _ _)).sub (.cons_cons _ (.cons_cons _ (List.nil_sublist _))))
              · refine JK_alloc rfl trivial zr71 (by decide) (fun b w hw => hw.laterE (by first | exact e54.trans e56 | exact e54.trans he | exact e54 | exact he | exact Ext.refl _ _)) (fun b12 => ?_)
                refine JR_split [1] (by kernel_rfl) rfl (all1 ?_)
                refine JK_pcall rfl trivial rfl en21 (by decide) (fun w hw => refall_spec nd hok0 _ hxs hrl w hw.zlt' (hrk.ext hw.extZ)) (fun Z' wz' w he hw => hw.laterE (by first | exact e54.trans e56 | exact e54.trans he | exact e54 | exact he | exact Ext.refl _ _)) (fun v54 Z54 wz54 e54 h54 => ?_)
                refine JR_split [3] (by kernel_rfl) rfl (all1 ?_)
                refine JK_pcall rfl trivial rfl en22 (by decide) (fun w hw => refnames_spec nd hkl _ w hw.zlt' ((hrk.ext e54).ext hw.extZ)) (fun Z' wz' w he hw => hw.laterE (by first | exact e54.trans e56 | exact e54.trans he | exact e54 | exact he | exact Ext.refl _ _)) (fun v56 Z56 wz56 e56 h56 => ?_)
                obtain ⟨A54, c54, rfl, _⟩ := h54.slice
                obtain ⟨A56, c56, rfl, _⟩ := h56.slice
                refine JR_split [6] (by kernel_rfl) rfl (all1 ?_)
                refine JK_do _ rfl rfl trivial (do_store rfl rfl sz69 (by first | exact one_of_all rfl | assumption) (by repeat (first | exact .head _ _ _ | apply Turn.tail)) (by exact Nat.le_of_ble_eq_true rfl) (by rfl)) (fun w hw => hw.laterE (by first | exact e54.trans e56 | exact e54.trans he | exact e54 | exact he | exact Ext.refl _ _)) ?_
                refine JR_store rfl (by kernel_rfl) (by kernel_rfl) rfl rfl rfl sz71 (by first | exact one_of_all rfl | assumption) (by repeat (first | exact .head _ _ _ | apply Turn.tail)) (by exact Nat.le_of_ble_eq_true rfl) (by rfl) ?_
                refine JX_join ⟨Z56, wz56, b11, b12, _, _, e54.trans e56, h54.ext e56, h56⟩ (by repeat (first | exact trivial | refine ⟨rfl, ?_⟩ | refine ⟨trivial, ?_⟩)) (fun w hw => by first | exact hw.sub (.cons_cons _ (.cons_cons _ (List.nil_sublist _))) | exact (hw.perm (.swap _ _ _)).sub (.cons_cons _ (.cons_cons _ (List.nil_sublist _))))
            · refine JK_alloc rfl trivial zr71 (by decide) (fun b w hw => hw.laterE (by first | exact e54.trans e56 | exact e54.trans he | exact e54 | exact he | exact Ext.refl _ _)) (fun b12 => ?_)
              refine JR_split [1, 4] (by kernel_rfl) rfl (all2 ?_ ?_)
              · refine JK_pcall rfl trivial rfl en21 (by decide) (fun w hw => refall_spec nd hok0 _ hxs hrl w hw.zlt' (hrk.ext hw.extZ)) (fun Z' wz' w he hw => hw.laterE (by first | exact e54.trans e56 | exact e54.trans he | exact e54 | exact he | exact Ext.refl _ _)) (fun v54 Z54 wz54 e54 h54 => ?_)
                refine JR_split [3, 4] (by kernel_rfl) rfl (all2 ?_ ?_)
                · refine JK_pcall rfl trivial rfl en22 (by decide) (fun w hw => refnames_spec nd hkl _ w hw.zlt' ((hrk.ext e54).ext hw.extZ)) (fun Z' wz' w he hw => hw.laterE (by first | exact e54.trans e56 | exact e54.trans he | exact e54 | exact he | exact Ext.refl _ _)) (fun v56 Z56 wz56 e56 h56 => ?_)
                  refine JR_split [4] (by kernel_rfl) rfl (all1 ?_)
                  refine JK_alloc rfl trivial zr69 (by decide) (fun b w hw => hw.laterE (by first | exact e54.trans e56 | exact e54.trans he | exact e54 | exact he | exact Ext.refl _ _)) (fun b11 => ?_)
                  obtain ⟨A54, c54, rfl, _⟩ := h54.slice
                  obtain ⟨A56, c56, rfl, _⟩ := h56.slice
                  refine JR_split [6] (by kernel_rfl) rfl (all1 ?_)
                  refine JK_do _ rfl rfl trivial (do_store rfl rfl sz69 (by first | exact one_of_all rfl | assumption) (by repeat (first | exact .head _ _ _ | apply Turn.tail)) (by exact Nat.le_of_ble_eq_true rfl) (by rfl)) (fun w hw => hw.laterE (by first | exact e54.trans e56 | exact e54.trans he | exact e54 | exact he | exact Ext.refl _ _)) ?_
                  refine JR_store rfl (by kernel_rfl) (by kernel_rfl) rfl rfl rfl sz71 (by first | exact one_of_all rfl | assumption) (by repeat (first | exact .head _ _ _ | apply Turn.tail)) (by exact Nat.le_of_ble_eq_true rfl) (by rfl) ?_
                  refine JX_join ⟨Z56, wz56, b11, b12, _, _, e54.trans e56, h54.ext e56, h56⟩ (by repeat (first | exact trivial | refine ⟨rfl, ?_⟩ | refine ⟨trivial, ?_⟩)) (fun w hw => by first | exact hw.sub (.cons_cons _ (.cons_cons _ (List.nil_sublist _))) | exact (hw.perm (.swap _ _ _)).sub (.cons_cons _ (.cons_cons _ (List.nil_sublist _))))
                · refine JK_alloc rfl trivial zr69 (by decide) (fun b w hw => hw.laterE (by first | exact e54.trans e56 | exact e54.trans he | exact e54 | exact he | exact Ext.refl _ _)) (fun b11 => ?_)
                  refine JR_split [3] (by kernel_rfl) rfl (all1 ?_)
                  refine JK_pcall rfl trivial rfl en22 (by decide) (fun w hw => refnames_spec nd hkl _ w hw.zlt' ((hrk.ext e54).ext hw.extZ)) (fun Z' wz' w he hw => hw.laterE (by first | exact e54.trans e56 | exact e54.trans he | exact e54 | exact he | exact Ext.refl _ _)) (fun v56 Z56 wz56 e56 h56 => ?_)
                  obtain ⟨A54, c54, rfl, _⟩ := h54.slice
                  obtain ⟨A56, c56, rfl, _⟩ := h56.slice
                  refine JR_split [6] (by kernel_rfl) rfl (all1 ?_)
                  refine JK_do _ rfl rfl trivial (do_store rfl rfl sz69 (by first | exact one_of_all rfl | assumption) (by repeat (first | exact .head _ _ _ | apply Turn.tail)) (by exact Nat.le_of_ble_eq_true rfl) (by rfl)) (fun w hw => hw.laterE (by first | exact e54.trans e56 | exact e54.trans he | exact e54 | exact he | exact Ext.refl _ _)) ?_
                  refine JR_store rfl (by kernel_rfl) (by kernel_rfl) rfl rfl rfl sz71 (by first | exact one_of_all rfl | assumption) (by repeat (first | exact .head _ _ _ | apply Turn.tail)) (by exact Nat.le_of_ble_eq_true rfl) (by rfl) ?_
                  refine JX_join ⟨Z56, wz56, b11, b12, _, _, e54.trans e56, h54.ext e56, h56⟩ (by repeat (first | exact trivial | refine ⟨rfl, ?_⟩ | refine ⟨trivial, ?_⟩)) (fun w hw => by first | exact hw.sub (.cons_cons _ (.cons_cons _ (List.nil_sublist _))) | exact (hw.perm (.swap _ _ _)).sub (.cons_cons _ (.cons_cons _ (List.nil_sublist _))))
              · refine JK_alloc rfl trivial zr69 (by decide) (fun b w hw => hw.laterE (by first | exact e54.trans e56 | exact e54.trans he | exact e54 | exact he | exact Ext.refl _ _)) (fun b11 => ?_)
                refine JR_split [1] (by kernel_rfl) rfl (all1 ?_)
                refine JK_pcall rfl trivial rfl en21 (by decide) (fun w hw => refall_spec nd hok0 _ hxs hrl w hw.zlt' (hrk.ext hw.extZ)) (fun Z' wz' w he hw => hw.laterE (by first | exact e54.trans e56 | exact e54.trans he | exact e54 | exact he | exact Ext.refl _ _)) (fun v54 Z54 wz54 e54 h54 => ?_)
                refine JR_split [3] (by kernel_rfl) rfl (all1 ?_)
                refine JK_pcall rfl trivial rfl en22 (by decide) (fun w hw => refnames_spec nd hkl _ w hw.zlt' ((hrk.ext e54).ext hw.extZ)) (fun Z' wz' w he hw => hw.laterE (by first | exact e54.trans e56 | exact e54.trans he | exact e54 | exact he | exact Ext.refl _ _)) (fun v56 Z56 wz56 e56 h56 => ?_)
                obtain ⟨A54, c54, rfl, _⟩ := h54.slice
                obtain ⟨A56, c56, rfl, _⟩ := h56.slice
                refine JR_split [6] (by kernel_rfl) rfl (all1 ?_)
                refine JK_do _ rfl rfl trivial (do_store rfl rfl sz69 (by first | exact one_of_all rfl | assumption) (by repeat (first | exact .head _ _ _ | apply Turn.tail)) (by exact Nat.le_of_ble_eq_true rfl) (by rfl)) (fun w hw => hw.laterE (by first | exact e54.trans e56 | exact e54.trans he | exact e54 | exact he | exact Ext.refl _ _)) ?_
                refine JR_store rfl (by kernel_rfl) (by kernel_rfl) rfl rfl rfl sz71 (by first | exact one_of_all rfl | assumption) (by repeat (first | exact .head _ _ _ | apply Turn.tail)) (by exact Nat.le_of_ble_eq_true rfl) (by rfl) ?_
                refine JX_join ⟨Z56, wz56, b11, b12, _, _, e54.trans e56, h54.ext e56, h56⟩ (by repeat (first | exact trivial | refine ⟨rfl, ?_⟩ | refine ⟨trivial, ?_⟩)) (fun w hw => by first | exact hw.sub (.cons_cons _ (.cons_cons _ (List.nil_sublist _))) | exact (hw.perm (.swap _ _ _)).sub (.cons_cons _ (.cons_cons _ (List.nil_sublist _))))
          · obtain ⟨Zy, wzy, y11, y12, v54, v56, exty, ally, namesy⟩ := y
            obtain ⟨Aw, cw, rfl, hlw⟩ := ally.slice
            obtain ⟨Am, cm, rfl, hlm⟩ := namesy.slice
            dsimp only
            refine JX_then ?_
            refine JC_seq ?_
            refine JC_region ?_
            refine JL_freezeBlk (.head _ _) (fun Zc wzc ec hfb11c => ?_)
            refine JL_freezeBlk (.head _ _) (fun Zd wzd ed hfb12 => ?_)
            have hfb11 := ed.fb _ _ hfb11c
            have ekd := exty.trans (ec.trans ed)
            have hwant := ally.ext (ec.trans ed)
            have hnames := namesy.ext (ec.trans ed)
            replace hrk := hrk.ext ekd
            replace hTk := hTk.ext ekd
            replace hfc78k := ekd.fb _ _ hfc78k
            replace hfc79k := ekd.fb _ _ hfc79k
            replace hfb9k := ekd.fb _ _ hfb9k
            replace hfb10k := ekd.fb _ _ hfb10k
            replace hfb2k := ekd.fb _ _ hfb2k
            refine JL_v (vo_move rfl) nofun (by decide) ?_
            refine JL_v (vo_max rfl rfl) nofun (by decide) ?_
            refine JL_v (vo_assign rfl) nofun (by decide) ?_
            refine JL_nil ?_
            refine JX_then ?_
            refine JC_seq ?_
            refine JC_seq ?_
            refine JC_region ?_
            refine JL_v (vo_assign rfl) nofun (by decide) ?_
            refine JL_nil ?_
            refine JX_then ?_
            refine JC_block ?_
            refine JC_loop (α := AtL Zd wzd) (fun x => [(1, .int .i64 (if 1 > n then 1 else n)), (2, .pointer (some ⟨b2, 0, none⟩)), (9, .pointer (some ⟨b9, 0, none⟩)), (10, .pointer (some ⟨b10, 0, none⟩)), (11, .pointer (some ⟨y11, 0, none⟩)), (12, .pointer (some ⟨y12, 0, none⟩)), (13, .int .i64 x.k)]) (fun x => Mem w (fun _ => False) (fun b => b < w.heap.size)  x.Z x.wz []) (fun x => 3 - x.k) ⟨0, Zd, wzd, by omega, .refl _ _⟩ (by repeat (first | exact trivial | refine ⟨rfl, ?_⟩ | refine ⟨trivial, ?_⟩)) (fun w hw => hw) ?_
            intro x
            have hxk := x.hk
            have hfb10x := x.ext.fb _ _ hfb10k
            refine JC_seq ?_
            refine JC_seq ?_
            refine JC_region ?_
            refine JL_v (vo_move rfl) nofun (by decide) ?_
            refine JL_v (vo_cmp rfl rfl rfl) nofun (by decide) ?_
            refine JL_nil ?_
            refine JX_then ?_
            refine JC_cond _ rfl (fun hc60 => ?_) (fun hc60 => ?_)
            · have hk3 : x.k < 3 := by simp at hc60; omega
              refine JC_skip ?_
              refine JX_then ?_
              refine JC_seq ?_
              refine JC_block ?_
              refine JC_seq ?_
              refine JC_region ?_
              refine JL_v (vo_assign rfl) nofun (by decide) ?_
              refine JL_nil ?_
              refine JX_then ?_
              refine JC_seq ?_
              refine JC_seq ?_
              refine JC_region ?_
              refine JL_v (vo_move rfl) nofun (by decide) ?_
              refine JL_v (vo_cmp rfl rfl rfl) nofun (by decide) ?_
              refine JL_nil ?_
              refine JX_then ?_
              refine JC_joinV [(14, .int .i64 (mostOf x.k n))] ?_ ?_
              · refine JC_cond _ rfl (fun hc64 => ?_) (fun hc64 => ?_)
                · refine JC_region ?_
                  refine JL_v (vo_move rfl) nofun (by decide) ?_
                  refine JL_v (vo_assign rfl) nofun (by decide) ?_
                  refine JL_nil ?_
                  refine JX_joinV [(14, _)] (by repeat (first | exact trivial | refine ⟨rfl, ?_⟩ | refine ⟨trivial, ?_⟩)) ?_
                  simp only [mostOf]; simp at hc64; simp [show x.k = 1 by omega]
                · refine JC_skip ?_
                  refine JX_joinV [(14, _)] (by repeat (first | exact trivial | refine ⟨rfl, ?_⟩ | refine ⟨trivial, ?_⟩)) ?_
                  simp only [mostOf]; simp at hc64; simp [show ¬ x.k = 1 by omega]
              · refine JX_then ?_
                refine JC_seq ?_
                refine JC_region ?_
                refine JL_v (vo_load rfl (by first | exact .frz ‹_› | exact .own (by repeat (first | exact .head _ | refine .tail _ ?_))) (by first | exact .cell Try.underlying67 rfl rfl | exact pn_all ‹_› | exact pn_val (node_self _ _ _ _) | exact pn_marks (node_self _ _ _ _) | exact pn_name ‹_›)) nofun (by decide) ?_
                refine JL_v (vo_move rfl) nofun (by decide) ?_
                refine st_pcall rfl en23 (by decide) (fun w hw => spots_spec (trOf nd) b34 c79 _ hal2 hxs2 w hw.zlt' ((hTk.ext x.ext).ext hw.extZ) ((x.ext.trans hw.extZ).fb _ _ hfc79k)) (fun v69 Z69 wz69 e69 h69 => ?_)
                obtain ⟨vs, rfl, hRs⟩ := h69
                have hEk := x.ext.trans e69
                obtain ⟨As, cs, rfl, hls⟩ := hRs.slice
                have hfb11x := hEk.fb _ _ hfb11
                have hitx := hwant.ext hEk
                have hlen9 : ((allT (trOf nd) ⟨#[]⟩).take (taken (mostOf x.k n) (allT (trOf nd) ⟨#[]⟩).length)).length = taken (mostOf x.k n) (rall nd ⟨#[]⟩).length := by
                  rw [List.length_take, hal]; unfold taken; split <;> omega
                refine JL_v (vo_move rfl) nofun (by decide) ?_
                refine JL_v (vo_extract rfl rfl) nofun (by decide) ?_
                refine JL_v (vo_extract rfl rfl) nofun (by decide) ?_
                refine JL_v (vo_assign rfl) nofun (by decide) ?_
                refine JL_v (vo_assign rfl) nofun (by decide) ?_
                refine JL_nil ?_
                refine JX_then ?_
                refine JC_seq ?_
                refine JC_joinB 103 (false) ?_ ?_
                · refine JC_region ?_
                  refine JL_v (vo_move rfl) nofun (by decide) ?_
                  refine JL_v (vo_not rfl) nofun (by decide) ?_
                  refine JL_v (vo_move rfl) nofun (by decide) ?_
                  refine JL_case 74 rfl (fun hg74 => absurd hg74 (by simp)) (fun hg74 => ?_)
                  refine JL_yes rfl rfl ?_
                  refine JL_v (vo_move rfl) nofun (by decide) ?_
                  refine JL_yes rfl rfl ?_
                  refine JL_v (vo_cmp rfl rfl rfl) nofun (by decide) ?_
                  refine JL_yes rfl rfl ?_
                  refine JL_v (vo_move rfl) nofun (by decide) ?_
                  refine JL_case 77 rfl (fun hg77 => ?_) (fun hg77 => ?_)
                  · refine JL_yes rfl rfl ?_
                    refine JL_v (vo_move rfl) nofun (by decide) ?_
                    refine JL_yes rfl rfl ?_
                    refine JL_v (vo_len rfl Try.underlying73) nofun (by decide) ?_
                    refine JL_yes rfl rfl ?_
                    refine JL_v (vo_load rfl (by first | exact .frz ‹_› | exact .own (by repeat (first | exact .head _ | refine .tail _ ?_))) (by first | exact .cell Try.underlying69 rfl rfl | exact pn_all ‹_› | exact pn_val (node_self _ _ _ _) | exact pn_marks (node_self _ _ _ _) | exact pn_name ‹_›)) nofun (by decide) ?_
                    refine JL_yes rfl rfl ?_
                    refine JL_v (vo_len rfl Try.underlying69) nofun (by decide) ?_
                    refine JL_yes rfl rfl ?_
                    refine JL_v (vo_cmp rfl rfl rfl) nofun (by decide) ?_
                    refine JL_yes rfl rfl ?_
                    refine JL_v (vo_pick rfl rfl) nofun (by decide) ?_
                    refine JL_v (vo_pick rfl rfl) nofun (by decide) ?_
                    refine JL_v (vo_move rfl) nofun (by decide) ?_
                    refine JL_case 85 rfl (fun hg85 => ?_) (fun hg85 => ?_)
                    · refine JL_no rfl rfl (by decide) ?_
                      refine JL_no rfl rfl (by decide) ?_
                      refine JL_no rfl rfl (by decide) ?_
                      refine JL_nou rfl rfl (by decide) ?_
                      refine JL_nou rfl rfl (by decide) ?_
                      refine JL_nou rfl rfl (by decide) ?_
                      refine JL_nou rfl rfl (by decide) ?_
                      refine JL_nou rfl rfl (by decide) ?_
                      refine JL_nou rfl rfl (by decide) ?_
                      refine JL_nou rfl rfl (by decide) ?_
                      refine JL_no rfl rfl (by decide) ?_
                      refine JL_v (vo_pick rfl rfl) nofun (by decide) ?_
                      refine JL_v (vo_move rfl) nofun (by decide) ?_
                      refine JL_no rfl rfl (by decide) ?_
                      refine JL_no rfl rfl (by decide) ?_
                      refine JL_no rfl rfl (by decide) ?_
                      refine JL_no rfl rfl (by decide) ?_
                      refine JL_v (vo_pick rfl rfl) nofun (by decide) ?_
                      refine JL_nil ?_
                      refine JX_joinB _ ⟨rfl, (by repeat (first | exact trivial | refine ⟨rfl, ?_⟩ | refine ⟨trivial, ?_⟩))⟩ ?_
                      first | rfl | (rw [(len_most hlen9).2 (by simpa using hg88)] at hg98; simp at hg98; done) | (rw [(len_most hlen9).1 (by simpa using hg77)] at hg85; simp at hg85; done)
                    · refine JL_yes rfl rfl ?_
                      refine JL_v (vo_move rfl) nofun (by decide) ?_
                      refine JL_yes rfl rfl ?_
                      refine JL_v (vo_cmp rfl rfl rfl) nofun (by decide) ?_
                      refine JL_yes rfl rfl ?_
                      refine JL_v (vo_move rfl) nofun (by decide) ?_
                      refine JL_case 88 rfl (fun hg88 => ?_) (fun hg88 => ?_)
                      · refine JL_yes rfl rfl ?_
                        refine JL_v (vo_move rfl) nofun (by decide) ?_
                        refine JL_yes rfl rfl ?_
                        refine JL_v (vo_len rfl Try.underlying73) nofun (by decide) ?_
                        refine JL_yes rfl rfl ?_
                        refine JL_v (vo_move rfl) nofun (by decide) ?_
                        refine JL_yes rfl rfl ?_
                        refine JL_v (vo_load rfl (by first | exact .frz ‹_› | exact .own (by repeat (first | exact .head _ | refine .tail _ ?_))) (by first | exact .cell Try.underlying69 rfl rfl | exact pn_all ‹_› | exact pn_val (node_self _ _ _ _) | exact pn_marks (node_self _ _ _ _) | exact pn_name ‹_›)) nofun (by decide) ?_
                        refine JL_yes rfl rfl ?_
                        refine JL_v (vo_len rfl Try.underlying69) nofun (by decide) ?_
                        refine JL_yes rfl rfl ?_
                        refine JL_v (vo_min rfl rfl) nofun (by decide) ?_
                        refine JL_yes rfl rfl ?_
                        refine JL_v (vo_cmp rfl rfl rfl) nofun (by decide) ?_
                        refine JL_yes rfl rfl ?_
                        refine JL_v (vo_pick rfl rfl) nofun (by decide) ?_
                        refine JL_v (vo_pick rfl rfl) nofun (by decide) ?_
                        refine JL_v (vo_move rfl) nofun (by decide) ?_
                        refine JL_case 98 rfl (fun hg98 => ?_) (fun hg98 => ?_)
                        · refine JL_no rfl rfl (by decide) ?_
                          refine JL_no rfl rfl (by decide) ?_
                          refine JL_no rfl rfl (by decide) ?_
                          refine JL_no rfl rfl (by decide) ?_
                          refine JL_v (vo_pick rfl rfl) nofun (by decide) ?_
                          refine JL_nil ?_
                          refine JX_joinB _ ⟨rfl, (by repeat (first | exact trivial | refine ⟨rfl, ?_⟩ | refine ⟨trivial, ?_⟩))⟩ ?_
                          first | rfl | (rw [(len_most hlen9).2 (by simpa using hg88)] at hg98; simp at hg98; done) | (rw [(len_most hlen9).1 (by simpa using hg77)] at hg85; simp at hg85; done)
                        · refine JL_yes rfl rfl ?_
                          refine JL_v (vo_move rfl) nofun (by decide) ?_
                          refine JL_yes rfl rfl ?_
                          refine JL_v (vo_load rfl (by first | exact .frz ‹_› | exact .own (by repeat (first | exact .head _ | refine .tail _ ?_))) (by first | exact .cell Try.underlying69 rfl rfl | exact pn_all ‹_› | exact pn_val (node_self _ _ _ _) | exact pn_marks (node_self _ _ _ _) | exact pn_name ‹_›)) nofun (by decide) ?_
                          refine JL_yes rfl rfl ?_
                          refine st_scall rfl en24 (by decide) (fun w hw => same_spec _ (rall nd ⟨#[]⟩) (by rw [hlen9]; unfold taken; split <;> omega) same_take _ _ w (hRs.ext hw.ext_all) (hitx.ext hw.ext_all)) ?_
                          rintro _ rfl
                          refine JL_yes rfl rfl ?_
                          refine JL_v (vo_not rfl) nofun (by decide) ?_
                          refine JL_v (vo_pick rfl rfl) nofun (by decide) ?_
                          refine JL_nil ?_
                          refine JX_joinB _ ⟨rfl, (by repeat (first | exact trivial | refine ⟨rfl, ?_⟩ | refine ⟨trivial, ?_⟩))⟩ ?_
                          first | rfl | (rw [(len_most hlen9).2 (by simpa using hg88)] at hg98; simp at hg98; done) | (rw [(len_most hlen9).1 (by simpa using hg77)] at hg85; simp at hg85; done)
                      · refine JL_no rfl rfl (by decide) ?_
                        refine JL_no rfl rfl (by decide) ?_
                        refine JL_no rfl rfl (by decide) ?_
                        refine JL_no rfl rfl (by decide) ?_
                        refine JL_no rfl rfl (by decide) ?_
                        refine JL_no rfl rfl (by decide) ?_
                        refine JL_no rfl rfl (by decide) ?_
                        refine JL_yes rfl rfl ?_
                        refine JL_v (vo_pick rfl rfl) nofun (by decide) ?_
                        refine JL_v (vo_pick rfl rfl) nofun (by decide) ?_
                        refine JL_v (vo_move rfl) nofun (by decide) ?_
                        refine JL_yes rfl rfl ?_
                        refine JL_v (vo_move rfl) nofun (by decide) ?_
                        refine JL_yes rfl rfl ?_
                        refine JL_v (vo_load rfl (by first | exact .frz ‹_› | exact .own (by repeat (first | exact .head _ | refine .tail _ ?_))) (by first | exact .cell Try.underlying69 rfl rfl | exact pn_all ‹_› | exact pn_val (node_self _ _ _ _) | exact pn_marks (node_self _ _ _ _) | exact pn_name ‹_›)) nofun (by decide) ?_
                        refine JL_yes rfl rfl ?_
                        refine st_scall rfl en24 (by decide) (fun w hw => same_spec _ (rall nd ⟨#[]⟩) (by rw [hlen9]; unfold taken; split <;> omega) same_take _ _ w (hRs.ext hw.ext_all) (hitx.ext hw.ext_all)) ?_
                        rintro _ rfl
                        refine JL_yes rfl rfl ?_
                        refine JL_v (vo_not rfl) nofun (by decide) ?_
                        refine JL_v (vo_pick rfl rfl) nofun (by decide) ?_
                        refine JL_nil ?_
                        refine JX_joinB _ ⟨rfl, (by repeat (first | exact trivial | refine ⟨rfl, ?_⟩ | refine ⟨trivial, ?_⟩))⟩ ?_
                        first | rfl | (rw [(len_most hlen9).2 (by simpa using hg88)] at hg98; simp at hg98; done) | (rw [(len_most hlen9).1 (by simpa using hg77)] at hg85; simp at hg85; done)
                  · refine JL_no rfl rfl (by decide) ?_
                    refine JL_no rfl rfl (by decide) ?_
                    refine JL_no rfl rfl (by decide) ?_
                    refine JL_no rfl rfl (by decide) ?_
                    refine JL_no rfl rfl (by decide) ?_
                    refine JL_yes rfl rfl ?_
                    refine JL_v (vo_pick rfl rfl) nofun (by decide) ?_
                    refine JL_v (vo_pick rfl rfl) nofun (by decide) ?_
                    refine JL_v (vo_move rfl) nofun (by decide) ?_
                    refine JL_yes rfl rfl ?_
                    refine JL_v (vo_move rfl) nofun (by decide) ?_
                    refine JL_yes rfl rfl ?_
                    refine JL_v (vo_cmp rfl rfl rfl) nofun (by decide) ?_
                    refine JL_yes rfl rfl ?_
                    refine JL_v (vo_move rfl) nofun (by decide) ?_
                    refine JL_case 88 rfl (fun hg88 => ?_) (fun hg88 => ?_)
                    · refine JL_yes rfl rfl ?_
                      refine JL_v (vo_move rfl) nofun (by decide) ?_
                      refine JL_yes rfl rfl ?_
                      refine JL_v (vo_len rfl Try.underlying73) nofun (by decide) ?_
                      refine JL_yes rfl rfl ?_
                      refine JL_v (vo_move rfl) nofun (by decide) ?_
                      refine JL_yes rfl rfl ?_
                      refine JL_v (vo_load rfl (by first | exact .frz ‹_› | exact .own (by repeat (first | exact .head _ | refine .tail _ ?_))) (by first | exact .cell Try.underlying69 rfl rfl | exact pn_all ‹_› | exact pn_val (node_self _ _ _ _) | exact pn_marks (node_self _ _ _ _) | exact pn_name ‹_›)) nofun (by decide) ?_
                      refine JL_yes rfl rfl ?_
                      refine JL_v (vo_len rfl Try.underlying69) nofun (by decide) ?_
                      refine JL_yes rfl rfl ?_
                      refine JL_v (vo_min rfl rfl) nofun (by decide) ?_
                      refine JL_yes rfl rfl ?_
                      refine JL_v (vo_cmp rfl rfl rfl) nofun (by decide) ?_
                      refine JL_yes rfl rfl ?_
                      refine JL_v (vo_pick rfl rfl) nofun (by decide) ?_
                      refine JL_v (vo_pick rfl rfl) nofun (by decide) ?_
                      refine JL_v (vo_move rfl) nofun (by decide) ?_
                      refine JL_case 98 rfl (fun hg98 => ?_) (fun hg98 => ?_)
                      · refine JL_no rfl rfl (by decide) ?_
                        refine JL_no rfl rfl (by decide) ?_
                        refine JL_no rfl rfl (by decide) ?_
                        refine JL_no rfl rfl (by decide) ?_
                        refine JL_v (vo_pick rfl rfl) nofun (by decide) ?_
                        refine JL_nil ?_
                        refine JX_joinB _ ⟨rfl, (by repeat (first | exact trivial | refine ⟨rfl, ?_⟩ | refine ⟨trivial, ?_⟩))⟩ ?_
                        first | rfl | (rw [(len_most hlen9).2 (by simpa using hg88)] at hg98; simp at hg98; done) | (rw [(len_most hlen9).1 (by simpa using hg77)] at hg85; simp at hg85; done)
                      · refine JL_yes rfl rfl ?_
                        refine JL_v (vo_move rfl) nofun (by decide) ?_
                        refine JL_yes rfl rfl ?_
                        refine JL_v (vo_load rfl (by first | exact .frz ‹_› | exact .own (by repeat (first | exact .head _ | refine .tail _ ?_))) (by first | exact .cell Try.underlying69 rfl rfl | exact pn_all ‹_› | exact pn_val (node_self _ _ _ _) | exact pn_marks (node_self _ _ _ _) | exact pn_name ‹_›)) nofun (by decide) ?_
                        refine JL_yes rfl rfl ?_
                        refine st_scall rfl en24 (by decide) (fun w hw => same_spec _ (rall nd ⟨#[]⟩) (by rw [hlen9]; unfold taken; split <;> omega) same_take _ _ w (hRs.ext hw.ext_all) (hitx.ext hw.ext_all)) ?_
                        rintro _ rfl
                        refine JL_yes rfl rfl ?_
                        refine JL_v (vo_not rfl) nofun (by decide) ?_
                        refine JL_v (vo_pick rfl rfl) nofun (by decide) ?_
                        refine JL_nil ?_
                        refine JX_joinB _ ⟨rfl, (by repeat (first | exact trivial | refine ⟨rfl, ?_⟩ | refine ⟨trivial, ?_⟩))⟩ ?_
                        first | rfl | (rw [(len_most hlen9).2 (by simpa using hg88)] at hg98; simp at hg98; done) | (rw [(len_most hlen9).1 (by simpa using hg77)] at hg85; simp at hg85; done)
                    · refine JL_no rfl rfl (by decide) ?_
                      refine JL_no rfl rfl (by decide) ?_
                      refine JL_no rfl rfl (by decide) ?_
                      refine JL_no rfl rfl (by decide) ?_
                      refine JL_no rfl rfl (by decide) ?_
                      refine JL_no rfl rfl (by decide) ?_
                      refine JL_no rfl rfl (by decide) ?_
                      refine JL_yes rfl rfl ?_
                      refine JL_v (vo_pick rfl rfl) nofun (by decide) ?_
                      refine JL_v (vo_pick rfl rfl) nofun (by decide) ?_
                      refine JL_v (vo_move rfl) nofun (by decide) ?_
                      refine JL_yes rfl rfl ?_
                      refine JL_v (vo_move rfl) nofun (by decide) ?_
                      refine JL_yes rfl rfl ?_
                      refine JL_v (vo_load rfl (by first | exact .frz ‹_› | exact .own (by repeat (first | exact .head _ | refine .tail _ ?_))) (by first | exact .cell Try.underlying69 rfl rfl | exact pn_all ‹_› | exact pn_val (node_self _ _ _ _) | exact pn_marks (node_self _ _ _ _) | exact pn_name ‹_›)) nofun (by decide) ?_
                      refine JL_yes rfl rfl ?_
                      refine st_scall rfl en24 (by decide) (fun w hw => same_spec _ (rall nd ⟨#[]⟩) (by rw [hlen9]; unfold taken; split <;> omega) same_take _ _ w (hRs.ext hw.ext_all) (hitx.ext hw.ext_all)) ?_
                      rintro _ rfl
                      refine JL_yes rfl rfl ?_
                      refine JL_v (vo_not rfl) nofun (by decide) ?_
                      refine JL_v (vo_pick rfl rfl) nofun (by decide) ?_
                      refine JL_nil ?_
                      refine JX_joinB _ ⟨rfl, (by repeat (first | exact trivial | refine ⟨rfl, ?_⟩ | refine ⟨trivial, ?_⟩))⟩ ?_
                      first | rfl | (rw [(len_most hlen9).2 (by simpa using hg88)] at hg98; simp at hg98; done) | (rw [(len_most hlen9).1 (by simpa using hg77)] at hg85; simp at hg85; done)
                · refine JX_then ?_
                  refine JC_cond _ rfl (fun hc103 => ?_) (fun hc103 => ?_)
                  · exact absurd hc103 (by decide)
                  · refine JC_skip ?_
                    refine JX_block ?_
                    refine JX_then ?_
                    refine JC_region ?_
                    refine JL_v (vo_move rfl) nofun (by decide) ?_
                    refine JL_v (vo_add rfl rfl (by omega) (by omega)) nofun (by decide) ?_
                    refine JL_v (vo_assign rfl) nofun (by decide) ?_
                    refine JL_nil ?_
                    refine JX_loop ⟨x.k + 1, Z69, wz69, hk3, x.ext.trans e69⟩ (by show 3 - (x.k + 1) < 3 - x.k; omega) (by repeat (first | exact trivial | refine ⟨rfl, ?_⟩ | refine ⟨trivial, ?_⟩)) (fun w hw => hw)
            · refine JC_exit ?_
              refine JX_then_exit ?_
              refine JX_thenK_exit ?_
              refine JX_block_exit ?_
              refine JX_then ?_
              refine JC_seq ?_
              refine JC_seq ?_
              refine JC_region ?_
              have hwantx := hwant.ext x.ext
              have hnamesx := hnames.ext x.ext
              have hrkx := hrk.ext x.ext
              have hTkx := hTk.ext x.ext
              have hfc78x := x.ext.fb _ _ hfc78k
              have hfc79x := x.ext.fb _ _ hfc79k
              have hfb9x := x.ext.fb _ _ hfb9k
              have hfb2x := x.ext.fb _ _ hfb2k
              have hfb11x := x.ext.fb _ _ hfb11
              have hfb12x := x.ext.fb _ _ hfb12
              refine JL_v (vo_load rfl (by first | exact .frz ‹_› | exact .own (by repeat (first | exact .head _ | refine .tail _ ?_))) (by first | exact .cell Try.underlying69 rfl rfl | exact pn_all ‹_› | exact pn_val (node_self _ _ _ _) | exact pn_marks (node_self _ _ _ _) | exact pn_name ‹_›)) nofun (by decide) ?_
              refine JL_v (vo_len rfl Try.underlying69) nofun (by decide) ?_
              refine JL_v (vo_cmp rfl rfl rfl) nofun (by decide) ?_
              refine JL_nil ?_
              refine JX_then ?_
              refine JC_joinG (α := Unit) (fun _ => []) (fun _ => Mem w (fun _ => False) (fun b => b < w.heap.size)  x.Z x.wz []) ?_ (fun _ => ?_)
              · refine JC_cond _ rfl (fun hc106 => ?_) (fun hc106 => ?_)
                · refine JC_seq ?_
                  refine JC_region ?_
                  refine st_alloc zr3 (by decide) (fun b17 => ?_)
                  refine st_alloc zr4 (by decide) (fun b18 => ?_)
                  refine st_store rfl rfl sz3 (by first | exact one_of_all rfl | assumption) (by repeat (first | exact .head _ _ _ | apply Turn.tail)) (by exact Nat.le_of_ble_eq_true rfl) (by rfl) ?_
                  refine st_store rfl rfl sz4 (by first | exact one_of_all rfl | assumption) (by repeat (first | exact .head _ _ _ | apply Turn.tail)) (by exact Nat.le_of_ble_eq_true rfl) (by rfl) ?_
                  refine JL_nil ?_
                  refine JX_then ?_
                  refine JC_seq ?_
                  refine JC_region ?_
                  refine JL_v (vo_load rfl (by first | exact .frz ‹_› | exact .own (by repeat (first | exact .head _ | refine .tail _ ?_))) (by first | exact .cell Try.underlying67 rfl rfl | exact pn_all ‹_› | exact pn_val (node_self _ _ _ _) | exact pn_marks (node_self _ _ _ _) | exact pn_name ‹_›)) nofun (by decide) ?_
                  refine JL_v (vo_makeFunc rfl rfl) nofun (by decide) ?_
                  refine JL_perm (.swap _ _ _) ?_
                  refine st_mcallF0 rfl rfl en79 (by decide) (fun w1 hw => allseq_spec 25 en25 #[.pointer (some ⟨b10, 0, none⟩), .pointer (some ⟨b18, 0, none⟩), .pointer (some ⟨y11, 0, none⟩), .pointer (some ⟨b17, 0, none⟩)] (trOf nd) b34 c79 (fun _ => true) (H2 b18 b17) hxs2 x.Z x.wz (takes25 (trOf nd) b34 c79 (rall nd ⟨#[]⟩) _ hall hal2 hxs2 b10 b18 y11 b17 x.Z x.wz hfb10x hfb11x hwantx hTkx hfc79x) _ w1 rfl hw.holds0 hw.ext_ZL0 (hTkx.ext hw.ext_ZL0) (hw.ext_ZL0.fb _ _ hfc79x)) ?_
                  rintro _ L' ⟨rfl, hL'⟩
                  rw [feed_true (feed_iff.2 (fun _ _ => rfl)), Nat.zero_add] at hL'
                  unfold H2 at hL'
                  subst hL'
                  refine JL_nil ?_
                  refine JX_then ?_
                  refine JC_seq ?_
                  refine JC_region ?_
                  refine JL_v (vo_load rfl (by first | exact .frz ‹_› | exact .own (by repeat (first | exact .head _ | refine .tail _ ?_))) (by first | exact .cell Try.underlying4 rfl rfl | exact pn_all ‹_› | exact pn_val (node_self _ _ _ _) | exact pn_marks (node_self _ _ _ _) | exact pn_name ‹_›)) nofun (by decide) ?_
                  refine JL_v (vo_not rfl) nofun (by decide) ?_
                  refine JL_v (vo_move rfl) nofun (by decide) ?_
                  refine JL_case 112 rfl (fun hg112 => absurd hg112 (by simp)) (fun hg112 => ?_)
                  refine JL_yes rfl rfl ?_
                  refine JL_v (vo_load rfl (by first | exact .frz ‹_› | exact .own (by repeat (first | exact .head _ | refine .tail _ ?_))) (by first | exact .cell Try.underlying3 rfl rfl | exact pn_all ‹_› | exact pn_val (node_self _ _ _ _) | exact pn_marks (node_self _ _ _ _) | exact pn_name ‹_›)) nofun (by decide) ?_
                  refine JL_yes rfl rfl ?_
                  refine JL_v (vo_load rfl (by first | exact .frz ‹_› | exact .own (by repeat (first | exact .head _ | refine .tail _ ?_))) (by first | exact .cell Try.underlying69 rfl rfl | exact pn_all ‹_› | exact pn_val (node_self _ _ _ _) | exact pn_marks (node_self _ _ _ _) | exact pn_name ‹_›)) nofun (by decide) ?_
                  refine JL_yes rfl rfl ?_
                  refine JL_v (vo_len rfl Try.underlying69) nofun (by decide) ?_
                  refine JL_yes rfl rfl ?_
                  refine JL_v (vo_cmp rfl rfl rfl) nofun (by decide) ?_
                  refine JL_v (vo_pick rfl rfl) nofun (by decide) ?_
                  refine JL_nil ?_
                  refine JX_then ?_
                  refine JC_cond _ rfl (fun hc117 => ?_) (fun hc117 => ?_)
                  · exact absurd hc117 (by simp [hal])
                  · refine JC_skip ?_
                    refine JX_join () (by repeat (first | exact trivial | refine ⟨rfl, ?_⟩ | refine ⟨trivial, ?_⟩)) (fun w hw => hw.sub (List.nil_sublist _))
                · refine JC_skip ?_
                  refine JX_join () (by repeat (first | exact trivial | refine ⟨rfl, ?_⟩ | refine ⟨trivial, ?_⟩)) (fun w hw => hw.sub (List.nil_sublist _))
              · refine JX_then ?_
                refine JC_seq ?_
                refine JC_region ?_
                refine st_alloc zr3 (by decide) (fun b19 => ?_)
                refine st_alloc zr4 (by decide) (fun b20 => ?_)
                refine st_store rfl rfl sz3 (by first | exact one_of_all rfl | assumption) (by repeat (first | exact .head _ _ _ | apply Turn.tail)) (by exact Nat.le_of_ble_eq_true rfl) (by rfl) ?_
                refine st_store rfl rfl sz4 (by first | exact one_of_all rfl | assumption) (by repeat (first | exact .head _ _ _ | apply Turn.tail)) (by exact Nat.le_of_ble_eq_true rfl) (by rfl) ?_
                refine JL_nil ?_
                refine JX_then ?_
                refine JC_seq ?_
                refine JC_region ?_
                refine JL_v (vo_load rfl (by first | exact .frz ‹_› | exact .own (by repeat (first | exact .head _ | refine .tail _ ?_))) (by first | exact .cell Try.underlying64 rfl rfl | exact pn_all ‹_› | exact pn_val (node_self _ _ _ _) | exact pn_marks (node_self _ _ _ _) | exact pn_name ‹_›)) nofun (by decide) ?_
                refine JL_v (vo_makeFunc rfl rfl) nofun (by decide) ?_
                refine JL_perm (.swap _ _ _) ?_
                refine st_mcallF0 rfl rfl en78 (by decide) (fun w1 hw => kidseq_spec 26 en26 #[.pointer (some ⟨y12, 0, none⟩), .pointer (some ⟨b9, 0, none⟩), .pointer (some ⟨b20, 0, none⟩), .pointer (some ⟨b2, 0, none⟩), .pointer (some ⟨b19, 0, none⟩)] nd.val nd.marks (namesOf nd.kids) (trsOf nd.kids) b34 c78 (fun _ => true) (H2 b20 b19) x.Z x.wz (takes26 nd hkk hcnt2 (rcount_ok hrc0) b34 c78 y12 b9 b20 b2 b19 _ _ x.Z x.wz hfb12x hfb9x hfb2x hfc78x hTkx hnamesx hrkx) _ w1 rfl hw.holds0 hw.ext_ZL0 (by rw [← trOf_mk]; exact hTkx.ext hw.ext_ZL0) (hw.ext_ZL0.fb _ _ hfc78x)) ?_
                rintro _ L' ⟨rfl, hL'⟩
                rw [feed_true (feed_iff.2 (fun _ _ => rfl)), Nat.zero_add] at hL'
                unfold H2 at hL'
                subst hL'
                refine JL_nil ?_
                refine JX_then ?_
                refine JC_seq ?_
                refine JC_region ?_
                refine JL_v (vo_load rfl (by first | exact .frz ‹_› | exact .own (by repeat (first | exact .head _ | refine .tail _ ?_))) (by first | exact .cell Try.underlying4 rfl rfl | exact pn_all ‹_› | exact pn_val (node_self _ _ _ _) | exact pn_marks (node_self _ _ _ _) | exact pn_name ‹_›)) nofun (by decide) ?_
                refine JL_v (vo_move rfl) nofun (by decide) ?_
                refine JL_case 122 rfl (fun hg122 => ?_) (fun hg122 => absurd hg122 (by simp))
                refine JL_yes rfl rfl ?_
                refine JL_v (vo_load rfl (by first | exact .frz ‹_› | exact .own (by repeat (first | exact .head _ | refine .tail _ ?_))) (by first | exact .cell Try.underlying3 rfl rfl | exact pn_all ‹_› | exact pn_val (node_self _ _ _ _) | exact pn_marks (node_self _ _ _ _) | exact pn_name ‹_›)) nofun (by decide) ?_
                refine JL_yes rfl rfl ?_
                refine JL_v (vo_load rfl (by first | exact .frz ‹_› | exact .own (by repeat (first | exact .head _ | refine .tail _ ?_))) (by first | exact .cell Try.underlying71 rfl rfl | exact pn_all ‹_› | exact pn_val (node_self _ _ _ _) | exact pn_marks (node_self _ _ _ _) | exact pn_name ‹_›)) nofun (by decide) ?_
                refine JL_yes rfl rfl ?_
                refine JL_v (vo_len rfl Try.underlying71) nofun (by decide) ?_
                refine JL_yes rfl rfl ?_
                refine JL_v (vo_cmp rfl rfl rfl) nofun (by decide) ?_
                refine JL_v (vo_pick rfl rfl) nofun (by decide) ?_
                refine JL_v (vo_assign rfl) nofun (by decide) ?_
                refine JL_nil ?_
                refine JX_then ?_
                refine JC_ret ?_
                refine ret1 rfl rfl ?_
                intro w1 hM; exact SC_end hM (by simp [hnl, htl])

end Go.Eng
