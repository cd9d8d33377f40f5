/-
  Part of the proofs over this seat: H6 H7 M8 H8. Own work; imports the kit.
-/
import Derived.Test.YtdeelajgigglgaaMovWalk2
import Derived.Test.YtdeelajgigglgaaEng4
set_option linter.unusedVariables false
set_option linter.unusedSimpArgs false
namespace Go.Eng
open Go Go.RowKit Go.Proofs
def pathAt (l : List Chg) (k : Nat) : ByteArray := (l[k]?.map (·.path)).getD ⟨#[]⟩
def newAt (l : List Chg) (k : Nat) : Val := (l[k]?.map (·.new)).getD zeroVal
def bringsAt (l : List Chg) (k : Nat) : Bool := (l[k]?.map bringsB).getD false
theorem pathAt_get {l : List Chg} {k : Nat} {c : Chg} (h : l[k]? = some c) : pathAt l k = c.path := by simp [pathAt, h]
theorem newAt_get {l : List Chg} {k : Nat} {c : Chg} (h : l[k]? = some c) : newAt l k = c.new := by simp [newAt, h]
theorem bringsAt_get {l : List Chg} {k : Nat} {c : Chg} (h : l[k]? = some c) : bringsAt l k = bringsB c := by simp [bringsAt, h]
/-- places of files that came, of one content, that are free -/
def freeAt (l : List Chg) (used : List Bool) (n : Nat) (x : Con) : List Nat := (List.range n).filter fun k => !used.getD k false && bringsAt l k && decide (conOf (newAt l k) = x)
theorem freeAt_succ (l : List Chg) (used : List Bool) (n : Nat) (x : Con) : freeAt l used (n + 1) x = freeAt l used n x ++ (if !used.getD n false && bringsAt l n && decide (conOf (newAt l n) = x) then [n] else []) := by
  unfold freeAt
  rw [List.range_succ, List.filter_append]
  congr 1
  simp [List.filter_cons]
theorem freeAt_lt {l : List Chg} {used : List Bool} {n : Nat} {x : Con} {k : Nat} (h : k ∈ freeAt l used n x) : k < n ∧ used.getD k false = false ∧ bringsAt l k = true ∧ conOf (newAt l k) = x := by
  unfold freeAt at h
  simp only [List.mem_filter, List.mem_range, Bool.and_eq_true, Bool.not_eq_true', decide_eq_true_eq] at h
  exact ⟨h.1, h.2.1.1, h.2.1.2, h.2.2⟩
theorem freeAt_nodup (l : List Chg) (used : List Bool) (n : Nat) (x : Con) : (freeAt l used n x).Nodup := List.Pairwise.filter _ List.nodup_range
abbrev Mv := ByteArray × ByteArray
def lastIs (l : List Chg) (c : Chg) (k : Nat) : Bool := beq (lastP (pathAt l k)) (lastP c.path)
def pickJ (q : Nat → Bool) (fs : List Nat) : Nat := (if idxS q fs 0 < 0 then 0 else idxS q fs 0).toNat
def step9 (l : List Chg) (c : Chg) (s : (Con → List Nat) × List Mv) : (Con → List Nat) × List Mv :=
  if takesB c = true ∧ s.1 (conOf c.old) ≠ [] then
    (fun x => if x = conOf c.old then (s.1 (conOf c.old)).eraseIdx (pickJ (lastIs l c) (s.1 (conOf c.old))) else s.1 x,
      s.2 ++ [(c.path, pathAt l ((s.1 (conOf c.old)).getD (pickJ (lastIs l c) (s.1 (conOf c.old))) 0))])
  else s
def movesSt (l : List Chg) : Nat → (Con → List Nat) × List Mv
  | 0 => (fun x => freeAt l [] l.length x, [])
  | i + 1 => match l[i]? with
    | some c => step9 l c (movesSt l i)
    | none => movesSt l i
def movesOf (l : List Chg) : List Mv := (movesSt l l.length).2
theorem movesSt_succ {l : List Chg} {i : Nat} {c : Chg} (h : l[i]? = some c) : movesSt l (i + 1) = step9 l c (movesSt l i) := by
  rw [movesSt, h]
theorem moves_len (l : List Chg) : ∀ i, (movesSt l i).2.length ≤ i
  | 0 => by simp [movesSt]
  | i + 1 => by
    have ih := moves_len l i
    rw [movesSt]
    split
    · unfold step9
      split
      · simp; omega
      · omega
    · omega
/-! the document's choice -/
def in8 (l : List Chg) (used : List Bool) (c : Chg) : Nat → Int × Bool
  | 0 => (-1, false)
  | k + 1 => if (used.getD k false || !bringsAt l k || !sameF c.old (newAt l k)) = true then in8 l used c k
    else if (decide ((in8 l used c k).1 < 0) || (lastIs l c k && !(in8 l used c k).2)) = true then ((k : Int), lastIs l c k) else in8 l used c k
def pickF (q : Nat → Bool) (s : Int × Bool) (k : Nat) : Int × Bool := if (decide (s.1 < 0) || (q k && !s.2)) = true then ((k : Int), q k) else s
theorem brings_kind {c : Chg} (h : bringsB c = true) : c.new.kind = 2 ∧ 1 ≤ c.new.size := by
  simp [bringsB] at h; omega
theorem takes_kind {c : Chg} (h : takesB c = true) : c.old.kind = 2 ∧ 1 ≤ c.old.size := by
  simp [takesB] at h; omega
theorem sameF_con {v u : Val} (hv : v.kind = 2) (hu : u.kind = 2) : sameF v u = decide (conOf u = conOf v) := by
  rw [Bool.eq_iff_iff]
  rw [decide_eq_true_eq]
  unfold conOf
  rw [Con.mk.injEq]
  simp only [sameF, hv, hu, beq_self_eq_true, Bool.true_and, Bool.and_eq_true, beq_iff_eq, sumEq_iff]
  constructor
  · rintro ⟨a, b⟩; exact ⟨a.symm, b.symm⟩
  · rintro ⟨a, b⟩; exact ⟨a.symm, b.symm⟩
theorem in8_pick (l : List Chg) (used : List Bool) (c : Chg) (hc : takesB c = true) : ∀ n, in8 l used c n = (freeAt l used n (conOf c.old)).foldl (pickF (lastIs l c)) (-1, false)
  | 0 => rfl
  | n + 1 => by
    have ih := in8_pick l used c hc n
    rw [in8, freeAt_succ, List.foldl_append, ← ih]
    cases hb : bringsAt l n with
    | false => simp
    | true =>
      have hk : (newAt l n).kind = 2 := by
        unfold bringsAt at hb
        cases hl : l[n]? with
        | none => simp [hl] at hb
        | some d =>
          simp [hl] at hb
          rw [newAt_get hl]; exact (brings_kind hb).1
      rw [sameF_con (takes_kind hc).1 hk]
      cases hu : used.getD n false <;> cases hd : decide (conOf (newAt l n) = conOf c.old) <;> simp [pickF]
theorem fold_true (q : Nat → Bool) (t : Nat) : ∀ fs : List Nat, fs.foldl (pickF q) ((t : Int), true) = ((t : Int), true)
  | [] => rfl
  | k :: fs => by
    rw [List.foldl_cons, show pickF q ((t : Int), true) k = ((t : Int), true) by simp [pickF]; omega]
    exact fold_true q t fs
theorem fold_false (q : Nat → Bool) (t : Nat) : ∀ (fs : List Nat) (i : Int), 0 ≤ i → (fs.foldl (pickF q) ((t : Int), false)).1 = if idxS q fs i < 0 then (t : Int) else ((fs.getD (idxS q fs i - i).toNat 0 : Nat) : Int)
  | [], i, hi => by simp [idxS]
  | k :: fs, i, hi => by
    rw [List.foldl_cons, idxS]
    cases hq : q k with
    | true =>
      rw [show pickF q ((t : Int), false) k = ((k : Int), true) by simp [pickF, hq]]
      rw [fold_true]
      simp only [if_true]
      rw [if_neg (by omega)]
      simp
    | false =>
      rw [show pickF q ((t : Int), false) k = ((t : Int), false) by simp [pickF, hq]; omega]
      rw [fold_false q t fs (i + 1) (by omega)]
      simp only [Bool.false_eq_true, if_false]
      split
      · rfl
      · rename_i h
        have h1 : i + 1 ≤ idxS q fs (i + 1) := by
          rcases idxS_spec q fs (i + 1) (by omega) with ⟨h1, _⟩ | ⟨j, _, h1, _⟩
          · omega
          · omega
        rw [show (idxS q fs (i + 1) - i).toNat = (idxS q fs (i + 1) - (i + 1)).toNat + 1 by omega, List.getD_cons_succ]
theorem fold_pick (q : Nat → Bool) (fs : List Nat) (hne : fs ≠ []) : (fs.foldl (pickF q) (-1, false)).1 = ((fs.getD (pickJ q fs) 0 : Nat) : Int) := by
  cases fs with
  | nil => exact absurd rfl hne
  | cons k fs =>
    rw [List.foldl_cons, show pickF q (-1, false) k = ((k : Int), q k) by simp [pickF]]
    unfold pickJ
    rw [idxS]
    cases hq : q k with
    | true => rw [fold_true]; simp
    | false =>
      rw [fold_false q k fs 1 (by omega)]
      simp only [Bool.false_eq_true, if_false, Int.zero_add]
      split
      · simp
      · rename_i h
        have h1 : 1 ≤ idxS q fs 1 := by
          rcases idxS_spec q fs 1 (by omega) with ⟨h1, _⟩ | ⟨j, _, h1, _⟩
          · omega
          · omega
        rw [show (idxS q fs 1).toNat = (idxS q fs 1 - 1).toNat + 1 by omega, List.getD_cons_succ]
theorem pickJ_lt (q : Nat → Bool) (fs : List Nat) (hne : fs ≠ []) : pickJ q fs < fs.length := by
  have h0 : 0 < fs.length := List.length_pos_iff.2 hne
  unfold pickJ
  rcases idxS_spec q fs 0 (by omega) with ⟨h1, _⟩ | ⟨j, x, h1, h2, _⟩
  · rw [h1]; simpa using h0
  · have := (List.getElem?_eq_some_iff.1 h2).1
    rw [h1, if_neg (by omega)]; omega
/-- what the document's turn chooses -/
theorem in8_none {l : List Chg} {used : List Bool} {c : Chg} (hc : takesB c = true) {n : Nat} (h : freeAt l used n (conOf c.old) = []) : (in8 l used c n).1 = -1 := by
  rw [in8_pick l used c hc, h]; rfl
theorem in8_some {l : List Chg} {used : List Bool} {c : Chg} (hc : takesB c = true) {n : Nat} (h : freeAt l used n (conOf c.old) ≠ []) :
    (in8 l used c n).1 = (((freeAt l used n (conOf c.old)).getD (pickJ (lastIs l c) (freeAt l used n (conOf c.old))) 0 : Nat) : Int) := by
  rw [in8_pick l used c hc, fold_pick _ _ h]
theorem filter_erase {fs : List Nat} (h : fs.Nodup) {j k : Nat} (hj : fs[j]? = some k) : fs.filter (fun i => !decide (i = k)) = fs.eraseIdx j := by
  induction fs generalizing j with
  | nil => simp at hj
  | cons x fs ih =>
    have hn := List.nodup_cons.1 h
    cases j with
    | zero =>
      simp at hj; subst hj
      rw [List.filter_cons, List.eraseIdx_cons_zero]
      simp only [decide_true, Bool.not_true, Bool.false_eq_true, if_false]
      rw [List.filter_eq_self]
      intro a ha
      simp
      rintro rfl
      exact hn.1 ha
    | succ j =>
      have hk : k ∈ fs := List.mem_of_getElem? (by simpa using hj)
      have hx : x ≠ k := by rintro rfl; exact hn.1 hk
      rw [List.filter_cons, List.eraseIdx_cons_succ, ← ih hn.2 (by simpa using hj)]
      simp [hx]
theorem freeAt_set {l : List Chg} {used : List Bool} {n k j : Nat} {x0 : Con} (hk : k < used.length) (hj : (freeAt l used n x0)[j]? = some k) (x : Con) :
    freeAt l (used.set k true) n x = if x = x0 then (freeAt l used n x0).eraseIdx j else freeAt l used n x := by
  have hm := freeAt_lt (List.mem_of_getElem? hj)
  have hg : ∀ i, (used.set k true).getD i false = if i = k then true else used.getD i false := by
    intro i
    rw [List.getD_eq_getElem?_getD, List.getElem?_set]
    by_cases hi : k = i
    · subst hi; simp [hk]
    · rw [if_neg hi, if_neg (fun e => hi e.symm), List.getD_eq_getElem?_getD]
  by_cases hx : x = x0
  · subst hx
    rw [if_pos rfl, ← filter_erase (freeAt_nodup l used n x) hj]
    unfold freeAt
    rw [List.filter_filter]
    congr 1
    funext i
    rw [hg]
    by_cases hi : i = k <;> simp [hi]
  · rw [if_neg hx]
    unfold freeAt
    apply List.filter_congr
    intro i hi
    rw [hg]
    by_cases hik : i = k
    · subst hik
      have : ¬ conOf (newAt l i) = x := by rw [hm.2.2.2]; exact fun e => hx e.symm
      simp [this]
    · simp [hik]
/-! the program's question is the document's -/
theorem goes_brings (c : Chg) : goesB c.new c.old = bringsB c := by
  rw [Bool.eq_iff_iff]
  simp only [goesB, bringsB, holdsB, conEq, conOf, sameF, Bool.and_eq_true, Bool.not_eq_true', Bool.and_eq_false_iff, beq_iff_eq, decide_eq_true_eq, beq_eq_false_iff_ne, decide_eq_false_iff_not]
  have hsum : sumEq c.old.sum c.new.sum = sumEq c.new.sum c.old.sum := by
    rw [Bool.eq_iff_iff, sumEq_iff, sumEq_iff]; exact eq_comm
  rw [hsum]
  cases sumEq c.new.sum c.old.sum <;> simp <;> omega
theorem goes_takes (c : Chg) : goesB c.old c.new = takesB c := by
  rw [Bool.eq_iff_iff]
  simp only [goesB, takesB, holdsB, conEq, conOf, sameF, Bool.and_eq_true, Bool.not_eq_true', Bool.and_eq_false_iff, beq_iff_eq, decide_eq_true_eq, beq_eq_false_iff_ne, decide_eq_false_iff_not]
  cases sumEq c.old.sum c.new.sum <;> simp <;> omega
end Go.Eng

set_option linter.unusedVariables false
set_option linter.unusedSimpArgs false
namespace Go.Eng
open Go Go.RowKit Go.Proofs
theorem bl48 (a b : ByteArray) : Try.prog.built 48 [(0, .string a), (1, .string b)] = some (mvC (a, b)).toArray := by kernel_rfl
theorem zr48 : (Try.prog.info? 48).bind (·.zero) = some (.agg (mvC (⟨#[]⟩, ⟨#[]⟩)).toArray) := by kernel_rfl
theorem ap48 : (Try.prog.info? 48).map (fun i => (i.zero, i.size, i.bytes)) = some (some (.agg (mvC (⟨#[]⟩, ⟨#[]⟩)).toArray), 2, 32) := by kernel_rfl
def boolsC (l : List Bool) : List Value := l.map fun b => .bool b
theorem boolsC_length (l : List Bool) : (boolsC l).length = l.length := by simp [boolsC]
theorem laid_one (l : List Value) (p : Nat) (v : Value) (hp : p < l.length) : laid l p [v] = l.set p v := by
  unfold laid
  rw [List.set_eq_take_append_cons_drop, if_pos hp]
  simp
/-- the run of the document's 'Moves' -/
structure At8 (l : List Chg) where
  i : Nat
  used : List Bool
  vo : Value
  hi : i ≤ l.length
  hu : used.length = l.length
  hf : ∀ x, (movesSt l i).1 x = freeAt l used l.length x
theorem at8_skip {l : List Chg} {c : Chg} {i : Nat} (hc : l[i]? = some c) (h : ¬ (takesB c = true ∧ (movesSt l i).1 (conOf c.old) ≠ [])) : movesSt l (i + 1) = movesSt l i := by
  rw [movesSt_succ hc, step9, if_neg h]
theorem freeAt_nil (l : List Chg) (n : Nat) (m : Nat) (x : Con) : freeAt l [] n x = freeAt l (List.replicate m false) n x := by
  unfold freeAt
  apply List.filter_congr
  intro i hi
  have : (List.replicate m false).getD i false = false := by
    rw [List.getD_eq_getElem?_getD, List.getElem?_replicate]
    split <;> rfl
  rw [this]
  simp
end Go.Eng

set_option linter.unusedVariables false
set_option linter.unusedSimpArgs false
namespace Go.Eng
open Go Go.RowKit Go.Proofs
theorem ap4 : (Try.prog.info? 4).map (fun i => (i.zero, i.size, i.bytes)) = some (some (.bool false), 1, 1) := by kernel_rfl
theorem en30 : Enters Try.prog 30 := ⟨_, Try.func30, by kernel_rfl, by kernel_rfl⟩
theorem en31 : Enters Try.prog 31 := ⟨_, Try.func31, by kernel_rfl, by kernel_rfl⟩
theorem en33 : Enters Try.prog 33 := ⟨_, Try.func33, by kernel_rfl, by kernel_rfl⟩
theorem sz4 : (Try.prog.info? 4).map (·.size) = some 1 := by kernel_rfl

set_option maxRecDepth 8000 in
set_option maxHeartbeats 1000000 in
theorem refmoves_spec (l : List Chg) (hl : l.length ≤ 1000000) (hs : ∀ c ∈ l, c.path.size ≤ 1000000000000) (v : Value) (w : World) (hr : RItems (fun b => b < w.heap.size) w 71 chC l v) : OCalls Try.prog 8 #[v] w 48 2 (fun n xs => n = (movesOf l).length ∧ xs = (movesOf l).flatMap mvC) := by
  obtain ⟨A, c, rfl, hlen⟩ := hr.slice
  refine enter (N := 101) Try.func8 rfl Try.ntmps8 (Nat.le_of_ble_eq_true rfl) [(0, .slice A l.length c)] (by repeat (first | exact trivial | refine ⟨rfl, ?_⟩)) (Mem.start w (fun _ => False) (fun b => b < w.heap.size) (fun _ h => h)) ?_
  refine JC_seq ?_
  refine JC_region ?_
  refine JL_v (vo_assign rfl) nofun (by decide) ?_
  refine JL_nil ?_
  refine JX_then ?_
  refine JC_seq ?_
  refine JC_region ?_
  refine JL_nilrow 48 2 ?_
  refine JL_v (vo_assign rfl) nofun (by decide) ?_
  refine JL_nil ?_
  refine JX_then ?_
  refine JC_seq ?_
  refine JC_region ?_
  refine JL_v (vo_move rfl) nofun (by decide) ?_
  refine JL_v (vo_len rfl Try.underlying22) nofun (by decide) ?_
  refine st_makeSlice rfl rfl Try.underlying86 ap4 rfl (by omega) (by decide) (by decide) (fun b12 => ?_)
  refine JL_perm (.swap _ _ _) ?_
  refine JL_v (vo_assign rfl) nofun (by decide) ?_
  refine JL_nil ?_
  refine JX_then ?_
  refine JC_seq ?_
  refine JC_seq ?_
  refine JC_region ?_
  refine JL_v (vo_assign rfl) nofun (by decide) ?_
  refine JL_nil ?_
  refine JX_then ?_
  refine JC_block ?_
  refine JC_loop (α := At8 l) (fun x => [(0, .slice A l.length c), (4, .slice (some ⟨b12, 0, none⟩) l.length l.length), (3, x.vo), (5, .int .i64 x.i)]) (fun x => Mem w (fun _ => False) (fun b => b < w.heap.size) (fun b => b < w.heap.size) w  [.row x.vo 48 2 (movesSt l x.i).2.length ((movesSt l x.i).2.flatMap mvC), .row (.slice (some ⟨b12, 0, none⟩) l.length l.length) 4 1 l.length (boolsC x.used)]) (fun x => l.length - x.i) ⟨0, List.replicate l.length false, _, by omega, by simp, fun x => freeAt_nil l _ _ x⟩ (by repeat (first | exact trivial | refine ⟨rfl, ?_⟩ | refine ⟨trivial, ?_⟩)) (fun w hw => by simpa [boolsC, movesSt] using hw) ?_
  rintro ⟨i, used, vo, hi, hu, hf⟩
  have hml := moves_len l i
  dsimp only
  refine JC_seq ?_
  refine JC_seq ?_
  refine JC_region ?_
  refine JL_v (vo_move rfl) nofun (by decide) ?_
  refine JL_v (vo_move rfl) nofun (by decide) ?_
  refine JL_v (vo_len rfl Try.underlying22) nofun (by decide) ?_
  refine JL_v (vo_cmp rfl rfl rfl) nofun (by decide) ?_
  refine JL_nil ?_
  refine JX_then ?_
  refine JC_cond _ rfl (fun hc16 => ?_) (fun hc16 => ?_)
  · have hil : i < l.length := by simp at hc16; omega
    obtain ⟨ch, hch⟩ : ∃ ch, l[i]? = some ch := ⟨_, List.getElem?_eq_getElem hil⟩
    obtain ⟨b1, o1, c1, cs1, te1, fr1, hv1, hfb, hseg⟩ := hr.at_ hch
    cases hv1
    refine JC_skip ?_
    refine JX_then ?_
    refine JC_seq ?_
    refine JC_block ?_
    refine JC_seq ?_
    refine JC_seq ?_
    refine JC_region ?_
    refine JL_v (vo_move rfl) nofun (by decide) ?_
    refine JL_v (vo_move rfl) nofun (by decide) ?_
    refine JL_v (vo_indexAddr rfl rfl Try.underlying22 sz53 (by omega) (by omega)) nofun (by decide) ?_
    refine JL_v (vo_load rfl (by first | exact .frz ‹_› | exact .own (by repeat (first | exact .head _ | refine .tail _ ?_))) (by first | exact PartAt.whole Try.underlying53 rfl sz53 | exact pc_all hseg | exact pc_all hseg2 | exact pc_path hseg | exact pc_path hseg2 | exact pc_old hseg | exact pc_new hseg2)) nofun (by decide) ?_
    refine st_scall rfl en30 (by decide) (fun w hw => takes_spec ch w) ?_
    rintro _ rfl
    refine JL_v (vo_not rfl) nofun (by decide) ?_
    refine JL_nil ?_
    refine JX_then ?_
    refine JC_cond _ rfl (fun hc24 => ?_) (fun hc24 => ?_)
    · refine JC_exit ?_
      refine JX_then_exit ?_
      refine JX_block_exit ?_
      refine JX_then ?_
      refine JC_region ?_
      refine JL_v (vo_move rfl) nofun (by decide) ?_
      refine JL_v (vo_add rfl rfl (by omega) (by omega)) nofun (by decide) ?_
      refine JL_v (vo_assign rfl) nofun (by decide) ?_
      refine JL_nil ?_
      have hst := at8_skip hch (by rintro ⟨h1, _⟩; simp [h1] at hc24)
      refine JX_loop ⟨i + 1, used, vo, hil, hu, by rw [hst]; exact hf⟩ (by show l.length - (i + 1) < l.length - i; omega) (by repeat (first | exact trivial | refine ⟨rfl, ?_⟩ | refine ⟨trivial, ?_⟩)) (fun w hw => ?_)
      dsimp only
      rw [hst]
      exact hw
    · have htk : takesB ch = true := by simpa using hc24
      refine JC_skip ?_
      refine JX_then ?_
      refine JC_seq ?_
      refine JC_region ?_
      refine JL_v (vo_assign rfl) nofun (by decide) ?_
      refine JL_nil ?_
      refine JX_then ?_
      refine JC_seq ?_
      refine JC_region ?_
      refine JL_v (vo_assign rfl) nofun (by decide) ?_
      refine JL_nil ?_
      refine JX_then ?_
      refine JC_seq ?_
      refine JC_seq ?_
      refine JC_region ?_
      refine JL_v (vo_assign rfl) nofun (by decide) ?_
      refine JL_nil ?_
      refine JX_then ?_
      refine JC_block ?_
      refine JC_loop (α := { k : Nat // k ≤ l.length }) (fun k => [(0, .slice (some ⟨b1, o1, none⟩) l.length c), (4, .slice (some ⟨b12, 0, none⟩) l.length l.length), (3, vo), (5, .int .i64 i), (6, .int .i64 (in8 l used ch k.1).1), (7, .bool (in8 l used ch k.1).2), (8, .int .i64 k.1)]) (fun k => Mem w (fun _ => False) (fun b => b < w.heap.size) (fun b => b < w.heap.size) w  [.row vo 48 2 (movesSt l i).2.length ((movesSt l i).2.flatMap mvC), .row (.slice (some ⟨b12, 0, none⟩) l.length l.length) 4 1 l.length (boolsC used)]) (fun k => l.length - k.1) ⟨0, by omega⟩ (by repeat (first | exact trivial | refine ⟨rfl, ?_⟩ | refine ⟨trivial, ?_⟩)) (fun w hw => hw) ?_
      rintro ⟨k, hk⟩
      dsimp only
      refine JC_seq ?_
      refine JC_seq ?_
      refine JC_region ?_
      refine JL_v (vo_move rfl) nofun (by decide) ?_
      refine JL_v (vo_move rfl) nofun (by decide) ?_
      refine JL_v (vo_len rfl Try.underlying22) nofun (by decide) ?_
      refine JL_v (vo_cmp rfl rfl rfl) nofun (by decide) ?_
      refine JL_nil ?_
      refine JX_then ?_
      refine JC_cond _ rfl (fun hc28 => ?_) (fun hc28 => ?_)
      · have hkl : k < l.length := by simp at hc28; omega
        obtain ⟨dh, hdh⟩ : ∃ dh, l[k]? = some dh := ⟨_, List.getElem?_eq_getElem hkl⟩
        obtain ⟨b2, o2, c2, cs2, te2, fr2, hv2, hfb2, hseg2⟩ := hr.at_ hdh
        cases hv2
        have h9 := hfb.at_.symm.trans hfb2.at_
        cases h9
        clear hfb2
        obtain ⟨ub, hub⟩ : ∃ ub, used[k]? = some ub := ⟨_, List.getElem?_eq_getElem (by omega)⟩
        have hcell : (boolsC used).toArray[0 + (k : Int).toNat * 1]? = some (.bool ub) := by rw [List.getElem?_toArray, show 0 + (k : Int).toNat * 1 = k by omega]; simp [boolsC, hub]
        have hgd : used.getD k false = ub := by rw [List.getD_eq_getElem?_getD, hub]; rfl
        have hba := bringsAt_get hdh
        have hna := newAt_get hdh
        have hpa := pathAt_get hdh
        refine JC_skip ?_
        refine JX_then ?_
        refine JC_seq ?_
        refine JC_block ?_
        refine JC_seq ?_
        refine JC_seq ?_
        refine JC_joinB 56 (ub || !bringsB dh || !sameF ch.old dh.new) ?_ ?_
        · refine JC_drawM 26 (by kernel_rfl) (fun w hw => Mem.drew hw) ?_
          refine JR_v (i := 0) rfl (by kernel_rfl) (by kernel_rfl) rfl (by kernel_rfl) (by kernel_rfl) (panic_then (panic_Then (panic_Then (panic_block (panic_Then (panic_then (panic_block (panic_Then (panic_block (panic_Then (panic_then (panic_block (panic_Then panic_body))))))))))))) (by decide) (vo_move rfl) (fun w hw => hw) ?_
          refine JR_v (i := 1) rfl (by kernel_rfl) (by kernel_rfl) rfl (by kernel_rfl) (by kernel_rfl) (panic_then (panic_Then (panic_Then (panic_block (panic_Then (panic_then (panic_block (panic_Then (panic_block (panic_Then (panic_then (panic_block (panic_Then panic_body))))))))))))) (by decide) (vo_move rfl) (fun w hw => hw) ?_
          refine JR_v (i := 2) rfl (by kernel_rfl) (by kernel_rfl) rfl (by kernel_rfl) (by kernel_rfl) (panic_then (panic_Then (panic_Then (panic_block (panic_Then (panic_then (panic_block (panic_Then (panic_block (panic_Then (panic_then (panic_block (panic_Then panic_body))))))))))))) (by decide) (vo_indexAddr rfl rfl Try.underlying86 sz4 (by omega) (by omega)) (fun w hw => hw) ?_
          refine JR_v (i := 3) rfl (by kernel_rfl) (by kernel_rfl) rfl (by kernel_rfl) (by kernel_rfl) (panic_then (panic_Then (panic_Then (panic_block (panic_Then (panic_then (panic_block (panic_Then (panic_block (panic_Then (panic_then (panic_block (panic_Then panic_body))))))))))))) (by decide) (vo_loadRow rfl (by repeat (first | exact .head _ | apply List.Mem.tail)) (.cell Try.underlying4 rfl hcell)) (fun w hw => hw) ?_
          refine JR_v (i := 4) rfl (by kernel_rfl) (by kernel_rfl) rfl (by kernel_rfl) (by kernel_rfl) (panic_then (panic_Then (panic_Then (panic_block (panic_Then (panic_then (panic_block (panic_Then (panic_block (panic_Then (panic_then (panic_block (panic_Then panic_body))))))))))))) (by decide) (vo_move rfl) (fun w hw => hw) ?_
          refine JR_case 35 rfl (fun hg35 => ?_) (fun hg35 => ?_)
          · refine JR_vn (i := 5) rfl rfl rfl (by kernel_rfl) (by kernel_rfl) rfl (by kernel_rfl) (by kernel_rfl) (panic_then (panic_Then (panic_Then (panic_block (panic_Then (panic_then (panic_block (panic_Then (panic_block (panic_Then (panic_then (panic_block (panic_Then panic_body))))))))))))) (by decide) (fun w hw => hw) ?_
            refine JR_vn (i := 6) rfl rfl rfl (by kernel_rfl) (by kernel_rfl) rfl (by kernel_rfl) (by kernel_rfl) (panic_then (panic_Then (panic_Then (panic_block (panic_Then (panic_then (panic_block (panic_Then (panic_block (panic_Then (panic_then (panic_block (panic_Then panic_body))))))))))))) (by decide) (fun w hw => hw) ?_
            refine JR_vn (i := 7) rfl rfl rfl (by kernel_rfl) (by kernel_rfl) rfl (by kernel_rfl) (by kernel_rfl) (panic_then (panic_Then (panic_Then (panic_block (panic_Then (panic_then (panic_block (panic_Then (panic_block (panic_Then (panic_then (panic_block (panic_Then panic_body))))))))))))) (by decide) (fun w hw => hw) ?_
            refine JR_vn (i := 8) rfl rfl rfl (by kernel_rfl) (by kernel_rfl) rfl (by kernel_rfl) (by kernel_rfl) (panic_then (panic_Then (panic_Then (panic_block (panic_Then (panic_then (panic_block (panic_Then (panic_block (panic_Then (panic_then (panic_block (panic_Then panic_body))))))))))))) (by decide) (fun w hw => hw) ?_
            refine JR_vn (i := 9) rfl rfl rfl (by kernel_rfl) (by kernel_rfl) rfl (by kernel_rfl) (by kernel_rfl) (panic_then (panic_Then (panic_Then (panic_block (panic_Then (panic_then (panic_block (panic_Then (panic_block (panic_Then (panic_then (panic_block (panic_Then panic_body))))))))))))) (by decide) (fun w hw => hw) ?_
            refine JR_vn (i := 10) rfl rfl rfl (by kernel_rfl) (by kernel_rfl) rfl (by kernel_rfl) (by kernel_rfl) (panic_then (panic_Then (panic_Then (panic_block (panic_Then (panic_then (panic_block (panic_Then (panic_block (panic_Then (panic_then (panic_block (panic_Then panic_body))))))))))))) (by decide) (fun w hw => hw) ?_
            refine JR_v (i := 11) rfl (by kernel_rfl) (by kernel_rfl) rfl (by kernel_rfl) (by kernel_rfl) (panic_then (panic_Then (panic_Then (panic_block (panic_Then (panic_then (panic_block (panic_Then (panic_block (panic_Then (panic_then (panic_block (panic_Then panic_body))))))))))))) (by decide) (vo_pick rfl rfl) (fun w hw => hw) ?_
            refine JR_v (i := 12) rfl (by kernel_rfl) (by kernel_rfl) rfl (by kernel_rfl) (by kernel_rfl) (panic_then (panic_Then (panic_Then (panic_block (panic_Then (panic_then (panic_block (panic_Then (panic_block (panic_Then (panic_then (panic_block (panic_Then panic_body))))))))))))) (by decide) (vo_move rfl) (fun w hw => hw) ?_
            refine JR_vn (i := 13) rfl rfl rfl (by kernel_rfl) (by kernel_rfl) rfl (by kernel_rfl) (by kernel_rfl) (panic_then (panic_Then (panic_Then (panic_block (panic_Then (panic_then (panic_block (panic_Then (panic_block (panic_Then (panic_then (panic_block (panic_Then panic_body))))))))))))) (by decide) (fun w hw => hw) ?_
            refine JR_vn (i := 14) rfl rfl rfl (by kernel_rfl) (by kernel_rfl) rfl (by kernel_rfl) (by kernel_rfl) (panic_then (panic_Then (panic_Then (panic_block (panic_Then (panic_then (panic_block (panic_Then (panic_block (panic_Then (panic_then (panic_block (panic_Then panic_body))))))))))))) (by decide) (fun w hw => hw) ?_
            refine JR_vn (i := 15) rfl rfl rfl (by kernel_rfl) (by kernel_rfl) rfl (by kernel_rfl) (by kernel_rfl) (panic_then (panic_Then (panic_Then (panic_block (panic_Then (panic_then (panic_block (panic_Then (panic_block (panic_Then (panic_then (panic_block (panic_Then panic_body))))))))))))) (by decide) (fun w hw => hw) ?_
            refine JR_vn (i := 16) rfl rfl rfl (by kernel_rfl) (by kernel_rfl) rfl (by kernel_rfl) (by kernel_rfl) (panic_then (panic_Then (panic_Then (panic_block (panic_Then (panic_then (panic_block (panic_Then (panic_block (panic_Then (panic_then (panic_block (panic_Then panic_body))))))))))))) (by decide) (fun w hw => hw) ?_
            refine JR_vn (i := 17) rfl rfl rfl (by kernel_rfl) (by kernel_rfl) rfl (by kernel_rfl) (by kernel_rfl) (panic_then (panic_Then (panic_Then (panic_block (panic_Then (panic_then (panic_block (panic_Then (panic_block (panic_Then (panic_then (panic_block (panic_Then panic_body))))))))))))) (by decide) (fun w hw => hw) ?_
            refine JR_vn (i := 18) rfl rfl rfl (by kernel_rfl) (by kernel_rfl) rfl (by kernel_rfl) (by kernel_rfl) (panic_then (panic_Then (panic_Then (panic_block (panic_Then (panic_then (panic_block (panic_Then (panic_block (panic_Then (panic_then (panic_block (panic_Then panic_body))))))))))))) (by decide) (fun w hw => hw) ?_
            refine JR_vn (i := 19) rfl rfl rfl (by kernel_rfl) (by kernel_rfl) rfl (by kernel_rfl) (by kernel_rfl) (panic_then (panic_Then (panic_Then (panic_block (panic_Then (panic_then (panic_block (panic_Then (panic_block (panic_Then (panic_then (panic_block (panic_Then panic_body))))))))))))) (by decide) (fun w hw => hw) ?_
            refine JR_vn (i := 20) rfl rfl rfl (by kernel_rfl) (by kernel_rfl) rfl (by kernel_rfl) (by kernel_rfl) (panic_then (panic_Then (panic_Then (panic_block (panic_Then (panic_then (panic_block (panic_Then (panic_block (panic_Then (panic_then (panic_block (panic_Then panic_body))))))))))))) (by decide) (fun w hw => hw) ?_
            refine JR_vn (i := 21) rfl rfl rfl (by kernel_rfl) (by kernel_rfl) rfl (by kernel_rfl) (by kernel_rfl) (panic_then (panic_Then (panic_Then (panic_block (panic_Then (panic_then (panic_block (panic_Then (panic_block (panic_Then (panic_then (panic_block (panic_Then panic_body))))))))))))) (by decide) (fun w hw => hw) ?_
            refine JR_vn (i := 22) rfl rfl rfl (by kernel_rfl) (by kernel_rfl) rfl (by kernel_rfl) (by kernel_rfl) (panic_then (panic_Then (panic_Then (panic_block (panic_Then (panic_then (panic_block (panic_Then (panic_block (panic_Then (panic_then (panic_block (panic_Then panic_body))))))))))))) (by decide) (fun w hw => hw) ?_
            refine JR_vn (i := 23) rfl rfl rfl (by kernel_rfl) (by kernel_rfl) rfl (by kernel_rfl) (by kernel_rfl) (panic_then (panic_Then (panic_Then (panic_block (panic_Then (panic_then (panic_block (panic_Then (panic_block (panic_Then (panic_then (panic_block (panic_Then panic_body))))))))))))) (by decide) (fun w hw => hw) ?_
            refine JR_vn (i := 24) rfl rfl rfl (by kernel_rfl) (by kernel_rfl) rfl (by kernel_rfl) (by kernel_rfl) (panic_then (panic_Then (panic_Then (panic_block (panic_Then (panic_then (panic_block (panic_Then (panic_block (panic_Then (panic_then (panic_block (panic_Then panic_body))))))))))))) (by decide) (fun w hw => hw) ?_
            refine JR_v (i := 25) rfl (by kernel_rfl) (by kernel_rfl) rfl (by kernel_rfl) (by kernel_rfl) (panic_then (panic_Then (panic_Then (panic_block (panic_Then (panic_then (panic_block (panic_Then (panic_block (panic_Then (panic_then (panic_block (panic_Then panic_body))))))))))))) (by decide) (vo_pick rfl rfl) (fun w hw => hw) ?_
            refine JR_done (by kernel_rfl) ?_
            refine JX_joinB _ ⟨rfl, (by repeat (first | exact trivial | refine ⟨rfl, ?_⟩ | refine ⟨trivial, ?_⟩))⟩ ?_
            simp_all
          · refine JR_vy (i := 5) rfl rfl rfl (by kernel_rfl) (by kernel_rfl) rfl (by kernel_rfl) (by kernel_rfl) (panic_then (panic_Then (panic_Then (panic_block (panic_Then (panic_then (panic_block (panic_Then (panic_block (panic_Then (panic_then (panic_block (panic_Then panic_body))))))))))))) (by decide) (vo_move rfl) (fun w hw => hw) ?_
            refine JR_vy (i := 6) rfl rfl rfl (by kernel_rfl) (by kernel_rfl) rfl (by kernel_rfl) (by kernel_rfl) (panic_then (panic_Then (panic_Then (panic_block (panic_Then (panic_then (panic_block (panic_Then (panic_block (panic_Then (panic_then (panic_block (panic_Then panic_body))))))))))))) (by decide) (vo_move rfl) (fun w hw => hw) ?_
            refine JR_vy (i := 7) rfl rfl rfl (by kernel_rfl) (by kernel_rfl) rfl (by kernel_rfl) (by kernel_rfl) (panic_then (panic_Then (panic_Then (panic_block (panic_Then (panic_then (panic_block (panic_Then (panic_block (panic_Then (panic_then (panic_block (panic_Then panic_body))))))))))))) (by decide) (vo_indexAddr rfl rfl Try.underlying22 sz53 (by omega) (by omega)) (fun w hw => hw) ?_
            refine JR_vy (i := 8) rfl rfl rfl (by kernel_rfl) (by kernel_rfl) rfl (by kernel_rfl) (by kernel_rfl) (panic_then (panic_Then (panic_Then (panic_block (panic_Then (panic_then (panic_block (panic_Then (panic_block (panic_Then (panic_then (panic_block (panic_Then panic_body))))))))))))) (by decide) (vo_load rfl (by first | exact .frz ‹_› | exact .own (by repeat (first | exact .head _ | refine .tail _ ?_))) (by first | exact PartAt.whole Try.underlying53 rfl sz53 | exact pc_all hseg | exact pc_all hseg2 | exact pc_path hseg | exact pc_path hseg2 | exact pc_old hseg | exact pc_new hseg2)) (fun w hw => hw) ?_
            refine JR_split [9] (by kernel_rfl) rfl (all1 ?_)
            refine JK_scall rfl ⟨35, rfl, rfl⟩ rfl en31 (by decide) (fun w hw => brings_spec dh w) (fun w hw => hw) ?_
            rintro _ rfl
            refine JR_vy (i := 10) rfl rfl rfl (by kernel_rfl) (by kernel_rfl) rfl (by kernel_rfl) (by kernel_rfl) (panic_then (panic_Then (panic_Then (panic_block (panic_Then (panic_then (panic_block (panic_Then (panic_block (panic_Then (panic_then (panic_block (panic_Then panic_body))))))))))))) (by decide) (vo_not rfl) (fun w hw => hw) ?_
            refine JR_v (i := 11) rfl (by kernel_rfl) (by kernel_rfl) rfl (by kernel_rfl) (by kernel_rfl) (panic_then (panic_Then (panic_Then (panic_block (panic_Then (panic_then (panic_block (panic_Then (panic_block (panic_Then (panic_then (panic_block (panic_Then panic_body))))))))))))) (by decide) (vo_pick rfl rfl) (fun w hw => hw) ?_
            refine JR_v (i := 12) rfl (by kernel_rfl) (by kernel_rfl) rfl (by kernel_rfl) (by kernel_rfl) (panic_then (panic_Then (panic_Then (panic_block (panic_Then (panic_then (panic_block (panic_Then (panic_block (panic_Then (panic_then (panic_block (panic_Then panic_body))))))))))))) (by decide) (vo_move rfl) (fun w hw => hw) ?_
            refine JR_case 43 rfl (fun hg43 => ?_) (fun hg43 => ?_)
            · refine JR_vn (i := 13) rfl rfl rfl (by kernel_rfl) (by kernel_rfl) rfl (by kernel_rfl) (by kernel_rfl) (panic_then (panic_Then (panic_Then (panic_block (panic_Then (panic_then (panic_block (panic_Then (panic_block (panic_Then (panic_then (panic_block (panic_Then panic_body))))))))))))) (by decide) (fun w hw => hw) ?_
              refine JR_vn (i := 14) rfl rfl rfl (by kernel_rfl) (by kernel_rfl) rfl (by kernel_rfl) (by kernel_rfl) (panic_then (panic_Then (panic_Then (panic_block (panic_Then (panic_then (panic_block (panic_Then (panic_block (panic_Then (panic_then (panic_block (panic_Then panic_body))))))))))))) (by decide) (fun w hw => hw) ?_
              refine JR_vn (i := 15) rfl rfl rfl (by kernel_rfl) (by kernel_rfl) rfl (by kernel_rfl) (by kernel_rfl) (panic_then (panic_Then (panic_Then (panic_block (panic_Then (panic_then (panic_block (panic_Then (panic_block (panic_Then (panic_then (panic_block (panic_Then panic_body))))))))))))) (by decide) (fun w hw => hw) ?_
              refine JR_vn (i := 16) rfl rfl rfl (by kernel_rfl) (by kernel_rfl) rfl (by kernel_rfl) (by kernel_rfl) (panic_then (panic_Then (panic_Then (panic_block (panic_Then (panic_then (panic_block (panic_Then (panic_block (panic_Then (panic_then (panic_block (panic_Then panic_body))))))))))))) (by decide) (fun w hw => hw) ?_
              refine JR_vn (i := 17) rfl rfl rfl (by kernel_rfl) (by kernel_rfl) rfl (by kernel_rfl) (by kernel_rfl) (panic_then (panic_Then (panic_Then (panic_block (panic_Then (panic_then (panic_block (panic_Then (panic_block (panic_Then (panic_then (panic_block (panic_Then panic_body))))))))))))) (by decide) (fun w hw => hw) ?_
              refine JR_vn (i := 18) rfl rfl rfl (by kernel_rfl) (by kernel_rfl) rfl (by kernel_rfl) (by kernel_rfl) (panic_then (panic_Then (panic_Then (panic_block (panic_Then (panic_then (panic_block (panic_Then (panic_block (panic_Then (panic_then (panic_block (panic_Then panic_body))))))))))))) (by decide) (fun w hw => hw) ?_
              refine JR_vn (i := 19) rfl rfl rfl (by kernel_rfl) (by kernel_rfl) rfl (by kernel_rfl) (by kernel_rfl) (panic_then (panic_Then (panic_Then (panic_block (panic_Then (panic_then (panic_block (panic_Then (panic_block (panic_Then (panic_then (panic_block (panic_Then panic_body))))))))))))) (by decide) (fun w hw => hw) ?_
              refine JR_vn (i := 20) rfl rfl rfl (by kernel_rfl) (by kernel_rfl) rfl (by kernel_rfl) (by kernel_rfl) (panic_then (panic_Then (panic_Then (panic_block (panic_Then (panic_then (panic_block (panic_Then (panic_block (panic_Then (panic_then (panic_block (panic_Then panic_body))))))))))))) (by decide) (fun w hw => hw) ?_
              refine JR_vn (i := 21) rfl rfl rfl (by kernel_rfl) (by kernel_rfl) rfl (by kernel_rfl) (by kernel_rfl) (panic_then (panic_Then (panic_Then (panic_block (panic_Then (panic_then (panic_block (panic_Then (panic_block (panic_Then (panic_then (panic_block (panic_Then panic_body))))))))))))) (by decide) (fun w hw => hw) ?_
              refine JR_vn (i := 22) rfl rfl rfl (by kernel_rfl) (by kernel_rfl) rfl (by kernel_rfl) (by kernel_rfl) (panic_then (panic_Then (panic_Then (panic_block (panic_Then (panic_then (panic_block (panic_Then (panic_block (panic_Then (panic_then (panic_block (panic_Then panic_body))))))))))))) (by decide) (fun w hw => hw) ?_
              refine JR_vn (i := 23) rfl rfl rfl (by kernel_rfl) (by kernel_rfl) rfl (by kernel_rfl) (by kernel_rfl) (panic_then (panic_Then (panic_Then (panic_block (panic_Then (panic_then (panic_block (panic_Then (panic_block (panic_Then (panic_then (panic_block (panic_Then panic_body))))))))))))) (by decide) (fun w hw => hw) ?_
              refine JR_vn (i := 24) rfl rfl rfl (by kernel_rfl) (by kernel_rfl) rfl (by kernel_rfl) (by kernel_rfl) (panic_then (panic_Then (panic_Then (panic_block (panic_Then (panic_then (panic_block (panic_Then (panic_block (panic_Then (panic_then (panic_block (panic_Then panic_body))))))))))))) (by decide) (fun w hw => hw) ?_
              refine JR_v (i := 25) rfl (by kernel_rfl) (by kernel_rfl) rfl (by kernel_rfl) (by kernel_rfl) (panic_then (panic_Then (panic_Then (panic_block (panic_Then (panic_then (panic_block (panic_Then (panic_block (panic_Then (panic_then (panic_block (panic_Then panic_body))))))))))))) (by decide) (vo_pick rfl rfl) (fun w hw => hw) ?_
              refine JR_done (by kernel_rfl) ?_
              refine JX_joinB _ ⟨rfl, (by repeat (first | exact trivial | refine ⟨rfl, ?_⟩ | refine ⟨trivial, ?_⟩))⟩ ?_
              simp_all
            · refine JR_vy (i := 13) rfl rfl rfl (by kernel_rfl) (by kernel_rfl) rfl (by kernel_rfl) (by kernel_rfl) (panic_then (panic_Then (panic_Then (panic_block (panic_Then (panic_then (panic_block (panic_Then (panic_block (panic_Then (panic_then (panic_block (panic_Then panic_body))))))))))))) (by decide) (vo_move rfl) (fun w hw => hw) ?_
              refine JR_vy (i := 14) rfl rfl rfl (by kernel_rfl) (by kernel_rfl) rfl (by kernel_rfl) (by kernel_rfl) (panic_then (panic_Then (panic_Then (panic_block (panic_Then (panic_then (panic_block (panic_Then (panic_block (panic_Then (panic_then (panic_block (panic_Then panic_body))))))))))))) (by decide) (vo_move rfl) (fun w hw => hw) ?_
              refine JR_vy (i := 15) rfl rfl rfl (by kernel_rfl) (by kernel_rfl) rfl (by kernel_rfl) (by kernel_rfl) (panic_then (panic_Then (panic_Then (panic_block (panic_Then (panic_then (panic_block (panic_Then (panic_block (panic_Then (panic_then (panic_block (panic_Then panic_body))))))))))))) (by decide) (vo_indexAddr rfl rfl Try.underlying22 sz53 (by omega) (by omega)) (fun w hw => hw) ?_
              refine JR_vy (i := 16) rfl rfl rfl (by kernel_rfl) (by kernel_rfl) rfl (by kernel_rfl) (by kernel_rfl) (panic_then (panic_Then (panic_Then (panic_block (panic_Then (panic_then (panic_block (panic_Then (panic_block (panic_Then (panic_then (panic_block (panic_Then panic_body))))))))))))) (by decide) (vo_fieldAddr rfl fo53_1) (fun w hw => hw) ?_
              refine JR_vy (i := 17) rfl rfl rfl (by kernel_rfl) (by kernel_rfl) rfl (by kernel_rfl) (by kernel_rfl) (panic_then (panic_Then (panic_Then (panic_block (panic_Then (panic_then (panic_block (panic_Then (panic_block (panic_Then (panic_then (panic_block (panic_Then panic_body))))))))))))) (by decide) (vo_load rfl (by first | exact .frz ‹_› | exact .own (by repeat (first | exact .head _ | refine .tail _ ?_))) (by first | exact PartAt.whole Try.underlying51 rfl sz51 | exact pc_all hseg | exact pc_all hseg2 | exact pc_path hseg | exact pc_path hseg2 | exact pc_old hseg | exact pc_new hseg2)) (fun w hw => hw) ?_
              refine JR_vy (i := 18) rfl rfl rfl (by kernel_rfl) (by kernel_rfl) rfl (by kernel_rfl) (by kernel_rfl) (panic_then (panic_Then (panic_Then (panic_block (panic_Then (panic_then (panic_block (panic_Then (panic_block (panic_Then (panic_then (panic_block (panic_Then panic_body))))))))))))) (by decide) (vo_move rfl) (fun w hw => hw) ?_
              refine JR_vy (i := 19) rfl rfl rfl (by kernel_rfl) (by kernel_rfl) rfl (by kernel_rfl) (by kernel_rfl) (panic_then (panic_Then (panic_Then (panic_block (panic_Then (panic_then (panic_block (panic_Then (panic_block (panic_Then (panic_then (panic_block (panic_Then panic_body))))))))))))) (by decide) (vo_move rfl) (fun w hw => hw) ?_
              refine JR_vy (i := 20) rfl rfl rfl (by kernel_rfl) (by kernel_rfl) rfl (by kernel_rfl) (by kernel_rfl) (panic_then (panic_Then (panic_Then (panic_block (panic_Then (panic_then (panic_block (panic_Then (panic_block (panic_Then (panic_then (panic_block (panic_Then panic_body))))))))))))) (by decide) (vo_indexAddr rfl rfl Try.underlying22 sz53 (by omega) (by omega)) (fun w hw => hw) ?_
              refine JR_vy (i := 21) rfl rfl rfl (by kernel_rfl) (by kernel_rfl) rfl (by kernel_rfl) (by kernel_rfl) (panic_then (panic_Then (panic_Then (panic_block (panic_Then (panic_then (panic_block (panic_Then (panic_block (panic_Then (panic_then (panic_block (panic_Then panic_body))))))))))))) (by decide) (vo_fieldAddr rfl fo53_2) (fun w hw => hw) ?_
              refine JR_vy (i := 22) rfl rfl rfl (by kernel_rfl) (by kernel_rfl) rfl (by kernel_rfl) (by kernel_rfl) (panic_then (panic_Then (panic_Then (panic_block (panic_Then (panic_then (panic_block (panic_Then (panic_block (panic_Then (panic_then (panic_block (panic_Then panic_body))))))))))))) (by decide) (vo_load rfl (by first | exact .frz ‹_› | exact .own (by repeat (first | exact .head _ | refine .tail _ ?_))) (by first | exact PartAt.whole Try.underlying51 rfl sz51 | exact pc_all hseg | exact pc_all hseg2 | exact pc_path hseg | exact pc_path hseg2 | exact pc_old hseg | exact pc_new hseg2)) (fun w hw => hw) ?_
              refine JR_split [23] (by kernel_rfl) rfl (all1 ?_)
              refine JK_scall rfl ⟨43, rfl, rfl⟩ rfl en32 (by decide) (fun w hw => samefile_spec ch.old dh.new w) (fun w hw => hw) ?_
              rintro _ rfl
              refine JR_vy (i := 24) rfl rfl rfl (by kernel_rfl) (by kernel_rfl) rfl (by kernel_rfl) (by kernel_rfl) (panic_then (panic_Then (panic_Then (panic_block (panic_Then (panic_then (panic_block (panic_Then (panic_block (panic_Then (panic_then (panic_block (panic_Then panic_body))))))))))))) (by decide) (vo_not rfl) (fun w hw => hw) ?_
              refine JR_v (i := 25) rfl (by kernel_rfl) (by kernel_rfl) rfl (by kernel_rfl) (by kernel_rfl) (panic_then (panic_Then (panic_Then (panic_block (panic_Then (panic_then (panic_block (panic_Then (panic_block (panic_Then (panic_then (panic_block (panic_Then panic_body))))))))))))) (by decide) (vo_pick rfl rfl) (fun w hw => hw) ?_
              refine JR_done (by kernel_rfl) ?_
              refine JX_joinB _ ⟨rfl, (by repeat (first | exact trivial | refine ⟨rfl, ?_⟩ | refine ⟨trivial, ?_⟩))⟩ ?_
              simp_all
        · refine JX_then ?_
          refine JC_cond _ rfl (fun hc56 => ?_) (fun hc56 => ?_)
          · refine JC_exit ?_
            refine JX_then_exit ?_
            refine JX_block_exit ?_
            refine JX_then ?_
            refine JC_region ?_
            refine JL_v (vo_move rfl) nofun (by decide) ?_
            refine JL_v (vo_add rfl rfl (by omega) (by omega)) nofun (by decide) ?_
            refine JL_v (vo_assign rfl) nofun (by decide) ?_
            refine JL_nil ?_
            have hst : in8 l used ch (k + 1) = in8 l used ch k := by rw [in8, hgd, hba, hna, if_pos hc56]
            refine JX_loop ⟨k + 1, hkl⟩ (by show l.length - (k + 1) < l.length - k; omega) (by rw [hst]; repeat (first | exact trivial | refine ⟨rfl, ?_⟩ | refine ⟨trivial, ?_⟩)) (fun w hw => hw)
          · refine JC_skip ?_
            refine JX_then ?_
            refine JC_seq ?_
            refine JC_joinB 9 (beq (lastP dh.path) (lastP ch.path)) ?_ ?_
            · refine JC_drawM 14 (by kernel_rfl) (fun w hw => Mem.drew hw) ?_
              refine JR_v (i := 0) rfl (by kernel_rfl) (by kernel_rfl) rfl (by kernel_rfl) (by kernel_rfl) (panic_then (panic_Then (panic_block (panic_Then (panic_then (panic_block (panic_Then (panic_block (panic_Then (panic_then (panic_block (panic_Then panic_body)))))))))))) (by decide) (vo_move rfl) (fun w hw => hw) ?_
              refine JR_v (i := 1) rfl (by kernel_rfl) (by kernel_rfl) rfl (by kernel_rfl) (by kernel_rfl) (panic_then (panic_Then (panic_block (panic_Then (panic_then (panic_block (panic_Then (panic_block (panic_Then (panic_then (panic_block (panic_Then panic_body)))))))))))) (by decide) (vo_move rfl) (fun w hw => hw) ?_
              refine JR_v (i := 2) rfl (by kernel_rfl) (by kernel_rfl) rfl (by kernel_rfl) (by kernel_rfl) (panic_then (panic_Then (panic_block (panic_Then (panic_then (panic_block (panic_Then (panic_block (panic_Then (panic_then (panic_block (panic_Then panic_body)))))))))))) (by decide) (vo_indexAddr rfl rfl Try.underlying22 sz53 (by omega) (by omega)) (fun w hw => hw) ?_
              refine JR_v (i := 3) rfl (by kernel_rfl) (by kernel_rfl) rfl (by kernel_rfl) (by kernel_rfl) (panic_then (panic_Then (panic_block (panic_Then (panic_then (panic_block (panic_Then (panic_block (panic_Then (panic_then (panic_block (panic_Then panic_body)))))))))))) (by decide) (vo_fieldAddr rfl fo53_0) (fun w hw => hw) ?_
              refine JR_v (i := 4) rfl (by kernel_rfl) (by kernel_rfl) rfl (by kernel_rfl) (by kernel_rfl) (panic_then (panic_Then (panic_block (panic_Then (panic_then (panic_block (panic_Then (panic_block (panic_Then (panic_then (panic_block (panic_Then panic_body)))))))))))) (by decide) (vo_load rfl (by first | exact .frz ‹_› | exact .own (by repeat (first | exact .head _ | refine .tail _ ?_))) (by first | exact .cell Try.underlying9 rfl rfl | exact pc_all hseg | exact pc_all hseg2 | exact pc_path hseg | exact pc_path hseg2 | exact pc_old hseg | exact pc_new hseg2)) (fun w hw => hw) ?_
              refine JR_v (i := 6) rfl (by kernel_rfl) (by kernel_rfl) rfl (by kernel_rfl) (by kernel_rfl) (panic_then (panic_Then (panic_block (panic_Then (panic_then (panic_block (panic_Then (panic_block (panic_Then (panic_then (panic_block (panic_Then panic_body)))))))))))) (by decide) (vo_move rfl) (fun w hw => hw) ?_
              refine JR_v (i := 7) rfl (by kernel_rfl) (by kernel_rfl) rfl (by kernel_rfl) (by kernel_rfl) (panic_then (panic_Then (panic_block (panic_Then (panic_then (panic_block (panic_Then (panic_block (panic_Then (panic_then (panic_block (panic_Then panic_body)))))))))))) (by decide) (vo_move rfl) (fun w hw => hw) ?_
              refine JR_v (i := 8) rfl (by kernel_rfl) (by kernel_rfl) rfl (by kernel_rfl) (by kernel_rfl) (panic_then (panic_Then (panic_block (panic_Then (panic_then (panic_block (panic_Then (panic_block (panic_Then (panic_then (panic_block (panic_Then panic_body)))))))))))) (by decide) (vo_indexAddr rfl rfl Try.underlying22 sz53 (by omega) (by omega)) (fun w hw => hw) ?_
              refine JR_v (i := 9) rfl (by kernel_rfl) (by kernel_rfl) rfl (by kernel_rfl) (by kernel_rfl) (panic_then (panic_Then (panic_block (panic_Then (panic_then (panic_block (panic_Then (panic_block (panic_Then (panic_then (panic_block (panic_Then panic_body)))))))))))) (by decide) (vo_fieldAddr rfl fo53_0) (fun w hw => hw) ?_
              refine JR_v (i := 10) rfl (by kernel_rfl) (by kernel_rfl) rfl (by kernel_rfl) (by kernel_rfl) (panic_then (panic_Then (panic_block (panic_Then (panic_then (panic_block (panic_Then (panic_block (panic_Then (panic_then (panic_block (panic_Then panic_body)))))))))))) (by decide) (vo_load rfl (by first | exact .frz ‹_› | exact .own (by repeat (first | exact .head _ | refine .tail _ ?_))) (by first | exact .cell Try.underlying9 rfl rfl | exact pc_all hseg | exact pc_all hseg2 | exact pc_path hseg | exact pc_path hseg2 | exact pc_old hseg | exact pc_new hseg2)) (fun w hw => hw) ?_
              refine JR_split [5] (by kernel_rfl) rfl (all1 ?_)
              refine JK_scall rfl trivial rfl en33 (by decide) (fun w hw => last_spec _ w (hs dh (List.mem_of_getElem? hdh))) (fun w hw => hw) ?_
              rintro _ rfl
              refine JR_split [11] (by kernel_rfl) rfl (all1 ?_)
              refine JK_scall rfl trivial rfl en33 (by decide) (fun w hw => last_spec _ w (hs ch (List.mem_of_getElem? hch))) (fun w hw => hw) ?_
              rintro _ rfl
              refine JR_v (i := 12) rfl (by kernel_rfl) (by kernel_rfl) rfl (by kernel_rfl) (by kernel_rfl) (panic_then (panic_Then (panic_block (panic_Then (panic_then (panic_block (panic_Then (panic_block (panic_Then (panic_then (panic_block (panic_Then panic_body)))))))))))) (by decide) (vo_scmp rfl rfl rfl) (fun w hw => hw) ?_
              refine JR_v (i := 13) rfl (by kernel_rfl) (by kernel_rfl) rfl (by kernel_rfl) (by kernel_rfl) (panic_then (panic_Then (panic_block (panic_Then (panic_then (panic_block (panic_Then (panic_block (panic_Then (panic_then (panic_block (panic_Then panic_body)))))))))))) (by decide) (vo_assign rfl) (fun w hw => hw) ?_
              refine JR_done (by kernel_rfl) ?_
              refine JX_joinB _ ⟨rfl, (by repeat (first | exact trivial | refine ⟨rfl, ?_⟩ | refine ⟨trivial, ?_⟩))⟩ ?_
              rfl
            · refine JX_then ?_
              refine JC_seq ?_
              refine JC_joinB 78 (decide ((in8 l used ch k).1 < 0) || (beq (lastP dh.path) (lastP ch.path) && !(in8 l used ch k).2)) ?_ ?_
              · refine JC_region ?_
                refine JL_v (vo_move rfl) nofun (by decide) ?_
                refine JL_v (vo_cmp rfl rfl rfl) nofun (by decide) ?_
                refine JL_v (vo_move rfl) nofun (by decide) ?_
                refine JL_case 72 rfl (fun hg72 => ?_) (fun hg72 => ?_)
                · refine JL_no rfl rfl (by decide) ?_
                  refine JL_no rfl rfl (by decide) ?_
                  refine JL_nou rfl rfl (by decide) ?_
                  refine JL_nou rfl rfl (by decide) ?_
                  refine JL_no rfl rfl (by decide) ?_
                  refine JL_v (vo_pick rfl rfl) nofun (by decide) ?_
                  refine JL_nil ?_
                  refine JX_joinB _ ⟨rfl, (by repeat (first | exact trivial | refine ⟨rfl, ?_⟩ | refine ⟨trivial, ?_⟩))⟩ ?_
                  simp_all <;> omega
                · refine JL_yes rfl rfl ?_
                  refine JL_v (vo_move rfl) nofun (by decide) ?_
                  refine JL_yes rfl rfl ?_
                  refine JL_v (vo_move rfl) nofun (by decide) ?_
                  refine JL_case 74 rfl (fun hg74 => ?_) (fun hg74 => ?_)
                  · refine JL_yes rfl rfl ?_
                    refine JL_v (vo_move rfl) nofun (by decide) ?_
                    refine JL_yes rfl rfl ?_
                    refine JL_v (vo_not rfl) nofun (by decide) ?_
                    refine JL_yes rfl rfl ?_
                    refine JL_v (vo_pick rfl rfl) nofun (by decide) ?_
                    refine JL_v (vo_pick rfl rfl) nofun (by decide) ?_
                    refine JL_nil ?_
                    refine JX_joinB _ ⟨rfl, (by repeat (first | exact trivial | refine ⟨rfl, ?_⟩ | refine ⟨trivial, ?_⟩))⟩ ?_
                    simp_all <;> omega
                  · refine JL_no rfl rfl (by decide) ?_
                    refine JL_no rfl rfl (by decide) ?_
                    refine JL_yes rfl rfl ?_
                    refine JL_v (vo_pick rfl rfl) nofun (by decide) ?_
                    refine JL_v (vo_pick rfl rfl) nofun (by decide) ?_
                    refine JL_nil ?_
                    refine JX_joinB _ ⟨rfl, (by repeat (first | exact trivial | refine ⟨rfl, ?_⟩ | refine ⟨trivial, ?_⟩))⟩ ?_
                    simp_all <;> omega
              · refine JX_then ?_
                refine JC_joinV [(6, .int .i64 (in8 l used ch (k + 1)).1), (7, .bool (in8 l used ch (k + 1)).2)] ?_ ?_
                · refine JC_cond _ rfl (fun hc78 => ?_) (fun hc78 => ?_)
                  · refine JC_region ?_
                    refine JL_v (vo_move rfl) nofun (by decide) ?_
                    refine JL_v (vo_move rfl) nofun (by decide) ?_
                    refine JL_v (vo_assign rfl) nofun (by decide) ?_
                    refine JL_v (vo_assign rfl) nofun (by decide) ?_
                    refine JL_nil ?_
                    have hst : in8 l used ch (k + 1) = ((k : Int), lastIs l ch k) := by
                      rw [in8, hgd, hba, hna, if_neg (by simp [hc56]), if_pos (by unfold lastIs; rw [hpa]; exact hc78)]
                    refine JX_joinV [(6, _), (7, _)] (by repeat (first | exact trivial | refine ⟨rfl, ?_⟩ | refine ⟨trivial, ?_⟩)) ?_
                    rw [hst]
                    unfold lastIs
                    rw [hpa]
                  · refine JC_skip ?_
                    have hst : in8 l used ch (k + 1) = in8 l used ch k := by
                      rw [in8, hgd, hba, hna, if_neg (by simp [hc56]), if_neg (by unfold lastIs; rw [hpa]; simp [hc78])]
                    refine JX_joinV [(6, _), (7, _)] (by repeat (first | exact trivial | refine ⟨rfl, ?_⟩ | refine ⟨trivial, ?_⟩)) ?_
                    rw [hst]
                · refine JX_block ?_
                  refine JX_then ?_
                  refine JC_region ?_
                  refine JL_v (vo_move rfl) nofun (by decide) ?_
                  refine JL_v (vo_add rfl rfl (by omega) (by omega)) nofun (by decide) ?_
                  refine JL_v (vo_assign rfl) nofun (by decide) ?_
                  refine JL_nil ?_
                  refine JX_loop ⟨k + 1, hkl⟩ (by show l.length - (k + 1) < l.length - k; omega) (by repeat (first | exact trivial | refine ⟨rfl, ?_⟩ | refine ⟨trivial, ?_⟩)) (fun w hw => hw)
      · refine JC_exit ?_
        refine JX_then_exit ?_
        refine JX_thenK_exit ?_
        refine JX_block_exit ?_
        refine JX_then ?_
        refine JC_seq ?_
        refine JC_region ?_
        have hke : k = l.length := by simp at hc28; omega
        subst hke
        have hfx := hf (conOf ch.old)
        refine JL_v (vo_move rfl) nofun (by decide) ?_
        refine JL_v (vo_cmp rfl rfl rfl) nofun (by decide) ?_
        refine JL_nil ?_
        refine JX_then ?_
        refine JC_cond _ rfl (fun hc82 => ?_) (fun hc82 => ?_)
        · have hne : freeAt l used l.length (conOf ch.old) ≠ [] := by
            intro h0
            rw [in8_none htk h0] at hc82
            simp at hc82
          obtain ⟨to, hto⟩ : ∃ to, (freeAt l used l.length (conOf ch.old))[pickJ (lastIs l ch) (freeAt l used l.length (conOf ch.old))]? = some to := ⟨_, List.getElem?_eq_getElem (pickJ_lt _ _ hne)⟩
          have hin : (in8 l used ch l.length).1 = (to : Int) := by
            rw [in8_some htk hne, List.getD_eq_getElem?_getD, hto]; rfl
          have htl := (freeAt_lt (List.mem_of_getElem? hto)).1
          obtain ⟨dh, hdh⟩ : ∃ dh, l[to]? = some dh := ⟨_, List.getElem?_eq_getElem htl⟩
          obtain ⟨b2, o2, c2, cs2, te2, fr2, hv2, hfb2, hseg2⟩ := hr.at_ hdh
          cases hv2
          have h9 := hfb.at_.symm.trans hfb2.at_
          cases h9
          clear hfb2
          have hpa := pathAt_get hdh
          have hst : movesSt l (i + 1) = (fun x => if x = conOf ch.old then (freeAt l used l.length (conOf ch.old)).eraseIdx (pickJ (lastIs l ch) (freeAt l used l.length (conOf ch.old))) else (movesSt l i).1 x, (movesSt l i).2 ++ [(ch.path, dh.path)]) := by
            rw [movesSt_succ hch, step9, hfx, if_pos ⟨htk, hne⟩, List.getD_eq_getElem?_getD, hto, Option.getD_some, hpa]
          rw [hin]
          refine JC_seq ?_
          refine JC_region ?_
          refine JL_v (vo_move rfl) nofun (by decide) ?_
          refine JL_v (vo_move rfl) nofun (by decide) ?_
          refine JL_v (vo_indexAddr rfl rfl Try.underlying86 sz4 (by omega) (by omega)) nofun (by decide) ?_
          refine st_storeRow rfl rfl sz4 (by exact one_of_all rfl) (by show 0 + (to : Int).toNat * 1 + 1 ≤ l.length * 1; omega) (by repeat (first | exact .head _ _ _ | apply Turn.tail)) ?_
          refine JL_nil ?_
          refine JX_then ?_
          refine JC_draw (F := Later w (fun _ => False) (fun b => b < w.heap.size) (fun b => b < w.heap.size) w) 15 (by kernel_rfl) (fun w hw => Mem.drew hw) ?_
          refine JR_v (i := 0) rfl (by kernel_rfl) (by kernel_rfl) rfl (by kernel_rfl) (by kernel_rfl) (panic_block (panic_Then (panic_then (panic_block (panic_Then panic_body))))) (by decide) (vo_move rfl) (fun w hw => hw.later) ?_
          refine JR_v (i := 1) rfl (by kernel_rfl) (by kernel_rfl) rfl (by kernel_rfl) (by kernel_rfl) (panic_block (panic_Then (panic_then (panic_block (panic_Then panic_body))))) (by decide) (vo_move rfl) (fun w hw => hw.later) ?_
          refine JR_v (i := 2) rfl (by kernel_rfl) (by kernel_rfl) rfl (by kernel_rfl) (by kernel_rfl) (panic_block (panic_Then (panic_then (panic_block (panic_Then panic_body))))) (by decide) (vo_move rfl) (fun w hw => hw.later) ?_
          refine JR_v (i := 3) rfl (by kernel_rfl) (by kernel_rfl) rfl (by kernel_rfl) (by kernel_rfl) (panic_block (panic_Then (panic_then (panic_block (panic_Then panic_body))))) (by decide) (vo_indexAddr rfl rfl Try.underlying22 sz53 (by omega) (by omega)) (fun w hw => hw.later) ?_
          refine JR_v (i := 4) rfl (by kernel_rfl) (by kernel_rfl) rfl (by kernel_rfl) (by kernel_rfl) (panic_block (panic_Then (panic_then (panic_block (panic_Then panic_body))))) (by decide) (vo_fieldAddr rfl fo53_0) (fun w hw => hw.later) ?_
          refine JR_v (i := 5) rfl (by kernel_rfl) (by kernel_rfl) rfl (by kernel_rfl) (by kernel_rfl) (panic_block (panic_Then (panic_then (panic_block (panic_Then panic_body))))) (by decide) (vo_loadF rfl hfb (pc_path hseg)) (fun w hw => hw.later) ?_
          refine JR_v (i := 6) rfl (by kernel_rfl) (by kernel_rfl) rfl (by kernel_rfl) (by kernel_rfl) (panic_block (panic_Then (panic_then (panic_block (panic_Then panic_body))))) (by decide) (vo_move rfl) (fun w hw => hw.later) ?_
          refine JR_v (i := 7) rfl (by kernel_rfl) (by kernel_rfl) rfl (by kernel_rfl) (by kernel_rfl) (panic_block (panic_Then (panic_then (panic_block (panic_Then panic_body))))) (by decide) (vo_move rfl) (fun w hw => hw.later) ?_
          refine JR_v (i := 8) rfl (by kernel_rfl) (by kernel_rfl) rfl (by kernel_rfl) (by kernel_rfl) (panic_block (panic_Then (panic_then (panic_block (panic_Then panic_body))))) (by decide) (vo_indexAddr rfl rfl Try.underlying22 sz53 (by omega) (by omega)) (fun w hw => hw.later) ?_
          refine JR_v (i := 9) rfl (by kernel_rfl) (by kernel_rfl) rfl (by kernel_rfl) (by kernel_rfl) (panic_block (panic_Then (panic_then (panic_block (panic_Then panic_body))))) (by decide) (vo_fieldAddr rfl fo53_0) (fun w hw => hw.later) ?_
          refine JR_v (i := 10) rfl (by kernel_rfl) (by kernel_rfl) rfl (by kernel_rfl) (by kernel_rfl) (panic_block (panic_Then (panic_then (panic_block (panic_Then panic_body))))) (by decide) (vo_loadF rfl hfb (pc_path hseg2)) (fun w hw => hw.later) ?_
          refine JR_v (i := 11) rfl (by kernel_rfl) (by kernel_rfl) rfl (by kernel_rfl) (by kernel_rfl) (panic_block (panic_Then (panic_then (panic_block (panic_Then panic_body))))) (by decide) (vo_build rfl (by first | exact bl48 _ _)) (fun w hw => hw.later) ?_
          refine JR_split [12] (by kernel_rfl) rfl (all1 ?_)
          refine JK_op (β := Nat) (fun b => .slice (some ⟨b, 0, none⟩) 1 1) _ rfl rfl (by decide) trivial (do_bslice1 rfl Try.underlying42 (by first | exact zr48) sz48 (by exact Nat.le_of_ble_eq_true rfl) (by exact Nat.ne_of_gt (Nat.le_of_ble_eq_true rfl))) (fun b w hw => hw.laterE (Ext.refl _ _)) (fun b98 => ?_)
          refine JR_split [13] (by kernel_rfl) rfl (all1 ?_)
          refine JK_op (β := Value) (fun v => v) _ rfl rfl (by decide) trivial (do_appendB rfl rfl Try.underlying42 ap48 (by rfl) (by decide) (by first | exact .frz ‹_› | exact .own (by repeat (first | exact .head _ | refine .tail _ ?_))) (by repeat (first | exact .head _ | apply TurnF.tail)) (by rfl) (by first | exact one_of_all rfl | assumption) (by omega) (by decide)) (fun v w hw => hw.laterE (Ext.refl _ _)) (fun v99 => ?_)
          refine JR_v (i := 14) rfl (by kernel_rfl) (by kernel_rfl) rfl (by kernel_rfl) (by kernel_rfl) (panic_block (panic_Then (panic_then (panic_block (panic_Then panic_body))))) (by decide) (vo_assign rfl) (fun w hw => hw.later) ?_
          refine JR_done (by kernel_rfl) ?_
          refine JX_block ?_
          refine JX_then ?_
          refine JC_region ?_
          refine JL_v (vo_move rfl) nofun (by decide) ?_
          refine JL_v (vo_add rfl rfl (by omega) (by omega)) nofun (by decide) ?_
          refine JL_v (vo_assign rfl) nofun (by decide) ?_
          refine JL_nil ?_
          refine JX_loop ⟨i + 1, used.set to true, v99, hil, by simp [hu], fun x => ?_⟩ (by show l.length - (i + 1) < l.length - i; omega) (by repeat (first | exact trivial | refine ⟨rfl, ?_⟩ | refine ⟨trivial, ?_⟩)) (fun w hw => ?_)
          · rw [hst, freeAt_set (by omega) hto x]
            dsimp only
            split
            · rfl
            · exact hf x
          dsimp only
          have h3 : laid (boolsC used) (0 + (to : Int).toNat * 1) (Value.cells (.bool true)).toList = boolsC (used.set to true) := by
            rw [show 0 + (to : Int).toNat * 1 = to by omega]
            show laid (boolsC used) to [.bool true] = _
            rw [laid_one _ _ _ (by rw [boolsC_length]; omega)]
            simp [boolsC]
          rw [h3] at hw
          rw [hst]
          have := hw.sub (L' := _) (.cons _ (List.Sublist.refl _))
          simpa [List.flatMap_append, Value.cells] using this
        · have hnil : freeAt l used l.length (conOf ch.old) = [] := by
            cases h0 : freeAt l used l.length (conOf ch.old) with
            | nil => rfl
            | cons a b =>
              rw [in8_some htk (by rw [h0]; simp)] at hc82
              simp at hc82
          have hst := at8_skip hch (by rintro ⟨_, h1⟩; exact h1 (hfx.trans hnil))
          refine JC_skip ?_
          refine JX_block ?_
          refine JX_then ?_
          refine JC_region ?_
          refine JL_v (vo_move rfl) nofun (by decide) ?_
          refine JL_v (vo_add rfl rfl (by omega) (by omega)) nofun (by decide) ?_
          refine JL_v (vo_assign rfl) nofun (by decide) ?_
          refine JL_nil ?_
          refine JX_loop ⟨i + 1, used, vo, hil, hu, by rw [hst]; exact hf⟩ (by show l.length - (i + 1) < l.length - i; omega) (by repeat (first | exact trivial | refine ⟨rfl, ?_⟩ | refine ⟨trivial, ?_⟩)) (fun w hw => ?_)
          dsimp only
          rw [hst]
          exact hw
  · refine JC_exit ?_
    refine JX_then_exit ?_
    refine JX_thenK_exit ?_
    refine JX_block_exit ?_
    refine JX_then ?_
    refine JC_seq ?_
    refine JC_region ?_
    refine JL_v (vo_move rfl) nofun (by decide) ?_
    refine JL_v (vo_assign rfl) nofun (by decide) ?_
    refine JL_nil ?_
    refine JX_then ?_
    refine JC_ret ?_
    refine ret1 rfl rfl ?_
    intro w1 hM
    have hie : i = l.length := by simp at hc16; omega
    subst hie
    exact OC_end hM (.head _) ⟨rfl, rfl⟩

end Go.Eng

set_option linter.unusedVariables false
set_option linter.unusedSimpArgs false
namespace Go.Eng
open Go Go.RowKit Go.Proofs
def txtV (s : ByteArray) : Value := .string s
def conV (c : Con) : Value := .agg (conC c).toArray
abbrev GSt := Grps Con ByteArray
theorem freeAt_le (l : List Chg) (used : List Bool) (n : Nat) (x : Con) : (freeAt l used n x).length ≤ n := by
  have := List.length_filter_le (fun k => !used.getD k false && bringsAt l k && decide (conOf (newAt l k) = x)) (List.range n)
  simpa [freeAt] using this
theorem free_mem (l : List Chg) : ∀ (i : Nat) (x : Con), ∀ k ∈ (movesSt l i).1 x, k < l.length
  | 0, x, k, h => (freeAt_lt h).1
  | i + 1, x, k, h => by
    rw [movesSt] at h
    split at h
    · unfold step9 at h
      split at h
      · dsimp only at h
        split at h
        · exact free_mem l i _ k (List.mem_of_mem_eraseIdx h)
        · exact free_mem l i _ k h
      · exact free_mem l i _ k h
    · exact free_mem l i _ k h
theorem free_len (l : List Chg) : ∀ (i : Nat) (x : Con), ((movesSt l i).1 x).length ≤ l.length
  | 0, x => freeAt_le l [] l.length x
  | i + 1, x => by
    rw [movesSt]
    split
    · unfold step9
      split
      · dsimp only
        split
        · rw [List.length_eraseIdx]
          have := free_len l i
          split
          · have := this (conOf ‹Chg›.old); omega
          · exact this _
        · exact free_len l i x
      · exact free_len l i x
    · exact free_len l i x
/-- the first round -/
structure At9 (l : List Chg) where
  k : Nat
  st : GSt
  o : Obj
  hk : k ≤ l.length
  hm : MapS conV (gM st) o
  hg : ∀ x, gG st x = (freeAt l [] k x).map (pathAt l)
theorem at9_snoc {l : List Chg} {st : GSt} {k : Nat} {c : Chg} (hc : l[k]? = some c) (hb : bringsB c = true) (hg : ∀ y, gG st y = (freeAt l [] k y).map (pathAt l)) (hn : ∀ p ∈ st, p.1 ≠ conOf c.new) (v : Value) :
    ∀ y, gG (st ++ [(conOf c.new, v, [c.path])]) y = (freeAt l [] (k + 1) y).map (pathAt l) := fun y => by
  rw [gG_snoc hn, freeAt_succ, List.map_append, ← hg y]
  rw [bringsAt_get hc, newAt_get hc, hb]
  by_cases h : conOf c.new = y
  · subst h
    rw [if_pos rfl, gG_none hn]; simp [pathAt_get hc]
  · rw [if_neg h]; simp [h]
theorem at9_mid {l : List Chg} {s1 s2 : GSt} {k : Nat} {c : Chg} {u : Value} {ks : List ByteArray} (hc : l[k]? = some c) (hb : bringsB c = true) (hg : ∀ y, gG (s1 ++ (conOf c.new, u, ks) :: s2) y = (freeAt l [] k y).map (pathAt l)) (hn : ∀ p ∈ s1, p.1 ≠ conOf c.new) (v : Value) :
    ∀ y, gG (s1 ++ (conOf c.new, v, ks ++ [c.path]) :: s2) y = (freeAt l [] (k + 1) y).map (pathAt l) := fun y => by
  rw [freeAt_succ, List.map_append, ← hg y]
  rw [bringsAt_get hc, newAt_get hc, hb]
  by_cases h : conOf c.new = y
  · subst h
    rw [gG_mid hn, gG_mid hn]; simp [pathAt_get hc]
  · rw [gG_other (v := u) (ls := ks) h]; simp [h]
theorem at9_same {l : List Chg} {k : Nat} {c : Chg} (hc : l[k]? = some c) (hb : bringsB c = false) (y : Con) : freeAt l [] (k + 1) y = freeAt l [] k y := by
  rw [freeAt_succ, bringsAt_get hc, hb]; simp
/-- the second round -/
structure Bt9 (l : List Chg) where
  i : Nat
  st : GSt
  o : Obj
  vo : Value
  hi : i ≤ l.length
  hm : MapS conV (gM st) o
  hg : ∀ x, gG st x = ((movesSt l i).1 x).map (pathAt l)
theorem idxS_map {α β : Type} (q : β → Bool) (g : α → β) : ∀ (l : List α) (i : Int), idxS q (l.map g) i = idxS (fun a => q (g a)) l i
  | [], _ => rfl
  | x :: l, i => by simp only [List.map_cons, idxS, idxS_map q g l]
theorem pick_int (q : Nat → Bool) (fs : List Nat) : (if (0 : Int) > idxS q fs 0 then (0 : Int) else idxS q fs 0) = (pickJ q fs : Nat) := by
  unfold pickJ
  split
  · rfl
  · omega
theorem map_erase {α β : Type} (f : α → β) : ∀ (l : List α) (i : Nat), (l.map f).eraseIdx i = (l.eraseIdx i).map f
  | [], _ => rfl
  | x :: l, 0 => rfl
  | x :: l, i + 1 => by simp [map_erase f l i]
theorem bt9_step {l : List Chg} {i : Nat} {c : Chg} {s1 s2 : GSt} {u : Value} {ks : List ByteArray} (hc : l[i]? = some c) (ht : takesB c = true) (hg : ∀ x, gG (s1 ++ (conOf c.old, u, ks) :: s2) x = ((movesSt l i).1 x).map (pathAt l)) (hn : ∀ p ∈ s1, p.1 ≠ conOf c.old) (hne : ks ≠ []) (v : Value) :
    (∀ x, gG (s1 ++ (conOf c.old, v, ks.eraseIdx (pickJ (lastIs l c) ((movesSt l i).1 (conOf c.old)))) :: s2) x = ((movesSt l (i + 1)).1 x).map (pathAt l)) ∧
    ∃ p, ks[pickJ (lastIs l c) ((movesSt l i).1 (conOf c.old))]? = some p ∧ (movesSt l (i + 1)).2 = (movesSt l i).2 ++ [(c.path, p)] := by
  have hks := hg (conOf c.old)
  rw [gG_mid hn] at hks
  have hfs : (movesSt l i).1 (conOf c.old) ≠ [] := by
    intro h0
    rw [h0] at hks
    exact hne (by simpa using hks)
  have hst := movesSt_succ hc
  rw [step9, if_pos ⟨ht, hfs⟩] at hst
  rw [hst]
  refine ⟨fun x => ?_, ?_⟩
  · dsimp only
    by_cases hx : x = conOf c.old
    · subst hx
      rw [gG_mid hn, if_pos rfl, hks, map_erase]
    · rw [if_neg hx, gG_other (v := u) (ls := ks) (fun e => hx e.symm), hg]
  · have hj := pickJ_lt (lastIs l c) _ hfs
    refine ⟨_, by rw [hks, List.getElem?_map, List.getElem?_eq_getElem hj]; rfl, ?_⟩
    dsimp only
    rw [List.getD_eq_getElem?_getD, List.getElem?_eq_getElem hj]
    rfl
theorem perm_mid5 (a b c d e m : Res) (s t : List Res) : (a :: b :: c :: d :: e :: (s ++ m :: t)).Perm (m :: a :: b :: c :: d :: e :: (s ++ t)) := by
  have := @List.perm_middle _ m (a :: b :: c :: d :: e :: s) t
  simpa using this
theorem perm_mid2 (a b m : Res) (s t : List Res) : (m :: a :: b :: (s ++ t)).Perm (a :: b :: (s ++ m :: t)) := by
  have := @List.perm_middle _ m (a :: b :: s) t
  simpa using this.symm
end Go.Eng
