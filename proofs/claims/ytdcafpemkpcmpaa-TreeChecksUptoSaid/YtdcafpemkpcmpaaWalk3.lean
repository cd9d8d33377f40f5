/-
  Part of the proofs over this seat: D4 D5 W6 W7 W8. Own work; imports the kit.
-/
import Derived.Test.YtdcafpemkpcmpaaWalk2
import Derived.Test.YtdcafpemkpcmpaaEng2
import Derived.Test.YtdcafpemkpcmpaaData1
set_option linter.unusedVariables false
set_option linter.unusedSimpArgs false
namespace Go.Eng
open Go Go.RowKit Go.Proofs

/-! ### trees -/
inductive Tr where
  | mk (val : Val) (marks : Mk2) (names : List ByteArray) (kids : List Tr)
def Tr.val : Tr → Val | .mk v _ _ _ => v
def Tr.marks : Tr → Mk2 | .mk _ m _ _ => m
def Tr.names : Tr → List ByteArray | .mk _ _ n _ => n
def Tr.kids : Tr → List Tr | .mk _ _ _ k => k
mutual
def Tr.count : Tr → Nat
  | .mk _ _ _ ks => 1 + cntL ks
def cntL : List Tr → Nat
  | [] => 0
  | k :: ks => k.count + cntL ks
end
mutual
def Tr.depth : Tr → Nat
  | .mk _ _ _ ks => depL ks
def depL : List Tr → Nat
  | [] => 0
  | k :: ks => max (k.depth + 1) (depL ks)
end
theorem cntL_append : ∀ a b : List Tr, cntL (a ++ b) = cntL a + cntL b
  | [], b => by simp [cntL]
  | x :: a, b => by simp only [List.cons_append, cntL, cntL_append a b]; omega
theorem depL_append : ∀ a b : List Tr, depL (a ++ b) = max (depL a) (depL b)
  | [], b => by simp [depL]
  | x :: a, b => by simp only [List.cons_append, depL, depL_append a b]; omega
theorem take_snoc_get {α : Type} {l : List α} {i : Nat} {x : α} (h : l[i]? = some x) : l.take (i + 1) = l.take i ++ [x] := by
  obtain ⟨hi, rfl⟩ := List.getElem?_eq_some_iff.1 h
  rw [List.take_succ_eq_append_getElem hi]
theorem cntL_take (ks : List Tr) (i : Nat) : cntL (ks.take i) ≤ cntL ks := by
  conv => rhs; rw [← List.take_append_drop i ks, cntL_append]
  omega
mutual
theorem Tr.depth_lt : ∀ t : Tr, t.depth + 1 ≤ t.count
  | .mk v m ns ks => by
    have := depL_le ks
    simp only [Tr.depth, Tr.count]; omega
theorem depL_le : ∀ ks : List Tr, depL ks ≤ cntL ks
  | [] => by simp [depL]
  | k :: ks => by
    have := Tr.depth_lt k
    have := depL_le ks
    simp only [depL, cntL]; omega
end
theorem cntL_mem {k : Tr} : ∀ {ks : List Tr}, k ∈ ks → k.count ≤ cntL ks
  | x :: ks, h => by
    rcases List.mem_cons.1 h with rfl | h
    · simp only [cntL]; omega
    · have := cntL_mem h; simp only [cntL]; omega
theorem depL_mem {k : Tr} : ∀ {ks : List Tr}, k ∈ ks → k.depth + 1 ≤ depL ks
  | x :: ks, h => by
    rcases List.mem_cons.1 h with rfl | h
    · simp only [depL]; omega
    · have := depL_mem h; simp only [depL]; omega
def treeC (v : Val) (m : Mk2) (nv kv : Value) (c d : Int) : List Value := valC v ++ (mk2C m ++ [nv, kv, .int .i64 c, .int .i64 d])
def ptrV (b : Nat) : Value := .pointer (some ⟨b, 0, none⟩)
def strV (s : ByteArray) : Value := .string s
inductive RTree (Z : Nat → Prop) (w : World) : Tr → Nat → Prop
  | mk {v : Val} {m : Mk2} {ns : List ByteArray} {ks : List Tr} {b : Nat} {nv kv : Value} (ps : List Nat) (hb : FB Z w b (.cells (treeC v m nv kv (Tr.mk v m ns ks).count (Tr.mk v m ns ks).depth).toArray 120 (0, 0)))
    (hnk : ns.length = ks.length) (hps : ps.length = ks.length) (hn : RVals Z w (ns.map strV) nv) (hk : RVals Z w (ps.map ptrV) kv)
    (ht : ∀ (i : Nat) (k : Tr) (p : Nat), ks[i]? = some k → ps[i]? = some p → RTree Z w k p) : RTree Z w (.mk v m ns ks) b
theorem RTree.ext {Z Z' : Nat → Prop} {w w' : World} (h : Ext Z w Z' w') : ∀ {T : Tr} {b : Nat}, RTree Z w T b → RTree Z' w' T b := by
  intro T b hr
  induction hr with
  | mk ps hb hnk hps hn hk ht ih => exact .mk ps (h.fb _ _ hb) hnk hps (hn.ext h) (hk.ext h) ih
/-- open a tree -/
theorem RTree.open_ {Z : Nat → Prop} {w : World} {v : Val} {m : Mk2} {ns : List ByteArray} {ks : List Tr} {b : Nat} (h : RTree Z w (.mk v m ns ks) b) :
    ∃ (nv kv : Value) (ps : List Nat), FB Z w b (.cells (treeC v m nv kv (Tr.mk v m ns ks).count (Tr.mk v m ns ks).depth).toArray 120 (0, 0)) ∧ ns.length = ks.length ∧ ps.length = ks.length ∧ RVals Z w (ns.map strV) nv ∧ RVals Z w (ps.map ptrV) kv ∧
      (∀ (i : Nat) (k : Tr) (p : Nat), ks[i]? = some k → ps[i]? = some p → RTree Z w k p) := by
  cases h with
  | mk ps hb hnk hps hn hk ht => exact ⟨_, _, ps, hb, hnk, hps, hn, hk, ht⟩
theorem bl120 (v : Val) (m : Mk2) (A A' : Option Addr) (n c n' c' : Nat) : Try.prog.built 120 [(0, .agg (valC v).toArray), (1, .agg (mk2C m).toArray), (2, .slice A n c), (3, .slice A' n' c'), (4, .int .i64 1)] = some (treeC v m (.slice A n c) (.slice A' n' c') 1 0).toArray := by kernel_rfl
theorem set_count (v : Val) (m : Mk2) (nv kv : Value) (c d x : Int) : setSeg (treeC v m nv kv c d).toArray 41 [.int .i64 x] = (treeC v m nv kv x d).toArray := by rfl
theorem set_depth (v : Val) (m : Mk2) (nv kv : Value) (c d x : Int) : setSeg (treeC v m nv kv c d).toArray 42 [.int .i64 x] = (treeC v m nv kv c x).toArray := by rfl
end Go.Eng

set_option linter.unusedVariables false
set_option linter.unusedSimpArgs false
namespace Go.Eng
open Go Go.RowKit Go.Proofs
mutual
def trOf : Nd → Tr
  | .mk _ v m ks => .mk v m (namesOf ks) (trsOf ks)
def trsOf : List Nd → List Tr
  | [] => []
  | k :: ks => trOf k :: trsOf ks
def namesOf : List Nd → List ByteArray
  | [] => []
  | k :: ks => k.name :: namesOf ks
end
theorem namesOf_eq : ∀ ks, namesOf ks = ks.map Nd.name
  | [] => by simp [namesOf]
  | k :: ks => by simp [namesOf, namesOf_eq ks]
theorem trsOf_eq : ∀ ks, trsOf ks = ks.map trOf
  | [] => by simp [trsOf]
  | k :: ks => by simp [trsOf, trsOf_eq ks]
/-- the run of 'grow' over the kids -/
structure GrowAt (ks : List Nd) (Z0 : Nat → Prop) (w0 : World) where
  i : Nat
  Z : Nat → Prop
  wz : World
  ps : List Nat
  vn : Value
  vk : Value
  hi : i ≤ ks.length
  ext : Ext Z0 w0 Z wz
  hps : ps.length = i
  ht : ∀ (j : Nat) (k : Nd) (p : Nat), ks[j]? = some k → ps[j]? = some p → RTree (NZ w0.heap.size Z) wz (trOf k) p
theorem GrowAt.push {ks : List Nd} {Z0 : Nat → Prop} {w0 : World} (x : GrowAt ks Z0 w0) {Z' : Nat → Prop} {wz' : World} {k : Nd} {b : Nat} (he : Ext x.Z x.wz Z' wz') (hk : ks[x.i]? = some k) (hr : RTree (NZ w0.heap.size Z') wz' (trOf k) b) (vn vk : Value) :
    ∃ y : GrowAt ks Z0 w0, y.i = x.i + 1 ∧ y.Z = Z' ∧ y.wz = wz' ∧ y.ps = x.ps ++ [b] ∧ y.vn = vn ∧ y.vk = vk := by
  refine ⟨⟨x.i + 1, Z', wz', x.ps ++ [b], vn, vk, (List.getElem?_eq_some_iff.1 hk).1, x.ext.trans he, by simp [x.hps], fun j k' p hj hp => ?_⟩, rfl, rfl, rfl, rfl, rfl, rfl⟩
  have hxi := x.hps
  rw [List.getElem?_append] at hp
  split at hp
  · exact (x.ht j k' p hj hp).ext (he.nz _)
  · rename_i h
    have : j = x.i := by
      have h2 := (List.getElem?_eq_some_iff.1 hp).1
      simp at h2; omega
    subst this
    rw [hk] at hj
    cases hj
    have : p = b := by simp [hxi] at hp; exact hp.symm
    subst this
    exact hr
theorem grows_tree (T : Tr) : Grows (fun Z w u => ∃ b, u = ptrV b ∧ RTree Z w T b) := fun Z Z' w v h ⟨b, e, hr⟩ => ⟨b, e, hr.ext (Ext.sub h)⟩
end Go.Eng

set_option linter.unusedVariables false
set_option linter.unusedSimpArgs false
namespace Go.Eng
open Go Go.RowKit Go.Proofs
theorem fo120_4 : fieldOff Try.prog 120 4 = some 41 := by kernel_rfl
theorem fo120_5 : fieldOff Try.prog 120 5 = some 42 := by kernel_rfl
theorem sz55 : (Try.prog.info? 55).map (·.size) = some 1 := by kernel_rfl

set_option maxRecDepth 8000 in
set_option maxHeartbeats 1000000 in
theorem made_spec {Z : Nat → Prop} (v : Val) (m : Mk2) (ns : List ByteArray) (ks : List Tr) (ps : List Nat) (nv kv : Value) (hnk : ns.length = ks.length) (hps : ps.length = ks.length) (hc : (Tr.mk v m ns ks).count ≤ 1000000000000) (w : World) (hz : ∀ b, Z b → b < w.heap.size) (hn : RVals Z w (ns.map strV) nv) (hk : RVals Z w (ps.map ptrV) kv) (ht : ∀ (i : Nat) (k : Tr) (p : Nat), ks[i]? = some k → ps[i]? = some p → RTree Z w k p) : PCalls Try.prog 91 #[.agg (valC v).toArray, .agg (mk2C m).toArray, nv, kv] w Z (fun Z' w' u => ∃ b, u = ptrV b ∧ RTree Z' w' (.mk v m ns ks) b) := by
  obtain ⟨An, cn, rfl, hln⟩ := hn.slice
  obtain ⟨Ak, ck, rfl, hlk⟩ := hk.slice
  simp only [List.length_map] at hln hlk
  simp only [List.length_map]
  refine enter (N := 50) Try.func91 rfl Try.ntmps91 (Nat.le_of_ble_eq_true rfl) [(0, .agg (valC v).toArray), (1, .agg (mk2C m).toArray), (2, .slice An ns.length cn), (3, .slice Ak ps.length ck)] (by repeat (first | exact trivial | refine ⟨rfl, ?_⟩)) (Mem.start w (fun _ => False) Z hz) ?_
  refine JC_seq ?_
  refine JC_region ?_
  refine st_box rfl (by decide) (fun b4 => ?_)
  refine st_box rfl (by decide) (fun b5 => ?_)
  refine JL_v (vo_assign rfl) nofun (by decide) ?_
  refine JL_nil ?_
  refine JX_then ?_
  refine JC_seq ?_
  refine JC_region ?_
  refine JL_v (vo_load rfl (by first | exact .frz ‹_› | exact .own (by repeat (first | exact .head _ | refine .tail _ ?_))) (by first | exact PartAt.whole Try.underlying24 rfl sz24 | exact .cell Try.underlying55 rfl (by simpa using hcell))) nofun (by decide) ?_
  refine JL_v (vo_load rfl (by first | exact .frz ‹_› | exact .own (by repeat (first | exact .head _ | refine .tail _ ?_))) (by first | exact PartAt.whole Try.underlying27 rfl sz27 | exact .cell Try.underlying55 rfl (by simpa using hcell))) nofun (by decide) ?_
  refine JL_v (vo_move rfl) nofun (by decide) ?_
  refine JL_v (vo_move rfl) nofun (by decide) ?_
  refine JL_v (vo_build rfl (by first | exact bl120 _ _ _ _ _ _ _ _)) nofun (by decide) ?_
  refine st_box rfl (by decide) (fun b17 => ?_)
  refine JL_v (vo_assign rfl) nofun (by decide) ?_
  refine JL_nil ?_
  refine JX_then ?_
  refine JC_seq ?_
  refine JC_seq ?_
  refine JC_region ?_
  refine JL_v (vo_move rfl) nofun (by decide) ?_
  refine JL_v (vo_len rfl Try.underlying89) nofun (by decide) ?_
  refine JL_v (vo_move rfl) nofun (by decide) ?_
  refine JL_nil ?_
  refine JX_then ?_
  refine JC_block ?_
  refine JC_loop (α := { i : Nat // i ≤ ks.length }) (fun i => [(9, ptrV b17), (18, .slice Ak ps.length ck), (19, .int .i64 ps.length), (20, .int .i64 i.1)]) (fun i => Mem w (fun _ => False) Z Z w  [.blk b17 (.cells (treeC v m (.slice An ns.length cn) (.slice Ak ps.length ck) (1 + cntL (ks.take i) : Nat) (depL (ks.take i) : Nat)).toArray 120 (0, 0))]) (fun i => ks.length - i.1) ⟨0, by omega⟩ (by repeat (first | exact trivial | refine ⟨rfl, ?_⟩ | refine ⟨trivial, ?_⟩)) (fun w hw => by simpa [cntL, depL, Value.cells] using hw.sub (List.sublist_append_left [_] _)) ?_
  rintro ⟨i, hile⟩
  dsimp only
  refine JC_seq ?_
  refine JC_region ?_
  refine JL_v (vo_cmp rfl rfl rfl) nofun (by decide) ?_
  refine JL_nil ?_
  refine JX_then ?_
  refine JC_seq ?_
  refine JC_cond _ rfl (fun hc21 => ?_) (fun hc21 => ?_)
  · have hil : i < ks.length := by simp at hc21; omega
    obtain ⟨k, hki⟩ : ∃ k, ks[i]? = some k := ⟨_, List.getElem?_eq_getElem hil⟩
    obtain ⟨p, hpi⟩ : ∃ p, ps[i]? = some p := ⟨_, List.getElem?_eq_getElem (by omega)⟩
    obtain ⟨b', o', c', cs', te, fr, hv, hfb, hcell⟩ := hk.at_ (i := i) (u := ptrV p) (by simp [hpi])
    simp only [List.length_map] at hv
    cases hv
    have hkt := ht i k p hki hpi
    obtain ⟨v', m', ns', ks'⟩ := k
    obtain ⟨nv', kv', ps', hfb', _, _, _, _, _⟩ := hkt.open_
    have hcm := cntL_mem (List.mem_of_getElem? hki)
    have hdm := depL_mem (List.mem_of_getElem? hki)
    have hct := cntL_take ks i
    have hdl := depL_le (ks.take i)
    have hdl2 := depL_le ks
    simp only [Tr.count] at hc
    have htk := take_snoc_get hki
    
    refine JC_skip ?_
    refine JX_then ?_
    refine JC_seq ?_
    refine JC_block ?_
    refine JC_seq ?_
    refine JC_region ?_
    refine JL_v (vo_indexAddr rfl rfl Try.underlying89 sz55 (by omega) (by omega)) nofun (by decide) ?_
    refine JL_v (vo_load rfl (by first | exact .frz ‹_› | exact .own (by repeat (first | exact .head _ | refine .tail _ ?_))) (by first | exact .cell Try.underlying55 rfl rfl | exact .cell Try.underlying55 rfl (by simpa using hcell))) nofun (by decide) ?_
    refine JL_v (vo_assign rfl) nofun (by decide) ?_
    refine JL_nil ?_
    refine JX_then ?_
    refine JC_seq ?_
    refine JC_drawM 11 (by kernel_rfl) (fun w hw => Mem.drew hw) ?_
    refine JR_v (i := 0) rfl (by kernel_rfl) (by kernel_rfl) rfl (by kernel_rfl) (by kernel_rfl) (panic_Then (panic_block (panic_Then (panic_then (panic_block (panic_Then panic_body)))))) (by decide) (vo_move rfl) (fun w hw => hw) ?_
    refine JR_v (i := 1) rfl (by kernel_rfl) (by kernel_rfl) rfl (by kernel_rfl) (by kernel_rfl) (panic_Then (panic_block (panic_Then (panic_then (panic_block (panic_Then panic_body)))))) (by decide) ((by first | exact vo_nilCheck rfl | exact vo_nilCheckF rfl)) (fun w hw => hw) ?_
    refine JR_v (i := 2) rfl (by kernel_rfl) (by kernel_rfl) rfl (by kernel_rfl) (by kernel_rfl) (panic_Then (panic_block (panic_Then (panic_then (panic_block (panic_Then panic_body)))))) (by decide) (vo_fieldAddr rfl fo120_4) (fun w hw => hw) ?_
    refine JR_v (i := 3) rfl (by kernel_rfl) (by kernel_rfl) rfl (by kernel_rfl) (by kernel_rfl) (panic_Then (panic_block (panic_Then (panic_then (panic_block (panic_Then panic_body)))))) (by decide) (vo_load rfl (by first | exact .frz ‹_› | exact .own (by repeat (first | exact .head _ | refine .tail _ ?_))) (by first | exact .cell Try.underlying3 rfl rfl | exact .cell Try.underlying55 rfl (by simpa using hcell))) (fun w hw => hw) ?_
    refine JR_v (i := 4) rfl (by kernel_rfl) (by kernel_rfl) rfl (by kernel_rfl) (by kernel_rfl) (panic_Then (panic_block (panic_Then (panic_then (panic_block (panic_Then panic_body)))))) (by decide) (vo_move rfl) (fun w hw => hw) ?_
    refine JR_v (i := 5) rfl (by kernel_rfl) (by kernel_rfl) rfl (by kernel_rfl) (by kernel_rfl) (panic_Then (panic_block (panic_Then (panic_then (panic_block (panic_Then panic_body)))))) (by decide) ((by first | exact vo_nilCheck rfl | exact vo_nilCheckF rfl)) (fun w hw => hw) ?_
    refine JR_v (i := 6) rfl (by kernel_rfl) (by kernel_rfl) rfl (by kernel_rfl) (by kernel_rfl) (panic_Then (panic_block (panic_Then (panic_then (panic_block (panic_Then panic_body)))))) (by decide) (vo_fieldAddr rfl fo120_4) (fun w hw => hw) ?_
    refine JR_v (i := 7) rfl (by kernel_rfl) (by kernel_rfl) rfl (by kernel_rfl) (by kernel_rfl) (panic_Then (panic_block (panic_Then (panic_then (panic_block (panic_Then panic_body)))))) (by decide) (vo_load rfl (by first | exact .frz ‹_› | exact .own (by repeat (first | exact .head _ | refine .tail _ ?_))) (by first | exact .cell Try.underlying3 rfl rfl | exact .cell Try.underlying55 rfl (by simpa using hcell))) (fun w hw => hw) ?_
    refine JR_v (i := 8) rfl (by kernel_rfl) (by kernel_rfl) rfl (by kernel_rfl) (by kernel_rfl) (panic_Then (panic_block (panic_Then (panic_then (panic_block (panic_Then panic_body)))))) (by decide) (vo_add rfl rfl (by omega) (by omega)) (fun w hw => hw) ?_
    refine JR_v (i := 9) rfl (by kernel_rfl) (by kernel_rfl) rfl (by kernel_rfl) (by kernel_rfl) (panic_Then (panic_block (panic_Then (panic_then (panic_block (panic_Then panic_body)))))) (by decide) ((by first | exact vo_nilCheck rfl | exact vo_nilCheckF rfl)) (fun w hw => hw) ?_
    refine JR_v (i := 10) rfl (by kernel_rfl) (by kernel_rfl) rfl (by kernel_rfl) (by kernel_rfl) (panic_Then (panic_block (panic_Then (panic_then (panic_block (panic_Then panic_body)))))) (by decide) (vo_fieldAddr rfl fo120_4) (fun w hw => hw) ?_
    refine JR_store rfl (by kernel_rfl) (by kernel_rfl) rfl rfl rfl sz3 (by first | exact one_of_all rfl | assumption) (by repeat (first | exact .head _ _ _ | apply Turn.tail)) (by exact Nat.le_of_ble_eq_true rfl) (by rfl) ?_
    refine JX_then ?_
    refine JC_drawM 13 (by kernel_rfl) (fun w hw => Mem.drew hw) ?_
    refine JR_v (i := 0) rfl (by kernel_rfl) (by kernel_rfl) rfl (by kernel_rfl) (by kernel_rfl) (panic_block (panic_Then (panic_then (panic_block (panic_Then panic_body))))) (by decide) (vo_move rfl) (fun w hw => hw) ?_
    refine JR_v (i := 1) rfl (by kernel_rfl) (by kernel_rfl) rfl (by kernel_rfl) (by kernel_rfl) (panic_block (panic_Then (panic_then (panic_block (panic_Then panic_body))))) (by decide) (vo_move rfl) (fun w hw => hw) ?_
    refine JR_v (i := 2) rfl (by kernel_rfl) (by kernel_rfl) rfl (by kernel_rfl) (by kernel_rfl) (panic_block (panic_Then (panic_then (panic_block (panic_Then panic_body))))) (by decide) ((by first | exact vo_nilCheck rfl | exact vo_nilCheckF rfl)) (fun w hw => hw) ?_
    refine JR_v (i := 3) rfl (by kernel_rfl) (by kernel_rfl) rfl (by kernel_rfl) (by kernel_rfl) (panic_block (panic_Then (panic_then (panic_block (panic_Then panic_body))))) (by decide) (vo_fieldAddr rfl fo120_5) (fun w hw => hw) ?_
    refine JR_v (i := 4) rfl (by kernel_rfl) (by kernel_rfl) rfl (by kernel_rfl) (by kernel_rfl) (panic_block (panic_Then (panic_then (panic_block (panic_Then panic_body))))) (by decide) (vo_load rfl (by first | exact .frz ‹_› | exact .own (by repeat (first | exact .head _ | refine .tail _ ?_))) (by first | exact .cell Try.underlying3 rfl rfl | exact .cell Try.underlying55 rfl (by simpa using hcell))) (fun w hw => hw) ?_
    refine JR_v (i := 5) rfl (by kernel_rfl) (by kernel_rfl) rfl (by kernel_rfl) (by kernel_rfl) (panic_block (panic_Then (panic_then (panic_block (panic_Then panic_body))))) (by decide) (vo_move rfl) (fun w hw => hw) ?_
    refine JR_v (i := 6) rfl (by kernel_rfl) (by kernel_rfl) rfl (by kernel_rfl) (by kernel_rfl) (panic_block (panic_Then (panic_then (panic_block (panic_Then panic_body))))) (by decide) ((by first | exact vo_nilCheck rfl | exact vo_nilCheckF rfl)) (fun w hw => hw) ?_
    refine JR_v (i := 7) rfl (by kernel_rfl) (by kernel_rfl) rfl (by kernel_rfl) (by kernel_rfl) (panic_block (panic_Then (panic_then (panic_block (panic_Then panic_body))))) (by decide) (vo_fieldAddr rfl fo120_5) (fun w hw => hw) ?_
    refine JR_v (i := 8) rfl (by kernel_rfl) (by kernel_rfl) rfl (by kernel_rfl) (by kernel_rfl) (panic_block (panic_Then (panic_then (panic_block (panic_Then panic_body))))) (by decide) (vo_load rfl (by first | exact .frz ‹_› | exact .own (by repeat (first | exact .head _ | refine .tail _ ?_))) (by first | exact .cell Try.underlying3 rfl rfl | exact .cell Try.underlying55 rfl (by simpa using hcell))) (fun w hw => hw) ?_
    refine JR_v (i := 9) rfl (by kernel_rfl) (by kernel_rfl) rfl (by kernel_rfl) (by kernel_rfl) (panic_block (panic_Then (panic_then (panic_block (panic_Then panic_body))))) (by decide) (vo_add rfl rfl (by omega) (by omega)) (fun w hw => hw) ?_
    refine JR_v (i := 10) rfl (by kernel_rfl) (by kernel_rfl) rfl (by kernel_rfl) (by kernel_rfl) (panic_block (panic_Then (panic_then (panic_block (panic_Then panic_body))))) (by decide) (vo_max rfl rfl) (fun w hw => hw) ?_
    refine JR_v (i := 11) rfl (by kernel_rfl) (by kernel_rfl) rfl (by kernel_rfl) (by kernel_rfl) (panic_block (panic_Then (panic_then (panic_block (panic_Then panic_body))))) (by decide) ((by first | exact vo_nilCheck rfl | exact vo_nilCheckF rfl)) (fun w hw => hw) ?_
    refine JR_v (i := 12) rfl (by kernel_rfl) (by kernel_rfl) rfl (by kernel_rfl) (by kernel_rfl) (panic_block (panic_Then (panic_then (panic_block (panic_Then panic_body))))) (by decide) (vo_fieldAddr rfl fo120_5) (fun w hw => hw) ?_
    refine JR_store rfl (by kernel_rfl) (by kernel_rfl) rfl rfl rfl sz3 (by first | exact one_of_all rfl | assumption) (by repeat (first | exact .head _ _ _ | apply Turn.tail)) (by exact Nat.le_of_ble_eq_true rfl) (by rfl) ?_
    refine JX_block ?_
    refine JX_then ?_
    refine JC_region ?_
    refine JL_v (vo_add rfl rfl (by omega) (by omega)) nofun (by decide) ?_
    refine JL_v (vo_move rfl) nofun (by decide) ?_
    refine JL_nil ?_
    refine JX_loop ⟨i + 1, hil⟩ (by show ks.length - (i + 1) < ks.length - i; omega) (by repeat (first | exact trivial | refine ⟨rfl, ?_⟩ | refine ⟨trivial, ?_⟩)) (fun w hw => by
      have e1 : ((1 + cntL (ks.take (i + 1)) : Nat) : Int) = (1 + cntL (ks.take i) : Nat) + (Tr.mk v' m' ns' ks').count := by rw [htk, cntL_append]; simp [cntL]; omega
      have e2 : ((depL (ks.take (i + 1)) : Nat) : Int) = if ((Tr.mk v' m' ns' ks').depth : Int) + 1 > (depL (ks.take i) : Nat) then ((Tr.mk v' m' ns' ks').depth : Int) + 1 else (depL (ks.take i) : Nat) := by rw [htk, depL_append]; simp only [depL]; split <;> omega
      rw [e1, e2]; exact hw)
  · refine JC_exit ?_
    refine JX_then_exit ?_
    refine JX_thenK_exit ?_
    refine JX_block_exit ?_
    refine JX_then ?_
    refine JC_seq ?_
    refine JC_region ?_
    refine JL_v (vo_move rfl) nofun (by decide) ?_
    refine JL_v (vo_assign rfl) nofun (by decide) ?_
    refine JL_nil ?_
    refine JX_then ?_
    refine JC_ret ?_
    refine ret1 rfl rfl ?_
    intro w1 hM
    have hi : i = ks.length := by simp at hc21; omega
    subst hi
    obtain ⟨Z', h1, h2, h3⟩ := hM.freezeBlk (.head _ _)
    refine ⟨_, rfl, h1.below, b17, rfl, ?_⟩
    have e := h1.ext_end
    have h4 := h2.trans e
    have h5 := e.fb _ _ h3
    simp only [List.take_length] at h5
    exact .mk ps h5 hnk hps (by simpa using hn.ext h4) (by simpa using hk.ext h4) (fun i k p a b => (ht i k p a b).ext h4)

end Go.Eng

set_option linter.unusedVariables false
set_option linter.unusedSimpArgs false
namespace Go.Eng
open Go Go.RowKit Go.Proofs
theorem ap55 : (Try.prog.info? 55).map (fun i => (i.zero, i.size, i.bytes)) = some (some (.pointer none), 1, 8) := by kernel_rfl
theorem ap9 : (Try.prog.info? 9).map (fun i => (i.zero, i.size, i.bytes)) = some (some (.string ⟨#[]⟩), 1, 16) := by kernel_rfl
theorem en63 : Enters Try.prog 63 := ⟨_, Try.func63, by kernel_rfl, by kernel_rfl⟩
theorem en91 : Enters Try.prog 91 := ⟨_, Try.func91, by kernel_rfl, by kernel_rfl⟩
theorem sz9 : (Try.prog.info? 9).map (·.size) = some 1 := by kernel_rfl
theorem zr55 : (Try.prog.info? 55).bind (·.zero) = some (.pointer none) := by kernel_rfl
theorem zr9 : (Try.prog.info? 9).bind (·.zero) = some (.string ⟨#[]⟩) := by kernel_rfl

set_option maxRecDepth 8000 in
set_option maxHeartbeats 1000000 in
theorem grow_of (nm : ByteArray) (v : Val) (m : Mk2) (ks : List Nd) (hlen : ks.length ≤ 1048576) (hks : ∀ nd ∈ ks, ∀ (k : Value) (w : World), RNds (fun b => b < w.heap.size) w nd.kids k → (trOf nd).count ≤ 1000000000000 → FCalls Try.prog 63 #[.agg (ndC nd k).toArray] w (fun Z' w' u => ∃ b, u = ptrV b ∧ RTree Z' w' (trOf nd) b)) : ∀ (k : Value) (w : World), RNds (fun b => b < w.heap.size) w ks k → (trOf (.mk nm v m ks)).count ≤ 1000000000000 → FCalls Try.prog 63 #[.agg (ndC (.mk nm v m ks) k).toArray] w (fun Z' w' u => ∃ b, u = ptrV b ∧ RTree Z' w' (trOf (.mk nm v m ks)) b) := by
  intro kv w hr hcnt
  obtain ⟨A, c, rfl, hlen2⟩ := hr.slice
  refine enter (N := 32) Try.func63 rfl Try.ntmps63 (Nat.le_of_ble_eq_true rfl) [(0, .agg (ndC (.mk nm v m ks) (.slice A ks.length c)).toArray)] (by repeat (first | exact trivial | refine ⟨rfl, ?_⟩)) (Mem.start w (fun _ => False) (fun b => b < w.heap.size) (fun _ h => h)) ?_
  refine JC_seq ?_
  refine JC_region ?_
  refine st_box rfl (by decide) (fun b1 => ?_)
  refine JL_v (vo_assign rfl) nofun (by decide) ?_
  refine JL_nil ?_
  refine JX_then ?_
  refine JC_seq ?_
  refine JC_region ?_
  refine JL_v (vo_assign rfl) nofun (by decide) ?_
  refine JL_nil ?_
  refine JX_then ?_
  refine JC_seq ?_
  refine JC_region ?_
  refine JL_v (vo_assign rfl) nofun (by decide) ?_
  refine JL_nil ?_
  refine JX_then ?_
  refine JC_seq ?_
  refine JC_seq ?_
  refine JC_region ?_
  refine JL_nilrow 9 1 ?_
  refine JL_nilrow 55 1 ?_
  refine JL_v (vo_fieldAddr rfl fo30_3) nofun (by decide) ?_
  refine JL_v (vo_load rfl (by first | exact .frz ‹_› | exact .own (by repeat (first | exact .head _ | refine .tail _ ?_))) (by first | exact .cell Try.underlying28 rfl rfl | exact pn_all ‹_› | exact pn_val (node_self _ _ _ _) | exact pn_marks (node_self _ _ _ _) | exact pn_name ‹_›)) nofun (by decide) ?_
  refine JL_v (vo_len rfl Try.underlying28) nofun (by decide) ?_
  refine JL_v (vo_move rfl) nofun (by decide) ?_
  refine JL_nil ?_
  refine JX_then ?_
  refine JC_block ?_
  refine JC_loop (α := GrowAt ks (fun b => b < w.heap.size) w) (fun x => [(1, .pointer (some ⟨b1, 0, none⟩)), (3, x.vn), (4, x.vk), (8, .slice A ks.length c), (9, .int .i64 ks.length), (10, .int .i64 x.i)]) (fun x => Mem w (fun _ => False) (fun b => b < w.heap.size) x.Z x.wz [.row x.vk 55 1 x.i (x.ps.map ptrV), .row x.vn 9 1 x.i ((namesOf (ks.take x.i)).map strV), .blk b1 (.cells (ndC (.mk nm v m ks) (.slice A ks.length c)).toArray 30 (0, 0))]) (fun x => ks.length - x.i) ⟨0, fun b => b < w.heap.size, w, [], _, _, by omega, .refl _ _, rfl, by simp⟩ (by repeat (first | exact trivial | refine ⟨rfl, ?_⟩ | refine ⟨trivial, ?_⟩)) (fun w hw => by simpa [namesOf, Value.cells] using hw) ?_
  rintro x
  have hxle := x.hi
  refine JC_seq ?_
  refine JC_region ?_
  refine JL_v (vo_cmp rfl rfl rfl) nofun (by decide) ?_
  refine JL_nil ?_
  refine JX_then ?_
  refine JC_seq ?_
  refine JC_cond _ rfl (fun hc11 => ?_) (fun hc11 => ?_)
  · have hil : x.i < ks.length := by simp at hc11; omega
    obtain ⟨nk, hnk⟩ : ∃ nk, ks[x.i]? = some nk := ⟨_, List.getElem?_eq_getElem hil⟩
    obtain ⟨b', o', c', cs', te, fr, kk, hv, hfb0, hseg, hkk⟩ := hr.at_ hnk
    cases hv
    obtain ⟨Ak, ck, rfl, hlk⟩ := hkk.slice
    have hfb := x.ext.fb _ _ hfb0
    clear hfb0
    have hmem := List.mem_of_getElem? hnk
    have hcnk : (trOf nk).count ≤ 1000000000000 := by
      have := cntL_mem (k := trOf nk) (ks := trsOf ks) (by rw [trsOf_eq]; exact List.mem_map_of_mem hmem)
      simp only [trOf, Tr.count] at hcnt; omega
    refine JC_skip ?_
    refine JX_then ?_
    refine JC_seq ?_
    refine JC_block ?_
    refine JC_seq ?_
    refine JC_region ?_
    refine JL_v (vo_indexAddr rfl rfl Try.underlying28 sz30 (by omega) (by omega)) nofun (by decide) ?_
    refine JL_v (vo_load rfl (by first | exact .frz ‹_› | exact .own (by repeat (first | exact .head _ | refine .tail _ ?_))) (by first | exact PartAt.whole Try.underlying30 rfl sz30 | exact pn_all ‹_› | exact pn_val (node_self _ _ _ _) | exact pn_marks (node_self _ _ _ _) | exact pn_name ‹_›)) nofun (by decide) ?_
    refine st_alloc zr30 (by decide) (fun b6 => ?_)
    refine st_storeW rfl rfl sz30 rfl (by repeat (first | exact .head _ _ _ | apply Turn.tail)) (by rfl) ?_
    refine JL_nil ?_
    refine JX_then ?_
    refine JC_seq ?_
    refine JC_region ?_
    refine JL_v (vo_move rfl) nofun (by decide) ?_
    refine JL_v (vo_fieldAddr rfl fo30_0) nofun (by decide) ?_
    refine JL_v (vo_load rfl (by first | exact .frz ‹_› | exact .own (by repeat (first | exact .head _ | refine .tail _ ?_))) (by first | exact .cell Try.underlying9 rfl rfl | exact pn_all ‹_› | exact pn_val (node_self _ _ _ _) | exact pn_marks (node_self _ _ _ _) | exact pn_name ‹_›)) nofun (by decide) ?_
    refine st_bslice1 rfl Try.underlying71 (by first | exact zr9) sz9 (by exact Nat.le_of_ble_eq_true rfl) (by exact Nat.ne_of_gt (Nat.le_of_ble_eq_true rfl)) (by decide) (fun b17 => ?_)
    refine st_appendB rfl rfl Try.underlying71 ap9 (by rfl) (by decide) (by first | exact .frz ‹_› | exact .own (by repeat (first | exact .head _ | refine .tail _ ?_))) (by repeat (first | exact .head _ | apply TurnF.tail)) (by rfl) (by first | exact one_of_all rfl | assumption) (by omega) (by decide) (by decide) (fun v18 => ?_)
    refine JL_v (vo_assign rfl) nofun (by decide) ?_
    refine JL_nil ?_
    refine JX_then ?_
    refine JC_region ?_
    refine JL_v (vo_move rfl) nofun (by decide) ?_
    refine JL_v (vo_load rfl (by first | exact .frz ‹_› | exact .own (by repeat (first | exact .head _ | refine .tail _ ?_))) (by first | exact PartAt.whole Try.underlying30 rfl sz30 | exact pn_all ‹_› | exact pn_val (node_self _ _ _ _) | exact pn_marks (node_self _ _ _ _) | exact pn_name ‹_›)) nofun (by decide) ?_
    refine st_fcall rfl en63 (by decide) (grows_tree _) (fun w hw => hks nk hmem _ w ((hkk.ext x.ext).ext hw.ext_all) hcnk) (fun v Z' wz' he hR => ?_)
    obtain ⟨b, rfl, hT⟩ := hR
    refine st_bslice1 rfl Try.underlying89 (by first | exact zr55) sz55 (by exact Nat.le_of_ble_eq_true rfl) (by exact Nat.ne_of_gt (Nat.le_of_ble_eq_true rfl)) (by decide) (fun b22 => ?_)
    refine st_appendB rfl rfl Try.underlying89 ap55 (by rfl) (by decide) (by first | exact .frz ‹_› | exact .own (by repeat (first | exact .head _ | refine .tail _ ?_))) (by repeat (first | exact .head _ | apply TurnF.tail)) (by rfl) (by first | exact one_of_all rfl | assumption) (by omega) (by decide) (by decide) (fun v23 => ?_)
    refine JL_v (vo_assign rfl) nofun (by decide) ?_
    refine JL_nil ?_
    refine JX_block ?_
    refine JX_then ?_
    refine JC_region ?_
    refine JL_v (vo_add rfl rfl (by omega) (by omega)) nofun (by decide) ?_
    refine JL_v (vo_move rfl) nofun (by decide) ?_
    refine JL_nil ?_
    obtain ⟨y, y1, y2, y3, y4, y5, y6⟩ := x.push he hnk hT v18 v23
    refine JX_loop y (by rw [y1]; omega) (by rw [y1, y5, y6]; repeat (first | exact trivial | refine ⟨rfl, ?_⟩ | refine ⟨trivial, ?_⟩)) (fun w hw => ?_)
    rw [y1, y2, y3, y4, y5, y6]
    have e1 : namesOf (ks.take (x.i + 1)) = namesOf (ks.take x.i) ++ [nk.name] := by simp [namesOf_eq, take_snoc_get hnk]
    rw [e1, List.map_append, List.map_append]
    exact hw.sub (.cons _ (.cons _ (.cons _ (List.Sublist.refl _))))
  · refine JC_exit ?_
    refine JX_then_exit ?_
    refine JX_thenK_exit ?_
    refine JX_block_exit ?_
    refine JX_then ?_
    refine JC_seq ?_
    refine JC_region ?_
    refine JL_v (vo_fieldAddr rfl fo30_1) nofun (by decide) ?_
    refine JL_v (vo_load rfl (by first | exact .frz ‹_› | exact .own (by repeat (first | exact .head _ | refine .tail _ ?_))) (by first | exact PartAt.whole Try.underlying24 rfl sz24 | exact pn_all ‹_› | exact pn_val (node_self _ _ _ _) | exact pn_marks (node_self _ _ _ _) | exact pn_name ‹_›)) nofun (by decide) ?_
    refine JL_v (vo_fieldAddr rfl fo30_2) nofun (by decide) ?_
    refine JL_v (vo_load rfl (by first | exact .frz ‹_› | exact .own (by repeat (first | exact .head _ | refine .tail _ ?_))) (by first | exact PartAt.whole Try.underlying27 rfl sz27 | exact pn_all ‹_› | exact pn_val (node_self _ _ _ _) | exact pn_marks (node_self _ _ _ _) | exact pn_name ‹_›)) nofun (by decide) ?_
    refine JL_v (vo_move rfl) nofun (by decide) ?_
    refine JL_v (vo_move rfl) nofun (by decide) ?_
    have hxi : x.i = ks.length := by simp at hc11; omega
    have hnames : namesOf (ks.take x.i) = namesOf ks := by rw [hxi, List.take_length]
    rw [hnames]
    refine JL_freezeRowN (.tail _ (.head _ _)) (fun Z1 wz1 e1 rn => ?_)
    refine JL_freezeRowN (.head _ _) (fun Z2 wz2 e2 rk => ?_)
    refine st_pcallN rfl en91 (by decide) (grows_tree _) (fun w hw => made_spec v m (namesOf ks) (trsOf ks) x.ps x.vn x.vk (by simp [namesOf_eq, trsOf_eq]) (by simp [trsOf_eq, x.hps, hxi]) (by simpa [trOf] using hcnt) w (fun b hb => hw.zlt' b hb.1) ((rn.ext (e2.nz _)).ext (hw.extZ.nz _)) (rk.ext (hw.extZ.nz _)) (fun i k p hk hp => by
        rw [trsOf_eq, List.getElem?_map] at hk
        obtain ⟨k', hk', rfl⟩ := Option.map_eq_some_iff.1 hk
        exact (((x.ht i k' p hk' hp).ext ((e1.trans e2).nz _)).ext (hw.extZ.nz _)))) (fun v Z' wz' he hR => ?_)
    obtain ⟨b, rfl, hT⟩ := hR
    refine JL_v (vo_assign rfl) nofun (by decide) ?_
    refine JL_nil ?_
    refine JX_then ?_
    refine JC_ret ?_
    refine ret1 rfl rfl ?_
    intro w1 hM
    exact ⟨_, rfl, hM.below, b, rfl, by rw [show trOf (.mk nm v m ks) = .mk v m (namesOf ks) (trsOf ks) from by simp [trOf]]; exact hT.ext hM.extNew⟩

end Go.Eng

set_option linter.unusedVariables false
set_option linter.unusedSimpArgs false
namespace Go.Eng
open Go Go.RowKit Go.Proofs
theorem en12 : Enters Try.prog 12 := ⟨_, Try.func12, by kernel_rfl, by kernel_rfl⟩
theorem en56 : Enters Try.prog 56 := ⟨_, Try.func56, by kernel_rfl, by kernel_rfl⟩

theorem chk_spec : ∀ nd, NdOK nd → (∀ (p : ByteArray) (level : Int) (k : Value) (w : World), 0 ≤ level → level ≤ 64 → p.size ≤ 2097152 * level → RNds (fun b => b < w.heap.size) w nd.kids k → SCalls Try.prog 62 #[.agg (ndC nd k).toArray, .string p, .int .i64 level] w (fun u => u = .tuple #[.string (chk nd p level).1, .int .i64 (chk nd p level).2])) := by
  refine Nd.ind fun nm v m ks ih hok => ?_
  cases hok with
  | mk hn hl hk => exact chk_of nm v m ks hk hl (fun nd hm => ih nd hm (hk nd hm))
theorem rchk_spec : ∀ nd, NdOK nd → (∀ (p : ByteArray) (level : Int) (k : Value) (w : World), 0 ≤ level → level ≤ 64 → p.size ≤ 2097152 * level → RNds (fun b => b < w.heap.size) w nd.kids k → SCalls Try.prog 61 #[.agg (ndC nd k).toArray, .string p, .int .i64 level] w (fun u => u = .tuple #[.string (rchk nd p level).1, .int .i64 (rchk nd p level).2])) := by
  refine Nd.ind fun nm v m ks ih hok => ?_
  cases hok with
  | mk hn hl hk => exact rchk_of nm v m ks hk hl (fun nd hm => ih nd hm (hk nd hm))
theorem growF_spec : ∀ nd, NdOK nd → (∀ (k : Value) (w : World), RNds (fun b => b < w.heap.size) w nd.kids k → (trOf nd).count ≤ 1000000000000 → FCalls Try.prog 63 #[.agg (ndC nd k).toArray] w (fun Z' w' u => ∃ b, u = ptrV b ∧ RTree Z' w' (trOf nd) b)) := by
  refine Nd.ind fun nm v m ks ih hok => ?_
  cases hok with
  | mk hn hl hk => exact grow_of nm v m ks hl (fun nd hm => ih nd hm (hk nd hm))
theorem node_spec : ∀ nd, NdOK nd → (∀ (b : Nat) (left : Int) (k : Value) (w : World), CntOK left → RNds (fun j => j < w.heap.size ∧ j ≠ b) w nd.kids k → w.heap[b]? = some (cntO left) → WCalls Try.prog 100 #[.pointer (some ⟨b, 0, none⟩), .agg (ndC nd k).toArray] w b (fun v o => v = .tuple #[] ∧ ∃ x, o = cntO x ∧ CntOK x)) := by
  refine Nd.ind fun nm v m ks ih hok => ?_
  cases hok with
  | mk hn hl hk => exact node_of _ hn (nodes_of _ (fun nd hm => ih nd hm (hk nd hm)))
def chk0 (nd : Nd) : ByteArray × Int := chk nd ⟨#[]⟩ 0
def rchk0 (nd : Nd) : ByteArray × Int := if ownB nd.val nd.marks nd.kids.length ≠ 0 then (⟨#[]⟩, ownB nd.val nd.marks nd.kids.length) else rchk nd ⟨#[]⟩ 0

set_option maxRecDepth 8000 in
set_option maxHeartbeats 1000000 in
theorem check_spec (nd : Nd) (hok : NdOK nd) (k : Value) (w : World) (hr : RNds (fun b => b < w.heap.size) w nd.kids k) : SCalls Try.prog 12 #[.agg (ndC nd k).toArray] w (fun u => u = .tuple #[.string (chk0 nd).1, .int .i64 (chk0 nd).2]) := by
  obtain ⟨A, c, rfl, hlen2⟩ := hr.slice
  refine enter (N := 8) Try.func12 rfl Try.ntmps12 (Nat.le_of_ble_eq_true rfl) [(0, .agg (ndC nd (.slice A nd.kids.length c)).toArray)] (by repeat (first | exact trivial | refine ⟨rfl, ?_⟩)) (Mem.start w (fun _ => False) (fun b => b < w.heap.size) (fun _ h => h)) ?_
  refine JC_seq ?_
  refine JC_region ?_
  refine st_box rfl (by decide) (fun b1 => ?_)
  refine JL_v (vo_assign rfl) nofun (by decide) ?_
  refine JL_v (vo_assign rfl) nofun (by decide) ?_
  refine JL_nil ?_
  refine JX_then ?_
  refine JC_seq ?_
  refine JC_region ?_
  refine JL_v (vo_load rfl (by first | exact .frz ‹_› | exact .own (by repeat (first | exact .head _ | refine .tail _ ?_))) (by first | exact PartAt.whole Try.underlying30 rfl sz30 | exact pn_all ‹_› | exact pn_val (node_self _ _ _ _) | exact pn_marks (node_self _ _ _ _) | exact pn_name ‹_›)) nofun (by decide) ?_
  refine st_scall rfl en62 (by decide) (fun w hw => chk_spec nd hok _ 0 _ w (by omega) (by omega) (by simp; rfl) (hr.ext hw.ext_all)) ?_
  rintro _ rfl
  refine JL_v (vo_extract rfl rfl) nofun (by decide) ?_
  refine JL_v (vo_extract rfl rfl) nofun (by decide) ?_
  refine JL_v (vo_assign rfl) nofun (by decide) ?_
  refine JL_v (vo_assign rfl) nofun (by decide) ?_
  refine JL_nil ?_
  refine JX_then ?_
  refine JC_ret ?_
  refine ret2 rfl rfl rfl ?_
  intro w1 hM; exact SC_end hM rfl
set_option maxRecDepth 8000 in
set_option maxHeartbeats 1000000 in
theorem rcheck_spec (nd : Nd) (hok : NdOK nd) (k : Value) (w : World) (hr : RNds (fun b => b < w.heap.size) w nd.kids k) : SCalls Try.prog 11 #[.agg (ndC nd k).toArray] w (fun u => u = .tuple #[.string (rchk0 nd).1, .int .i64 (rchk0 nd).2]) := by
  obtain ⟨A, c, rfl, hlen2⟩ := hr.slice
  refine enter (N := 20) Try.func11 rfl Try.ntmps11 (Nat.le_of_ble_eq_true rfl) [(0, .agg (ndC nd (.slice A nd.kids.length c)).toArray)] (by repeat (first | exact trivial | refine ⟨rfl, ?_⟩)) (Mem.start w (fun _ => False) (fun b => b < w.heap.size) (fun _ h => h)) ?_
  refine JC_seq ?_
  refine JC_region ?_
  refine st_box rfl (by decide) (fun b1 => ?_)
  refine JL_v (vo_assign rfl) nofun (by decide) ?_
  refine JL_v (vo_assign rfl) nofun (by decide) ?_
  refine JL_nil ?_
  refine JX_then ?_
  refine JC_seq ?_
  refine JC_region ?_
  refine JL_v (vo_fieldAddr rfl fo30_1) nofun (by decide) ?_
  refine JL_v (vo_load rfl (by first | exact .frz ‹_› | exact .own (by repeat (first | exact .head _ | refine .tail _ ?_))) (by first | exact PartAt.whole Try.underlying24 rfl sz24 | exact pn_all ‹_› | exact pn_val (node_self _ _ _ _) | exact pn_marks (node_self _ _ _ _) | exact pn_name ‹_›)) nofun (by decide) ?_
  refine JL_v (vo_fieldAddr rfl fo30_2) nofun (by decide) ?_
  refine JL_v (vo_load rfl (by first | exact .frz ‹_› | exact .own (by repeat (first | exact .head _ | refine .tail _ ?_))) (by first | exact PartAt.whole Try.underlying27 rfl sz27 | exact pn_all ‹_› | exact pn_val (node_self _ _ _ _) | exact pn_marks (node_self _ _ _ _) | exact pn_name ‹_›)) nofun (by decide) ?_
  refine JL_v (vo_fieldAddr rfl fo30_3) nofun (by decide) ?_
  refine JL_v (vo_load rfl (by first | exact .frz ‹_› | exact .own (by repeat (first | exact .head _ | refine .tail _ ?_))) (by first | exact .cell Try.underlying28 rfl rfl | exact pn_all ‹_› | exact pn_val (node_self _ _ _ _) | exact pn_marks (node_self _ _ _ _) | exact pn_name ‹_›)) nofun (by decide) ?_
  refine JL_v (vo_len rfl Try.underlying28) nofun (by decide) ?_
  refine st_scall rfl en60 (by decide) (fun w hw => own_spec _ _ _ w) ?_
  rintro _ rfl
  refine JL_v (vo_assign rfl) nofun (by decide) ?_
  refine JL_nil ?_
  refine JX_then ?_
  refine JC_seq ?_
  refine JC_seq ?_
  refine JC_region ?_
  refine JL_v (vo_move rfl) nofun (by decide) ?_
  refine JL_v (vo_cmp rfl rfl rfl) nofun (by decide) ?_
  refine JL_nil ?_
  refine JX_then ?_
  refine JC_cond _ rfl (fun hc14 => ?_) (fun hc14 => ?_)
  · refine JC_seq ?_
    refine JC_region ?_
    refine JL_v (vo_move rfl) nofun (by decide) ?_
    refine JL_v (vo_assign rfl) nofun (by decide) ?_
    refine JL_v (vo_assign rfl) nofun (by decide) ?_
    refine JL_nil ?_
    refine JX_then ?_
    refine JC_ret ?_
    refine JX_then_ret ?_
    refine ret2 rfl rfl rfl ?_
    intro w1 hM; exact SC_end hM (by simp_all [rchk0])
  · refine JC_skip ?_
    refine JX_then ?_
    refine JC_seq ?_
    refine JC_region ?_
    refine JL_v (vo_load rfl (by first | exact .frz ‹_› | exact .own (by repeat (first | exact .head _ | refine .tail _ ?_))) (by first | exact PartAt.whole Try.underlying30 rfl sz30 | exact pn_all ‹_› | exact pn_val (node_self _ _ _ _) | exact pn_marks (node_self _ _ _ _) | exact pn_name ‹_›)) nofun (by decide) ?_
    refine st_scall rfl en61 (by decide) (fun w hw => rchk_spec nd hok _ 0 _ w (by omega) (by omega) (by simp; rfl) (hr.ext hw.ext_all)) ?_
    rintro _ rfl
    refine JL_v (vo_extract rfl rfl) nofun (by decide) ?_
    refine JL_v (vo_extract rfl rfl) nofun (by decide) ?_
    refine JL_v (vo_assign rfl) nofun (by decide) ?_
    refine JL_v (vo_assign rfl) nofun (by decide) ?_
    refine JL_nil ?_
    refine JX_then ?_
    refine JC_ret ?_
    refine ret2 rfl rfl rfl ?_
    intro w1 hM; exact SC_end hM (by simp_all [rchk0])
set_option maxRecDepth 8000 in
set_option maxHeartbeats 1000000 in
theorem ofF_spec (nd : Nd) (hok : NdOK nd) (k : Value) (w : World) (hr : RNds (fun b => b < w.heap.size) w nd.kids k) (hcnt : (trOf nd).count ≤ 1000000000000) : FCalls Try.prog 13 #[.agg (ndC nd k).toArray] w (fun Z' w' u => if (chk0 nd).2 ≠ 0 then u = .tuple #[.pointer none, .int .i64 (chk0 nd).2] else ∃ b, u = .tuple #[ptrV b, .int .i64 0] ∧ RTree Z' w' (trOf nd) b) := by
  obtain ⟨A, c, rfl, hlen2⟩ := hr.slice
  refine enter (N := 16) Try.func13 rfl Try.ntmps13 (Nat.le_of_ble_eq_true rfl) [(0, .agg (ndC nd (.slice A nd.kids.length c)).toArray)] (by repeat (first | exact trivial | refine ⟨rfl, ?_⟩)) (Mem.start w (fun _ => False) (fun b => b < w.heap.size) (fun _ h => h)) ?_
  refine JC_seq ?_
  refine JC_region ?_
  refine st_box rfl (by decide) (fun b1 => ?_)
  refine JL_v (vo_assign rfl) nofun (by decide) ?_
  refine JL_v (vo_assign rfl) nofun (by decide) ?_
  refine JL_nil ?_
  refine JX_then ?_
  refine JC_seq ?_
  refine JC_seq ?_
  refine JC_region ?_
  refine JL_v (vo_load rfl (by first | exact .frz ‹_› | exact .own (by repeat (first | exact .head _ | refine .tail _ ?_))) (by first | exact PartAt.whole Try.underlying30 rfl sz30 | exact pn_all ‹_› | exact pn_val (node_self _ _ _ _) | exact pn_marks (node_self _ _ _ _) | exact pn_name ‹_›)) nofun (by decide) ?_
  refine st_scall rfl en12 (by decide) (fun w hw => check_spec nd hok _ w (hr.ext hw.ext_all)) ?_
  rintro _ rfl
  refine JL_v (vo_move rfl) nofun (by decide) ?_
  refine JL_v (vo_extract rfl rfl) nofun (by decide) ?_
  refine JL_v (vo_extract rfl rfl) nofun (by decide) ?_
  refine JL_v (vo_assign rfl) nofun (by decide) ?_
  refine JL_v (vo_assign rfl) nofun (by decide) ?_
  refine JL_nil ?_
  refine JX_then ?_
  refine JC_seq ?_
  refine JC_region ?_
  refine JL_v (vo_move rfl) nofun (by decide) ?_
  refine JL_v (vo_cmp rfl rfl rfl) nofun (by decide) ?_
  refine JL_nil ?_
  refine JX_then ?_
  refine JC_cond _ rfl (fun hc12 => ?_) (fun hc12 => ?_)
  · refine JC_seq ?_
    refine JC_region ?_
    refine JL_v (vo_move rfl) nofun (by decide) ?_
    refine JL_v (vo_assign rfl) nofun (by decide) ?_
    refine JL_v (vo_assign rfl) nofun (by decide) ?_
    refine JL_nil ?_
    refine JX_then ?_
    refine JC_ret ?_
    refine JX_then_ret ?_
    refine ret2 rfl rfl rfl ?_
    intro w1 hM; refine ⟨_, rfl, hM.below, ?_⟩; show if (chk0 nd).2 ≠ 0 then _ else _; rw [if_pos (by simpa using hc12)]; rfl
  · refine JC_skip ?_
    refine JX_then ?_
    refine JC_seq ?_
    refine JC_region ?_
    refine JL_v (vo_load rfl (by first | exact .frz ‹_› | exact .own (by repeat (first | exact .head _ | refine .tail _ ?_))) (by first | exact PartAt.whole Try.underlying30 rfl sz30 | exact pn_all ‹_› | exact pn_val (node_self _ _ _ _) | exact pn_marks (node_self _ _ _ _) | exact pn_name ‹_›)) nofun (by decide) ?_
    refine st_fcall rfl en63 (by decide) (grows_tree _) (fun w hw => growF_spec nd hok _ w (hr.ext hw.ext_all) hcnt) (fun v Z' wz' he hR => ?_)
    obtain ⟨b, rfl, hT⟩ := hR
    refine JL_v (vo_assign rfl) nofun (by decide) ?_
    refine JL_v (vo_assign rfl) nofun (by decide) ?_
    refine JL_nil ?_
    refine JX_then ?_
    refine JC_ret ?_
    refine ret2 rfl rfl rfl ?_
    intro w1 hM; refine ⟨_, rfl, hM.below, ?_⟩; show if (chk0 nd).2 ≠ 0 then _ else _; rw [if_neg (by simpa using hc12)]; exact ⟨_, rfl, hT.ext hM.extNew⟩
theorem grows_of (nd : Nd) : Grows (fun Z w u => if (chk0 nd).2 ≠ 0 then u = .tuple #[.pointer none, .int .i64 (chk0 nd).2] else ∃ b, u = .tuple #[ptrV b, .int .i64 0] ∧ RTree Z w (trOf nd) b) := fun Z Z' w v h => by
  dsimp only
  split
  · exact id
  · rintro ⟨b, e, hr⟩
    exact ⟨b, e, hr.ext (Ext.sub h)⟩
theorem of_spec {Z : Nat → Prop} (nd : Nd) (hok : NdOK nd) (k : Value) (w : World) (hz : ∀ b, Z b → b < w.heap.size) (hr : RNds Z w nd.kids k) (hcnt : (trOf nd).count ≤ 1000000000000) : PCalls Try.prog 13 #[.agg (ndC nd k).toArray] w Z (fun Z' w' u => if (chk0 nd).2 ≠ 0 then u = .tuple #[.pointer none, .int .i64 (chk0 nd).2] else ∃ b, u = .tuple #[ptrV b, .int .i64 0] ∧ RTree Z' w' (trOf nd) b) :=
  (ofF_spec nd hok k w (hr.ext (Ext.sub hz)) hcnt).toP (grows_of nd) Z

set_option maxRecDepth 8000 in
set_option maxHeartbeats 1000000 in
theorem few_spec (l : List Nd) (hok : ∀ x ∈ l, NdOK x) (k : Value) (w : World) (hr : RNds (fun b => b < w.heap.size) w l k) : SCalls Try.prog 9 #[k] w (fun u => ∃ c, u = .bool c) := by
  obtain ⟨A, c, rfl, hlen2⟩ := hr.slice
  refine enter (N := 10) Try.func9 rfl Try.ntmps9 (Nat.le_of_ble_eq_true rfl) [(0, .slice A l.length c)] (by repeat (first | exact trivial | refine ⟨rfl, ?_⟩)) (Mem.start w (fun _ => False) (fun b => b < w.heap.size) (fun _ h => h)) ?_
  refine JC_seq ?_
  refine JC_region ?_
  refine JL_v (vo_assign rfl) nofun (by decide) ?_
  refine JL_nil ?_
  refine JX_then ?_
  refine JC_seq ?_
  refine JC_region ?_
  refine st_ncall rfl en56 (by decide) (fun w hw => many_spec _ w) ?_
  rintro b _ rfl
  refine JL_v (vo_assign rfl) nofun (by decide) ?_
  refine JL_nil ?_
  refine JX_then ?_
  refine JC_seq ?_
  refine JC_region ?_
  refine JL_v (vo_move rfl) nofun (by decide) ?_
  refine JL_v (vo_move rfl) nofun (by decide) ?_
  refine st_wcall rfl en57 (by decide) (L' := fun o => .blk b o :: _) (fun o => .head _ _ _) (fun w hw hb => nodes_of l (fun nd hm => node_spec nd (hok nd hm)) b _ _ w (by unfold CntOK; omega) (hr.ext (hw.ext_now (.head _))) hb) ?_
  rintro _ _ ⟨rfl, y, rfl, hy⟩
  refine JL_nil ?_
  refine JX_then ?_
  refine JC_seq ?_
  refine JC_region ?_
  refine JL_v (vo_move rfl) nofun (by decide) ?_
  refine st_wcall rfl en58 (by decide) (L' := fun o => .blk b o :: _) (fun o => .head _ _ _) (fun w hw hb => ok_spec b _ w hb) ?_
  rintro _ _ ⟨rfl, rfl⟩
  refine JL_v (vo_assign rfl) nofun (by decide) ?_
  refine JL_nil ?_
  refine JX_then ?_
  refine JC_ret ?_
  refine ret1 rfl rfl ?_
  intro w1 hM; exact SC_end hM ⟨_, rfl⟩

end Go.Eng
