/-
  Part of the proofs over this seat: K1 L1 L2. Own work; imports the kit.
-/
import Derived.Test.YtdcafpemkpcmpaaWalk3
import Derived.Test.YtdcafpemkpcmpaaEng4
set_option linter.unusedVariables false
set_option linter.unusedSimpArgs false
namespace Go.Eng
open Go Go.RowKit Go.Proofs
def nkC (p : Nd × Value) : List Value := ndC p.1 p.2
theorem nkC_length (p : Nd × Value) : (nkC p).length = 41 := rfl
theorem bl30 (s : ByteArray) : Try.prog.built 30 [(0, .string s)] = some (nodeC s zeroVal zeroMk nilS).toArray := by kernel_rfl
theorem bl30n (s : ByteArray) (v : Val) (m : Mk2) : Try.prog.built 30 [(0, .string s), (1, .agg (valC v).toArray), (2, .agg (mk2C m).toArray)] = some (nodeC s v m nilS).toArray := by kernel_rfl
theorem ap30 : (Try.prog.info? 30).map (fun i => (i.zero, i.size, i.bytes)) = some (some (.agg (nodeC ⟨#[]⟩ zeroVal zeroMk nilS).toArray), 41, 128) := by kernel_rfl
theorem ap28 : (Try.prog.info? 28).map (fun i => (i.zero, i.size, i.bytes)) = some (some nilS, 1, 24) := by kernel_rfl
theorem zero30 : (Value.agg (nodeC ⟨#[]⟩ zeroVal zeroMk nilS).toArray).cells.size = 41 := rfl
/-- what stands behind a list of nodes -/
def spareNk (i : Nat) : Nd × Value := (.mk (wordP i) zeroVal zeroMk [], nilS)
def sparesN (n : Nat) : List (Nd × Value) := (List.range n).map spareNk
theorem sparesN_succ (n : Nat) : sparesN (n + 1) = sparesN n ++ [spareNk n] := by simp [sparesN, List.range_succ]
theorem sparesN_length (n : Nat) : (sparesN n).length = n := by simp [sparesN]
theorem sparesN_get {n j : Nat} (h : j < n) : (sparesN n)[j]? = some (spareNk j) := by simp [sparesN, h]
def roomL (v22 v23 : Value) : List Value := [nilS, nilS, nilS, nilS, nilS, nilS, nilS, nilS, nilS, nilS, nilS, nilS, nilS, nilS, nilS, nilS, nilS, nilS, nilS, nilS, nilS, nilS, v22, v23, nilS, nilS]
def roomN (v22 v23 : Value) : Obj := .cells (roomL v22 v23).toArray 48 (0, 0)
theorem bl48 : Try.prog.built 48 [] = some (roomL nilS nilS).toArray := by kernel_rfl
/-- a list laid in a room: the whole of it, and how much of it is no room -/
def LaidE (Z : Nat → Prop) (w : World) (p : Value × Nat) : Prop :=
  ∃ g room cap cs te fr, p.1 = .slice (some ⟨g, 0, none⟩) (p.2 + room) cap ∧ p.2 + room ≤ 1000000000 ∧ FB Z w g (.cells cs te fr) ∧ ∀ j, j < room → SegAt cs ((p.2 + j) * 41) (nodeC (wordP j) zeroVal zeroMk nilS)
theorem LaidE.ext {Z Z' : Nat → Prop} {w w' : World} (h : Ext Z w Z' w') {p : Value × Nat} (hl : LaidE Z w p) : LaidE Z' w' p := by
  obtain ⟨g, room, cap, cs, te, fr, h1, h2, h3, h4⟩ := hl
  exact ⟨g, room, cap, cs, te, fr, h1, h2, h.fb _ _ h3, h4⟩
/-- a list of nodes that may be written over, each below itself alone -/
def Sp (w : World) : Nat → (Nat → Prop) → Value → Prop
  | 0, _, v => ∃ A c, v = .slice A 0 c
  | h + 1, E, v => ∃ A n c, v = .slice A n c ∧ (n = 0 ∨ ∃ g cs, A = some ⟨g, 0, none⟩ ∧ n ≤ 1000000000 ∧ E g ∧ w.heap[g]? = some (.cells cs 30 (0, 0)) ∧ n * 41 ≤ cs.size ∧
      ∀ i, i < n → ∃ k E', cs[i * 41 + 40]? = some k ∧ (∀ b, E' b → E b ∧ b ≠ g) ∧ Sp w h E' k)
theorem Sp.up {w : World} : ∀ {h : Nat} {E : Nat → Prop} {v : Value}, Sp w h E v → Sp w (h + 1) E v
  | 0, E, v, ⟨A, c, e⟩ => ⟨A, 0, c, e, .inl rfl⟩
  | h + 1, E, v, ⟨A, n, c, e, h1⟩ => ⟨A, n, c, e, h1.imp id fun ⟨g, cs, h2, hn, h3, h4, h5, h6⟩ => ⟨g, cs, h2, hn, h3, h4, h5, fun i hi =>
      let ⟨k, E', h7, h8, h9⟩ := h6 i hi
      ⟨k, E', h7, h8, h9.up⟩⟩⟩
theorem Sp.le {w : World} {h h' : Nat} (hh : h ≤ h') {E : Nat → Prop} {v : Value} (hs : Sp w h E v) : Sp w h' E v := by
  induction hh with
  | refl => exact hs
  | step _ ih => exact ih.up
theorem Sp.keep {w w' : World} : ∀ {h : Nat} {E : Nat → Prop} {v : Value}, (∀ b o, E b → w.heap[b]? = some o → w'.heap[b]? = some o) → Sp w h E v → Sp w' h E v
  | 0, E, v, _, hs => hs
  | h + 1, E, v, hk, ⟨A, n, c, e, h1⟩ => ⟨A, n, c, e, h1.imp id fun ⟨g, cs, h2, hn, h3, h4, h5, h6⟩ => ⟨g, cs, h2, hn, h3, hk g _ h3 h4, h5, fun i hi =>
      let ⟨k, E', h7, h8, h9⟩ := h6 i hi
      ⟨k, E', h7, h8, h9.keep fun b o hb => hk b o (h8 b hb).1⟩⟩⟩
theorem Sp.ext {Z Z' : Nat → Prop} {w w' : World} (h : Ext Z w Z' w') {n : Nat} {E : Nat → Prop} {v : Value} (hE : ∀ b, E b → Z b) (hs : Sp w n E v) : Sp w' n E v :=
  hs.keep fun b o hb ho => (h.fb b o ⟨hE b hb, ho⟩).at_
/-- what laying a list hands back -/
def LayR (rm n : Nat) (xs22 xs23 : List Value) (l : List Nd) (k : Value) (L' : List Res) (Z : Nat → Prop) (w : World) : Prop :=
  ∃ (us : List (Value × Nat)) (v22 v23 : Value), us.length = cntL (trsOf l) + 1 ∧ L' = [.blk rm (roomN v22 v23), .row v22 28 1 (n + us.length) (xs22 ++ us.map (·.1)), .row v23 3 1 (n + us.length) (xs23 ++ us.map fun p => .int .i64 p.2)] ∧
    (∀ p ∈ us, LaidE Z w p) ∧ RNds Z w l k ∧ ∃ h E, (∀ b, E b → Z b) ∧ Sp w h E k
theorem LayR.ext {rm n : Nat} {xs22 xs23 : List Value} {l : List Nd} {k : Value} {L' : List Res} {Z Z' : Nat → Prop} {w w' : World} (h : LayR rm n xs22 xs23 l k L' Z w) (he : Ext Z w Z' w') (hz : ∀ b, Z b → Z' b) : LayR rm n xs22 xs23 l k L' Z' w' := by
  obtain ⟨us, v22, v23, h1, h2, h3, h4, h5, E, h6, h7⟩ := h
  exact ⟨us, v22, v23, h1, h2, fun p hp => (h3 p hp).ext he, h4.ext he, h5, E, fun b hb => hz b (h6 b hb), h7.ext he h6⟩
theorem len_cntL : ∀ l : List Nd, l.length ≤ cntL (trsOf l)
  | [] => by simp
  | .mk nm v m ks :: l => by
    have := len_cntL l
    simp only [trsOf, trOf, cntL, Tr.count, List.length_cons]
    omega
structure LayAt (l : List Nd) (Z0 : Nat → Prop) (w0 : World) where
  i : Nat
  Z : Nat → Prop
  wz : World
  ls : List (Nd × Value)
  us : List (Value × Nat)
  vf : Value
  v22 : Value
  v23 : Value
  hi : i ≤ l.length
  ext : Ext Z0 w0 Z wz
  hls : ls.map (·.1) = l.take i
  hk : ∀ p ∈ ls, RNds (NZ w0.heap.size Z) wz p.1.kids p.2
  hsp : ∃ h, ∀ p ∈ ls, ∃ E, (∀ b, E b → Z b ∧ w0.heap.size ≤ b) ∧ Sp wz h E p.2
  hus : us.length = cntL (trsOf (l.take i))
  hlaid : ∀ p ∈ us, LaidE (NZ w0.heap.size Z) wz p
  hvf : ∀ b, vf.ownBlock = some b → w0.heap.size ≤ b
theorem cntL_map_append (a b : List Nd) : cntL (trsOf (a ++ b)) = cntL (trsOf a) + cntL (trsOf b) := by
  rw [trsOf_eq, trsOf_eq, trsOf_eq, List.map_append, cntL_append]
theorem LayAt.push {l : List Nd} {Z0 : Nat → Prop} {w0 : World} (x : LayAt l Z0 w0) {Z' F : Nat → Prop} {wz' : World} {nk : Nd} {k : Value} {us : List (Value × Nat)} (hz : ∀ b, x.Z b → Z' b) (he : Ext x.Z x.wz Z' wz') (hF : ∀ b, F b → Z' b ∧ w0.heap.size ≤ b) (hn : l[x.i]? = some nk)
    (hc : us.length = cntL (trsOf nk.kids) + 1) (hl : ∀ p ∈ us, LaidE F wz' p) (hr : RNds F wz' nk.kids k) {h : Nat} {E : Nat → Prop} (hE : ∀ b, E b → F b) (hs : Sp wz' h E k) (vf v22 v23 : Value) (hvf : ∀ b, vf.ownBlock = some b → w0.heap.size ≤ b) :
    ∃ y : LayAt l Z0 w0, y.i = x.i + 1 ∧ y.Z = Z' ∧ y.wz = wz' ∧ y.ls = x.ls ++ [(nk, k)] ∧ y.us = x.us ++ us ∧ y.vf = vf ∧ y.v22 = v22 ∧ y.v23 = v23 := by
  have hFe : Ext F wz' (NZ w0.heap.size Z') wz' := Ext.sub hF
  obtain ⟨h0, hsp⟩ := x.hsp
  have ht := take_snoc_get hn
  refine ⟨⟨x.i + 1, Z', wz', x.ls ++ [(nk, k)], x.us ++ us, vf, v22, v23, (List.getElem?_eq_some_iff.1 hn).1, x.ext.trans he, ?_, ?_, ⟨max h0 h, ?_⟩, ?_, ?_, hvf⟩, rfl, rfl, rfl, rfl, rfl, rfl, rfl, rfl⟩
  · rw [ht, List.map_append, x.hls]; rfl
  · intro p hp
    rcases List.mem_append.1 hp with hp | hp
    · exact (x.hk p hp).ext (he.nz _)
    · rcases List.mem_singleton.1 hp with rfl
      exact hr.ext hFe
  · intro p hp
    rcases List.mem_append.1 hp with hp | hp
    · obtain ⟨E1, h1, h2⟩ := hsp p hp
      exact ⟨E1, fun b hb => ⟨hz b (h1 b hb).1, (h1 b hb).2⟩, (h2.ext he fun b hb => (h1 b hb).1).le (Nat.le_max_left _ _)⟩
    · rcases List.mem_singleton.1 hp with rfl
      exact ⟨E, fun b hb => hF b (hE b hb), hs.le (Nat.le_max_right _ _)⟩
  · rw [ht, cntL_map_append, List.length_append, x.hus, hc]
    obtain ⟨nm, v, m, ks⟩ := nk
    simp [trsOf, cntL, trOf, Tr.count, Nd.kids]
    omega
  · intro p hp
    rcases List.mem_append.1 hp with hp | hp
    · exact (x.hlaid p hp).ext (he.nz _)
    · exact (hl p hp).ext hFe
/-- THE END: the whole list stands still -/
theorem lay_fin {ls : List (Nd × Value)} {room : Nat} {cur : Array Value} {l : List Nd} (hls : ls.map (·.1) = l) (h : ∀ (i : Nat) (u : Value), ((ls ++ sparesN room).flatMap nkC)[i]? = some u → cur[i]? = some u) :
    (∀ (i : Nat) (nd : Nd), l[i]? = some nd → ∃ k, (nd, k) ∈ ls ∧ SegAt cur (i * 41) (ndC nd k)) ∧ ∀ j, j < room → SegAt cur ((l.length + j) * 41) (nodeC (wordP j) zeroVal zeroMk nilS) := by
  have hl : l.length = ls.length := by rw [← hls]; simp
  have key : ∀ (i : Nat) (p : Nd × Value), (ls ++ sparesN room)[i]? = some p → SegAt cur (i * 41) (nkC p) := fun i p hp j u hu => h _ _ (flat_get nkC_length hp hu)
  refine ⟨fun i nd hi => ?_, fun j hj => ?_⟩
  · rw [← hls, List.getElem?_map] at hi
    obtain ⟨p, hp, rfl⟩ := Option.map_eq_some_iff.1 hi
    have hlt := (List.getElem?_eq_some_iff.1 hp).1
    exact ⟨p.2, List.mem_of_getElem? hp, key i p (by rw [List.getElem?_append_left hlt]; exact hp)⟩
  · have := key (ls.length + j) (spareNk j) (by rw [List.getElem?_append_right (by omega), show ls.length + j - ls.length = j by omega]; exact sparesN_get hj)
    rw [hl]; exact this
theorem RNds_of {Z : Nat → Prop} {w : World} {l : List Nd} {g c : Nat} {cs : Array Value} {te : TypeId} {fr : Nat × Nat} (hl : l.length ≤ c) (hc : c ≤ 9223372036854775807) (hb : FB Z w g (.cells cs te fr))
    (h : ∀ (i : Nat) (nd : Nd), l[i]? = some nd → ∃ k, RNds Z w nd.kids k ∧ SegAt cs (i * 41) (ndC nd k)) : RNds Z w l (.slice (some ⟨g, 0, none⟩) l.length c) := by
  have h1 : ∀ i, ∃ k, ∀ nd, l[i]? = some nd → RNds Z w nd.kids k ∧ SegAt cs (i * 41) (ndC nd k) := fun i => by
    cases hi : l[i]? with
    | none => exact ⟨nilS, nofun⟩
    | some nd =>
      obtain ⟨k, hk⟩ := h i nd hi
      exact ⟨k, fun nd' h' => by cases h'; exact hk⟩
  obtain ⟨kv, hkv⟩ := Classical.skolem.1 h1
  exact .mk kv hl hc hb (fun i nd hi => by rw [Nat.zero_add]; exact (hkv i nd hi).2) (fun i nd hi => (hkv i nd hi).1)
/-- the end of laying a list -/
theorem lay_end {l : List Nd} {Z0 : Nat → Prop} {w0 : World} (x : LayAt l Z0 w0) (hxi : x.i = l.length) {room n rm cap g : Nat} {xs22 xs23 : List Value} {v22 v23 : Value} {cur : Array Value} {Z1 ZX : Nat → Prop} {wz1 w1 : World} {L' : List Res}
    (hlen : l.length ≤ 10000000) (hroom : room ≤ 40) (he : Ext x.Z x.wz Z1 wz1) (hz : ∀ b, x.Z b → Z1 b) (hg1 : Z1 g) (hg0 : ¬ x.Z g) (hgw : w0.heap.size ≤ g) (hcur : wz1.heap[g]? = some (.cells cur 30 (0, 0)))
    (hsz : (l.length + room) * 41 ≤ cur.size) (hseg : ∀ (i : Nat) (u : Value), ((x.ls ++ sparesN room).flatMap nkC)[i]? = some u → cur[i]? = some u)
    (hX : Ext (NZ w0.heap.size Z1) wz1 ZX w1) (hXz : ∀ b, Z1 b → w0.heap.size ≤ b → ZX b)
    (hL : L' = [.blk rm (roomN v22 v23), .row v22 28 1 (n + x.us.length + 1) ((xs22 ++ x.us.map (·.1)) ++ [.slice (some ⟨g, 0, none⟩) (l.length + room) cap]), .row v23 3 1 (n + x.us.length + 1) ((xs23 ++ x.us.map fun p => .int .i64 p.2) ++ [.int .i64 l.length])]) :
    LayR rm n xs22 xs23 l (.slice (some ⟨g, 0, none⟩) l.length (l.length + room)) L' ZX w1 := by
  have hls : x.ls.map (·.1) = l := by rw [x.hls, hxi, List.take_length]
  obtain ⟨h1, h2⟩ := lay_fin hls hseg
  have hfb : FB ZX w1 g (.cells cur 30 (0, 0)) := hX.fb _ _ ⟨⟨hg1, hgw⟩, hcur⟩
  obtain ⟨h0, hsp⟩ := x.hsp
  refine ⟨x.us ++ [(.slice (some ⟨g, 0, none⟩) (l.length + room) cap, l.length)], v22, v23, ?_, ?_, ?_, ?_, h0 + 1, ZX, fun _ h => h, some ⟨g, 0, none⟩, l.length, l.length + room, rfl, .inr ⟨g, cur, rfl, by omega, hfb.z, hfb.at_, by omega, fun i hi => ?_⟩⟩
  · rw [List.length_append, x.hus, hxi, List.take_length]; rfl
  · rw [hL]; simp [List.append_assoc, Nat.add_assoc]
  · intro p hp
    rcases List.mem_append.1 hp with hp | hp
    · exact ((x.hlaid p hp).ext (he.nz _)).ext hX
    · rcases List.mem_singleton.1 hp with rfl
      exact ⟨g, room, cap, cur, 30, (0, 0), rfl, by dsimp only; omega, hfb, h2⟩
  · refine RNds_of (by omega) (by omega) hfb fun i nd hi => ?_
    obtain ⟨k, hk1, hk2⟩ := h1 i nd hi
    exact ⟨k, ((x.hk _ hk1).ext (he.nz _)).ext hX, hk2⟩
  · obtain ⟨nd, hnd⟩ : ∃ nd, l[i]? = some nd := ⟨_, List.getElem?_eq_getElem hi⟩
    obtain ⟨k, hk1, hk2⟩ := h1 i nd hnd
    obtain ⟨E, hE, hs⟩ := hsp _ hk1
    refine ⟨k, E, hk2 40 k rfl, fun b hb => ⟨hXz b (hz b (hE b hb).1) (hE b hb).2, fun e => hg0 (e ▸ (hE b hb).1)⟩, ?_⟩
    have h5 := hs.ext (he.nz w0.heap.size) hE
    exact h5.ext hX fun b hb => ⟨hz b (hE b hb).1, (hE b hb).2⟩
theorem Sp.seg {cs : Array Value} {o : Nat} {nd : Nd} {k : Value} (h : SegAt cs o (ndC nd k)) : cs[o + 40]? = some k := h 40 k rfl
end Go.Eng

set_option linter.unusedVariables false
set_option linter.unusedSimpArgs false
namespace Go.Eng
open Go Go.RowKit Go.Proofs
theorem ap3 : (Try.prog.info? 3).map (fun i => (i.zero, i.size, i.bytes)) = some (some (.int .i64 0), 1, 8) := by kernel_rfl
theorem en107 : Enters Try.prog 107 := ⟨_, Try.func107, by kernel_rfl, by kernel_rfl⟩
theorem en122 : Enters Try.prog 122 := ⟨_, Try.func122, by kernel_rfl, by kernel_rfl⟩
theorem fo48_22 : fieldOff Try.prog 48 22 = some 22 := by kernel_rfl
theorem fo48_23 : fieldOff Try.prog 48 23 = some 23 := by kernel_rfl
theorem sz28 : (Try.prog.info? 28).map (·.size) = some 1 := by kernel_rfl
theorem sz34 : (Try.prog.info? 34).map (·.size) = some 1 := by kernel_rfl
theorem sz45 : (Try.prog.info? 45).map (·.size) = some 1 := by kernel_rfl
theorem zr28 : (Try.prog.info? 28).bind (·.zero) = some (nilS) := by kernel_rfl
theorem zr3 : (Try.prog.info? 3).bind (·.zero) = some (.int .i64 0) := by kernel_rfl

set_option maxRecDepth 8000 in
set_option maxHeartbeats 1000000 in
theorem word_spec (i : Int) (hi : 0 ≤ i) (w : World)  : SCalls Try.prog 107 #[.int .i64 i] w (fun u => u = .string (wordP i)) := by
  refine enter (N := 6) Try.func107 rfl Try.ntmps107 (Nat.le_of_ble_eq_true rfl) [(0, .int .i64 i)] (by repeat (first | exact trivial | refine ⟨rfl, ?_⟩)) (Mem.start w (fun _ => False) (fun b => b < w.heap.size) (fun _ h => h)) ?_
  refine JC_seq ?_
  refine JC_region ?_
  refine JL_v (vo_assign rfl) nofun (by decide) ?_
  refine JL_nil ?_
  refine JX_then ?_
  refine JC_seq ?_
  refine JC_seq ?_
  refine JC_region ?_
  refine JL_v (vo_move rfl) nofun (by decide) ?_
  refine JL_v (vo_rem rfl rfl (by omega) (by omega)) nofun (by decide) ?_
  refine JL_v (vo_cmp rfl rfl rfl) nofun (by decide) ?_
  refine JL_nil ?_
  refine JX_then ?_
  refine JC_cond _ rfl (fun hc5 => ?_) (fun hc5 => ?_)
  · refine JC_seq ?_
    refine JC_region ?_
    refine JL_v (vo_assign rfl) nofun (by decide) ?_
    refine JL_nil ?_
    refine JX_then ?_
    refine JC_ret ?_
    refine JX_then_ret ?_
    refine ret1 rfl rfl ?_
    intro w1 hM; refine SC_end hM ?_; have h : i % 2 = 0 := by simpa using hc5
    unfold wordP; rw [if_pos h]; rfl
  · refine JC_skip ?_
    refine JX_then ?_
    refine JC_seq ?_
    refine JC_region ?_
    refine JL_v (vo_assign rfl) nofun (by decide) ?_
    refine JL_nil ?_
    refine JX_then ?_
    refine JC_ret ?_
    refine ret1 rfl rfl ?_
    intro w1 hM; refine SC_end hM ?_; have h : ¬ i % 2 = 0 := by simpa using hc5
    unfold wordP; rw [if_neg h]; rfl
set_option maxRecDepth 8000 in
set_option maxHeartbeats 1000000 in
theorem layN_spec (rm n : Nat) (v22 v23 : Value) (xs22 xs23 : List Value) (l : List Nd) (room : Nat) (hroom : 0 < room ∧ room ≤ 40) (hcnt : n + cntL (trsOf l) + 1 ≤ 10000000) (hlen : l.length ≤ 10000000) (hks : ∀ nd ∈ l, ∀ (rm n : Nat) (v22 v23 : Value) (xs22 xs23 : List Value) (k : Value) (w : World), n + cntL (trsOf nd.kids) + 1 ≤ 10000000 → Holds [.blk rm (roomN v22 v23), .row v22 28 1 n xs22, .row v23 3 1 n xs23] w → RNds (ZL [.blk rm (roomN v22 v23), .row v22 28 1 n xs22, .row v23 3 1 n xs23] w) w nd.kids k → XCalls Try.prog 122 #[.pointer (some ⟨rm, 0, none⟩), .agg (ndC nd k).toArray] w [.blk rm (roomN v22 v23), .row v22 28 1 n xs22, .row v23 3 1 n xs23] (fun u L' Z' w' => ∃ k', u = .agg (ndC nd k').toArray ∧ LayR rm n xs22 xs23 nd.kids k' L' Z' w')) (v : Value) (w : World) (hL : Holds [.blk rm (roomN v22 v23), .row v22 28 1 n xs22, .row v23 3 1 n xs23] w) (hr : RNds (ZL [.blk rm (roomN v22 v23), .row v22 28 1 n xs22, .row v23 3 1 n xs23] w) w l v) : XCalls Try.prog 101 #[.pointer (some ⟨rm, 0, none⟩), v, .int .i64 room] w [.blk rm (roomN v22 v23), .row v22 28 1 n xs22, .row v23 3 1 n xs23] (fun u L' Z' w' => LayR rm n xs22 xs23 l u L' Z' w') := by
  obtain ⟨A, c, rfl, hlen2⟩ := hr.slice
  obtain ⟨L, hLe⟩ : ∃ L : List Res, L = [.blk rm (roomN v22 v23), .row v22 28 1 n xs22, .row v23 3 1 n xs23] := ⟨_, rfl⟩
  have hM0 : Mem w (EL L) (ZL L w) (ZL L w) w [.blk rm (roomN v22 v23), .row v22 28 1 n xs22, .row v23 3 1 n xs23] w := by
    have := Mem.startL (hLe ▸ hL)
    rw [hLe] at this ⊢
    exact this
  rw [← hLe] at hr ⊢
  refine enter (N := 64) Try.func101 rfl Try.ntmps101 (Nat.le_of_ble_eq_true rfl) [(0, .pointer (some ⟨rm, 0, none⟩)), (1, .slice A l.length c), (2, .int .i64 room)] (by repeat (first | exact trivial | refine ⟨rfl, ?_⟩)) (hM0) ?_
  refine JC_seq ?_
  refine JC_region ?_
  refine JL_v (vo_assign rfl) nofun (by decide) ?_
  refine JL_nil ?_
  refine JX_then ?_
  refine JC_seq ?_
  refine JC_region ?_
  refine st_bslice0N Try.underlying28 zr30 sz30 (by decide) (by decide) (fun v10 hv10 => ?_)
  refine JL_v (vo_assign rfl) nofun (by decide) ?_
  refine JL_nil ?_
  refine JX_then ?_
  refine JC_seq ?_
  refine JC_seq ?_
  refine JC_region ?_
  refine JL_v (vo_assign rfl) nofun (by decide) ?_
  refine JL_nil ?_
  refine JX_then ?_
  refine JC_block ?_
  refine JC_loop (α := LayAt l (ZL L w) w) (fun x => [(0, .pointer (some ⟨rm, 0, none⟩)), (1, .slice A l.length c), (2, .int .i64 room), (7, x.vf), (8, .int .i64 x.i)]) (fun x => Mem w (EL L) (ZL L w) x.Z x.wz [.row x.vf 30 41 x.i (x.ls.flatMap nkC), .blk rm (roomN x.v22 x.v23), .row x.v22 28 1 (n + x.us.length) (xs22 ++ x.us.map (·.1)), .row x.v23 3 1 (n + x.us.length) (xs23 ++ x.us.map fun p => .int .i64 p.2)]) (fun x => l.length - x.i) ⟨0, ZL L w, w, [], [], v10, v22, v23, by omega, .refl _ _, rfl, nofun, ⟨0, nofun⟩, rfl, nofun, hv10⟩ (by repeat (first | exact trivial | refine ⟨rfl, ?_⟩ | refine ⟨trivial, ?_⟩)) (fun w hw => by simpa using hw) ?_
  rintro x
  have hxle := x.hi
  refine JC_seq ?_
  refine JC_seq ?_
  refine JC_region ?_
  refine JL_v (vo_move rfl) nofun (by decide) ?_
  refine JL_v (vo_move rfl) nofun (by decide) ?_
  refine JL_v (vo_len rfl Try.underlying28) nofun (by decide) ?_
  refine JL_v (vo_cmp rfl rfl rfl) nofun (by decide) ?_
  refine JL_nil ?_
  refine JX_then ?_
  refine JC_cond _ rfl (fun hc14 => ?_) (fun hc14 => ?_)
  · have hil : x.i < l.length := by simp at hc14; omega
    obtain ⟨nk, hnk⟩ : ∃ nk, l[x.i]? = some nk := ⟨_, List.getElem?_eq_getElem hil⟩
    obtain ⟨b', o', c', cs', te, fr, kk, hv, hfb0, hseg, hkk⟩ := hr.at_ hnk
    cases hv
    obtain ⟨Ak, ck, rfl, hlk⟩ := hkk.slice
    have hfb := x.ext.fb _ _ hfb0
    clear hfb0
    have hmem := List.mem_of_getElem? hnk
    have hcle : n + x.us.length + cntL (trsOf nk.kids) + 1 ≤ 10000000 := by
      have h1 := cntL_take (trsOf l) (x.i + 1)
      rw [take_snoc_get (by rw [trsOf_eq, List.getElem?_map, hnk]; rfl), cntL_append] at h1
      have h2 := x.hus
      rw [trsOf_eq, List.map_take, ← trsOf_eq] at h2
      obtain ⟨nm, vv, mm, kks⟩ := nk
      simp only [trOf, cntL, Tr.count, Nd.kids] at h1 ⊢
      omega
    refine JC_skip ?_
    refine JX_then ?_
    refine JC_seq ?_
    refine JC_block ?_
    refine JC_region ?_
    refine JL_v (vo_move rfl) nofun (by decide) ?_
    refine JL_v (vo_move rfl) nofun (by decide) ?_
    refine JL_v (vo_move rfl) nofun (by decide) ?_
    refine JL_v (vo_move rfl) nofun (by decide) ?_
    refine JL_v (vo_indexAddr rfl rfl Try.underlying28 sz30 (by omega) (by omega)) nofun (by decide) ?_
    refine JL_v (vo_load rfl (by first | exact .frz ‹_› | exact .own (by repeat (first | exact .head _ | refine .tail _ ?_))) (by first | exact PartAt.whole Try.underlying30 rfl sz30 | exact pn_all ‹_› | exact pn_val (node_self _ _ _ _) | exact pn_marks (node_self _ _ _ _) | exact pn_name ‹_›)) nofun (by decide) ?_
    refine JL_perm (List.perm_append_comm (l₁ := [_]) (l₂ := [_, _, _])) ?_
    refine st_xcall [.blk rm (roomN x.v22 x.v23), .row x.v22 28 1 (n + x.us.length) (xs22 ++ x.us.map (·.1)), .row x.v23 3 1 (n + x.us.length) (xs23 ++ x.us.map fun p => .int .i64 p.2)] _ rfl rfl en122 (by decide) (fun w1 hw => hks nk hmem rm _ _ _ _ _ _ w1 (by have := hcle; omega) hw.holds ((hkk.ext x.ext).ext hw.ext_ZL)) ?_
    rintro _ L' F Z' wz' ⟨k', rfl, us, v22', v23', hul, rfl, hlaid, hrk, hh, E', hE', hsp⟩ hext hF hZ
    obtain ⟨Ak, ck, rfl, hlk'⟩ := hrk.slice
    refine st_bslice1 rfl Try.underlying28 (by first | exact zr30) sz30 (by exact Nat.le_of_ble_eq_true rfl) (by exact Nat.ne_of_gt (Nat.le_of_ble_eq_true rfl)) (by decide) (fun b24 => ?_)
    refine st_appendBN rfl rfl Try.underlying28 ap30 (by rfl) (by decide) (by first | exact .frz ‹_› | exact .own (by repeat (first | exact .head _ | refine .tail _ ?_))) (by repeat (first | exact .head _ | apply TurnF.tail)) (by rfl) (by first | exact one_of_all rfl | assumption) (by omega) (by decide) (by decide) (fun v25 hv25 => ?_)
    refine JL_v (vo_assign rfl) nofun (by decide) ?_
    refine JL_nil ?_
    refine JX_block ?_
    refine JX_then ?_
    refine JC_region ?_
    refine JL_v (vo_move rfl) nofun (by decide) ?_
    refine JL_v (vo_add rfl rfl (by omega) (by omega)) nofun (by decide) ?_
    refine JL_v (vo_assign rfl) nofun (by decide) ?_
    refine JL_nil ?_
    obtain ⟨y, y1, y2, y3, y4, y5, y6, y7, y8⟩ := x.push hZ hext (fun b hb => ⟨(hF b hb).1, (hF b hb).2.2⟩) hnk hul hlaid hrk hE' hsp v25 v22' v23' (fun b hb => (hv25 b hb).elim (x.hvf b) id)
    refine JX_loop y (by rw [y1]; omega) (by rw [y1, y6]; exact (by repeat (first | exact trivial | refine ⟨rfl, ?_⟩ | refine ⟨trivial, ?_⟩))) (fun w hw => ?_)
    rw [y1, y2, y3, y4, y5, y6, y7, y8]
    have h9 := hw.sub (L' := _) (.cons _ (List.Sublist.refl _))
    have h10 := h9.perm (List.perm_append_comm (l₁ := [_, _, _]) (l₂ := [_]))
    rw [List.flatMap_append, List.length_append, List.map_append, List.map_append, ← Nat.add_assoc, ← List.append_assoc, ← List.append_assoc]
    simpa [nkC, Value.cells] using h10
  · refine JC_exit ?_
    refine JX_then_exit ?_
    refine JX_thenK_exit ?_
    refine JX_block_exit ?_
    refine JX_then ?_
    refine JC_seq ?_
    refine JC_seq ?_
    refine JC_region ?_
    have hxi : x.i = l.length := by simp at hc14; omega
    have husl : x.us.length = cntL (trsOf l) := by rw [x.hus, hxi, List.take_length]
    refine JL_v (vo_assign rfl) nofun (by decide) ?_
    refine JL_nil ?_
    refine JX_then ?_
    refine JC_block ?_
    refine JC_loop (α := { j : Nat × Value // j.1 ≤ room ∧ ∀ b, j.2.ownBlock = some b → w.heap.size ≤ b }) (fun j => [(0, .pointer (some ⟨rm, 0, none⟩)), (1, .slice A l.length c), (2, .int .i64 room), (7, j.1.2), (9, .int .i64 j.1.1)]) (fun j => Mem w (EL L) (ZL L w) x.Z x.wz [.row j.1.2 30 41 (l.length + j.1.1) ((x.ls ++ sparesN j.1.1).flatMap nkC), .blk rm (roomN x.v22 x.v23), .row x.v22 28 1 (n + x.us.length) (xs22 ++ x.us.map (·.1)), .row x.v23 3 1 (n + x.us.length) (xs23 ++ x.us.map fun p => .int .i64 p.2)]) (fun j => room - j.1.1) ⟨(0, x.vf), by simp, x.hvf⟩ (by repeat (first | exact trivial | refine ⟨rfl, ?_⟩ | refine ⟨trivial, ?_⟩)) (fun w hw => by rw [hxi] at hw; simpa [sparesN] using hw) ?_
    rintro ⟨⟨j, vf⟩, hj, hvf⟩
    dsimp only at hj hvf ⊢
    refine JC_seq ?_
    refine JC_seq ?_
    refine JC_region ?_
    refine JL_v (vo_move rfl) nofun (by decide) ?_
    refine JL_v (vo_move rfl) nofun (by decide) ?_
    refine JL_v (vo_cmp rfl rfl rfl) nofun (by decide) ?_
    refine JL_nil ?_
    refine JX_then ?_
    refine JC_cond _ rfl (fun hc28 => ?_) (fun hc28 => ?_)
    · have hjl : j < room := by simp at hc28; omega
      refine JC_skip ?_
      refine JX_then ?_
      refine JC_seq ?_
      refine JC_block ?_
      refine JC_region ?_
      refine JL_v (vo_move rfl) nofun (by decide) ?_
      refine JL_v (vo_move rfl) nofun (by decide) ?_
      refine st_scall rfl en107 (by decide) (fun w hw => word_spec j (by omega) w) ?_
      rintro _ rfl
      refine JL_v (vo_build rfl (by first | exact bl30 _)) nofun (by decide) ?_
      refine st_bslice1 rfl Try.underlying28 (by first | exact zr30) sz30 (by exact Nat.le_of_ble_eq_true rfl) (by exact Nat.ne_of_gt (Nat.le_of_ble_eq_true rfl)) (by decide) (fun b35 => ?_)
      refine st_appendBN rfl rfl Try.underlying28 ap30 (by rfl) (by decide) (by first | exact .frz ‹_› | exact .own (by repeat (first | exact .head _ | refine .tail _ ?_))) (by repeat (first | exact .head _ | apply TurnF.tail)) (by rfl) (by first | exact one_of_all rfl | assumption) (by omega) (by decide) (by decide) (fun v36 hv36 => ?_)
      refine JL_v (vo_assign rfl) nofun (by decide) ?_
      refine JL_nil ?_
      refine JX_block ?_
      refine JX_then ?_
      refine JC_region ?_
      refine JL_v (vo_move rfl) nofun (by decide) ?_
      refine JL_v (vo_add rfl rfl (by omega) (by omega)) nofun (by decide) ?_
      refine JL_v (vo_assign rfl) nofun (by decide) ?_
      refine JL_nil ?_
      refine JX_loop ⟨(j + 1, v36), hjl, fun b hb => (hv36 b hb).elim (hvf b) id⟩ (by show room - (j + 1) < room - j; omega) (by repeat (first | exact trivial | refine ⟨rfl, ?_⟩ | refine ⟨trivial, ?_⟩)) (fun w hw => ?_)
      have h9 := hw.sub (L' := _) (.cons _ (List.Sublist.refl _))
      dsimp only
      rw [sparesN_succ, ← List.append_assoc, List.flatMap_append, ← Nat.add_assoc]
      simpa [nkC, spareNk, Value.cells, ndC, Nd.name, Nd.val, Nd.marks] using h9
    · refine JC_exit ?_
      refine JX_then_exit ?_
      refine JX_thenK_exit ?_
      refine JX_block_exit ?_
      refine JX_then ?_
      refine JC_seq ?_
      refine JC_region ?_
      have hje : j = room := by simp at hc28; omega
      subst hje
      refine JL_rowSome2 (v := vf) (e := 30) (sz := 41) (n := l.length + j) (xs := (x.ls ++ sparesN j).flatMap nkC) (.head _) (by omega) (fun g cap hvfe hgc hgm => ?_)
      subst hvfe
      refine JL_v (vo_move rfl) nofun (by decide) ?_
      refine JL_v (vo_move rfl) nofun (by decide) ?_
      refine JL_v ((by first | exact vo_nilCheck rfl | exact vo_nilCheckF rfl)) nofun (by decide) ?_
      refine JL_v (vo_fieldAddr rfl fo48_22) nofun (by decide) ?_
      refine JL_v (vo_load rfl (by first | exact .frz ‹_› | exact .own (by repeat (first | exact .head _ | refine .tail _ ?_))) (by first | exact .cell Try.underlying45 rfl rfl | exact pn_all ‹_› | exact pn_val (node_self _ _ _ _) | exact pn_marks (node_self _ _ _ _) | exact pn_name ‹_›)) nofun (by decide) ?_
      refine JL_v (vo_move rfl) nofun (by decide) ?_
      refine st_bslice1 rfl Try.underlying45 (by first | exact zr28) sz28 (by exact Nat.le_of_ble_eq_true rfl) (by exact Nat.ne_of_gt (Nat.le_of_ble_eq_true rfl)) (by decide) (fun b43 => ?_)
      refine st_appendB rfl rfl Try.underlying45 ap28 (by rfl) (by decide) (by first | exact .frz ‹_› | exact .own (by repeat (first | exact .head _ | refine .tail _ ?_))) (by repeat (first | exact .head _ | apply TurnF.tail)) (by rfl) (by first | exact one_of_all rfl | assumption) (by omega) (by decide) (by decide) (fun v44 => ?_)
      refine JL_rowSome2 (v := v44) (e := 28) (sz := 1) (n := n + x.us.length + 1) (xs := (xs22 ++ x.us.map (·.1)) ++ [.slice (some ⟨g, 0, none⟩) (l.length + j) cap]) (by repeat (first | exact .head _ | apply List.Mem.tail)) (by omega) (fun g22 cap22 hv22 _ _ => ?_)
      subst hv22
      refine JL_v ((by first | exact vo_nilCheck rfl | exact vo_nilCheckF rfl)) nofun (by decide) ?_
      refine JL_v (vo_fieldAddr rfl fo48_22) nofun (by decide) ?_
      refine st_store rfl rfl sz45 (by exact one_of_all rfl) (cs' := (roomL (.slice (some ⟨g22, 0, none⟩) (n + x.us.length + 1) cap22) x.v23).toArray) (cs := (roomL x.v22 x.v23).toArray) (te := 48) (by repeat (first | exact .head _ _ _ | apply Turn.tail)) (by exact Nat.le_of_ble_eq_true rfl) (by rfl) ?_
      refine JL_nil ?_
      refine JX_then ?_
      refine JC_seq ?_
      refine JC_region ?_
      refine JL_v (vo_move rfl) nofun (by decide) ?_
      refine JL_v (vo_move rfl) nofun (by decide) ?_
      refine JL_v ((by first | exact vo_nilCheck rfl | exact vo_nilCheckF rfl)) nofun (by decide) ?_
      refine JL_v (vo_fieldAddr rfl fo48_23) nofun (by decide) ?_
      refine JL_v (vo_load rfl (by first | exact .frz ‹_› | exact .own (by repeat (first | exact .head _ | refine .tail _ ?_))) (by first | exact .cell Try.underlying34 rfl rfl | exact pn_all ‹_› | exact pn_val (node_self _ _ _ _) | exact pn_marks (node_self _ _ _ _) | exact pn_name ‹_›)) nofun (by decide) ?_
      refine JL_v (vo_move rfl) nofun (by decide) ?_
      refine JL_v (vo_len rfl Try.underlying28) nofun (by decide) ?_
      refine st_bslice1 rfl Try.underlying34 (by first | exact zr3) sz3 (by exact Nat.le_of_ble_eq_true rfl) (by exact Nat.ne_of_gt (Nat.le_of_ble_eq_true rfl)) (by decide) (fun b54 => ?_)
      refine st_appendB rfl rfl Try.underlying34 ap3 (by rfl) (by decide) (by first | exact .frz ‹_› | exact .own (by repeat (first | exact .head _ | refine .tail _ ?_))) (by repeat (first | exact .head _ | apply TurnF.tail)) (by rfl) (by first | exact one_of_all rfl | assumption) (by omega) (by decide) (by decide) (fun v55 => ?_)
      refine JL_rowSome2 (v := v55) (e := 3) (sz := 1) (n := n + x.us.length + 1) (xs := (xs23 ++ x.us.map fun p => .int .i64 p.2) ++ [.int .i64 l.length]) (by repeat (first | exact .head _ | apply List.Mem.tail)) (by omega) (fun g23 cap23 hv23 _ _ => ?_)
      subst hv23
      refine JL_v ((by first | exact vo_nilCheck rfl | exact vo_nilCheckF rfl)) nofun (by decide) ?_
      refine JL_v (vo_fieldAddr rfl fo48_23) nofun (by decide) ?_
      refine st_store rfl rfl sz34 (by exact one_of_all rfl) (cs' := (roomL (.slice (some ⟨g22, 0, none⟩) (n + x.us.length + 1) cap22) (.slice (some ⟨g23, 0, none⟩) (n + x.us.length + 1) cap23)).toArray) (cs := (roomL (.slice (some ⟨g22, 0, none⟩) (n + x.us.length + 1) cap22) x.v23).toArray) (te := 48) (by repeat (first | exact .head _ _ _ | apply Turn.tail)) (by exact Nat.le_of_ble_eq_true rfl) (by rfl) ?_
      refine JL_nil ?_
      refine JX_then ?_
      refine JC_seq ?_
      refine JC_region ?_
      refine JL_v (vo_move rfl) nofun (by decide) ?_
      refine JL_v (vo_move rfl) nofun (by decide) ?_
      refine JL_v (vo_len rfl Try.underlying28) nofun (by decide) ?_
      refine JL_v (vo_move rfl) nofun (by decide) ?_
      refine JL_v (vo_len rfl Try.underlying28) nofun (by decide) ?_
      refine JL_v (vo_sliceHM0 rfl rfl rfl Try.underlying28 sz30 (by omega) (by omega) (by omega)) nofun (by decide) ?_
      refine JL_freezeLaid (g := g) (cap := cap) (n := l.length + j) (sz := 41) (e := 30) (by repeat (first | exact Del.head _ _ | apply Del.tail)) (hvf g rfl) (fun Z1 wz1 cur he1 hz1 hg1 hg0 hcur hl1 hcs hsegs => ?_)
      refine JL_v (vo_assign rfl) nofun (by decide) ?_
      refine JL_nil ?_
      refine JX_then ?_
      refine JC_ret ?_
      refine ret1 rfl rfl ?_
      intro w1 hM
      have h9 := hM.sub (L' := _) (.cons _ (.cons _ (List.Sublist.refl _)))
      exact X_end2 h9 (fun hX hXz => lay_end x hxi hlen hroom.2 he1 hz1 hg1 hg0 (hvf g rfl) hcur hcs hsegs hX hXz rfl)

end Go.Eng

set_option linter.unusedVariables false
set_option linter.unusedSimpArgs false
namespace Go.Eng
open Go Go.RowKit Go.Proofs
theorem en101 : Enters Try.prog 101 := ⟨_, Try.func101, by kernel_rfl, by kernel_rfl⟩
theorem en59 : Enters Try.prog 59 := ⟨_, Try.func59, by kernel_rfl, by kernel_rfl⟩

set_option maxRecDepth 8000 in
set_option maxHeartbeats 1000000 in
theorem kid_of (rm n : Nat) (v22 v23 : Value) (xs22 xs23 : List Value) (nm : ByteArray) (v : Val) (m : Mk2) (l : List Nd) (hcnt : n + cntL (trsOf l) + 1 ≤ 10000000) (hks : ∀ nd ∈ l, ∀ (rm n : Nat) (v22 v23 : Value) (xs22 xs23 : List Value) (k : Value) (w : World), n + cntL (trsOf nd.kids) + 1 ≤ 10000000 → Holds [.blk rm (roomN v22 v23), .row v22 28 1 n xs22, .row v23 3 1 n xs23] w → RNds (ZL [.blk rm (roomN v22 v23), .row v22 28 1 n xs22, .row v23 3 1 n xs23] w) w nd.kids k → XCalls Try.prog 122 #[.pointer (some ⟨rm, 0, none⟩), .agg (ndC nd k).toArray] w [.blk rm (roomN v22 v23), .row v22 28 1 n xs22, .row v23 3 1 n xs23] (fun u L' Z' w' => ∃ k', u = .agg (ndC nd k').toArray ∧ LayR rm n xs22 xs23 nd.kids k' L' Z' w')) (k : Value) (w : World) (hL : Holds [.blk rm (roomN v22 v23), .row v22 28 1 n xs22, .row v23 3 1 n xs23] w) (hr : RNds (ZL [.blk rm (roomN v22 v23), .row v22 28 1 n xs22, .row v23 3 1 n xs23] w) w l k) : XCalls Try.prog 122 #[.pointer (some ⟨rm, 0, none⟩), .agg (ndC (.mk nm v m l) k).toArray] w [.blk rm (roomN v22 v23), .row v22 28 1 n xs22, .row v23 3 1 n xs23] (fun u L' Z' w' => ∃ k', u = .agg (ndC (.mk nm v m l) k').toArray ∧ LayR rm n xs22 xs23 l k' L' Z' w') := by
  obtain ⟨A, c, rfl, hlen2⟩ := hr.slice
  obtain ⟨L, hLe⟩ : ∃ L : List Res, L = [.blk rm (roomN v22 v23), .row v22 28 1 n xs22, .row v23 3 1 n xs23] := ⟨_, rfl⟩
  have hM0 : Mem w (EL L) (ZL L w) (ZL L w) w [.blk rm (roomN v22 v23), .row v22 28 1 n xs22, .row v23 3 1 n xs23] w := by
    have := Mem.startL (hLe ▸ hL)
    rw [hLe] at this ⊢
    exact this
  rw [← hLe] at hr ⊢
  refine enter (N := 11) Try.func122 rfl Try.ntmps122 (Nat.le_of_ble_eq_true rfl) [(0, .pointer (some ⟨rm, 0, none⟩)), (1, .agg (ndC (.mk nm v m l) (.slice A l.length c)).toArray)] (by repeat (first | exact trivial | refine ⟨rfl, ?_⟩)) (hM0) ?_
  refine JC_seq ?_
  refine JC_region ?_
  refine st_box rfl (by decide) (fun b3 => ?_)
  refine st_alloc zr30 (by decide) (fun b4 => ?_)
  refine JL_nil ?_
  refine JX_then ?_
  refine JC_seq ?_
  refine JC_region ?_
  refine JL_v (vo_move rfl) nofun (by decide) ?_
  refine JL_v (vo_fieldAddr rfl fo30_3) nofun (by decide) ?_
  refine JL_v (vo_load rfl (by first | exact .frz ‹_› | exact .own (by repeat (first | exact .head _ | refine .tail _ ?_))) (by first | exact .cell Try.underlying28 rfl rfl | exact pn_all ‹_› | exact pn_val (node_self _ _ _ _) | exact pn_marks (node_self _ _ _ _) | exact pn_name ‹_›)) nofun (by decide) ?_
  refine JL_perm (List.perm_append_comm (l₁ := [_, _]) (l₂ := [_, _, _])) ?_
  refine st_xcall [.blk rm (roomN v22 v23), .row v22 28 1 n xs22, .row v23 3 1 n xs23] _ rfl rfl en101 (by decide) (fun w1 hw => layN_spec rm n _ _ _ _ l 4 (by decide) hcnt (by have := len_cntL l; omega) hks _ w1 hw.holds (hr.ext hw.ext_ZL)) ?_
  rintro u L' F Z' wz' hlay hext hF hZ
  obtain ⟨us, v22', v23', hul, hLq, hlaid, hrk, hh, E', hE', hsp⟩ := id hlay
  subst hLq
  obtain ⟨Ak, ck, rfl, hlk'⟩ := hrk.slice
  refine JL_v (vo_fieldAddr rfl fo30_3) nofun (by decide) ?_
  refine st_store rfl rfl sz28 (by exact one_of_all rfl) (cs' := (ndC (.mk nm v m l) (.slice Ak l.length ck)).toArray) (cs := (ndC (.mk nm v m l) (.slice A l.length c)).toArray) (te := 30) (by repeat (first | exact .head _ _ _ | apply Turn.tail)) (by exact Nat.le_of_ble_eq_true rfl) (by rfl) ?_
  refine JL_nil ?_
  refine JX_then ?_
  refine JC_seq ?_
  refine JC_region ?_
  refine JL_v (vo_load rfl (by first | exact .frz ‹_› | exact .own (by repeat (first | exact .head _ | refine .tail _ ?_))) (by first | exact PartAt.whole Try.underlying30 rfl sz30 | exact pn_all ‹_› | exact pn_val (node_self _ _ _ _) | exact pn_marks (node_self _ _ _ _) | exact pn_name ‹_›)) nofun (by decide) ?_
  refine st_storeW rfl rfl sz30 rfl (by repeat (first | exact .head _ _ _ | apply Turn.tail)) (by rfl) ?_
  refine JL_nil ?_
  refine JX_then ?_
  refine JC_ret ?_
  refine retL1 rfl (.cell rfl (by first | exact .frz ‹_› | exact .own (by repeat (first | exact .head _ | refine .tail _ ?_))) (by first | exact PartAt.whole Try.underlying30 rfl sz30 | exact pn_all ‹_› | exact pn_val (node_self _ _ _ _) | exact pn_marks (node_self _ _ _ _) | exact pn_name ‹_›) (.nil)) ?_
  intro w1 hM
  exact X_end2 (R := fun u L' Z' w' => ∃ k', u = .agg (ndC (.mk nm v m l) k').toArray ∧ LayR rm n xs22 xs23 l k' L' Z' w') (hM.sub (L' := _) (List.sublist_append_left [_, _, _] _)) (fun hX hXz => ⟨_, rfl, hlay.ext ((Ext.sub (fun b hb => ⟨(hF b hb).1, (hF b hb).2.2⟩)).trans hX) (fun b hb => hXz b (hF b hb).1 (hF b hb).2.2)⟩)
theorem kid_spec : ∀ nd : Nd, ∀ (rm n : Nat) (v22 v23 : Value) (xs22 xs23 : List Value) (k : Value) (w : World), n + cntL (trsOf nd.kids) + 1 ≤ 10000000 → Holds [.blk rm (roomN v22 v23), .row v22 28 1 n xs22, .row v23 3 1 n xs23] w → RNds (ZL [.blk rm (roomN v22 v23), .row v22 28 1 n xs22, .row v23 3 1 n xs23] w) w nd.kids k → XCalls Try.prog 122 #[.pointer (some ⟨rm, 0, none⟩), .agg (ndC nd k).toArray] w [.blk rm (roomN v22 v23), .row v22 28 1 n xs22, .row v23 3 1 n xs23] (fun u L' Z' w' => ∃ k', u = .agg (ndC nd k').toArray ∧ LayR rm n xs22 xs23 nd.kids k' L' Z' w') := by
  refine Nd.ind fun nm v m l ih => ?_
  intro rm n v22 v23 xs22 xs23 k w hcnt hL hr
  exact kid_of rm n v22 v23 xs22 xs23 nm v m l hcnt ih k w hL hr

set_option maxRecDepth 8000 in
set_option maxHeartbeats 1000000 in
theorem nodesR_spec (rm n : Nat) (v22 v23 : Value) (xs22 xs23 : List Value) (l : List Nd) (hcnt : n + cntL (trsOf l) + 1 ≤ 10000000) (k : Value) (w : World) (hL : Holds [.blk rm (roomN v22 v23), .row v22 28 1 n xs22, .row v23 3 1 n xs23] w) (hr : RNds (ZL [.blk rm (roomN v22 v23), .row v22 28 1 n xs22, .row v23 3 1 n xs23] w) w l k) : XCalls Try.prog 59 #[.pointer (some ⟨rm, 0, none⟩), k] w [.blk rm (roomN v22 v23), .row v22 28 1 n xs22, .row v23 3 1 n xs23] (fun u L' Z' w' => LayR rm n xs22 xs23 l u L' Z' w') := by
  obtain ⟨A, c, rfl, hlen2⟩ := hr.slice
  obtain ⟨L, hLe⟩ : ∃ L : List Res, L = [.blk rm (roomN v22 v23), .row v22 28 1 n xs22, .row v23 3 1 n xs23] := ⟨_, rfl⟩
  have hM0 : Mem w (EL L) (ZL L w) (ZL L w) w [.blk rm (roomN v22 v23), .row v22 28 1 n xs22, .row v23 3 1 n xs23] w := by
    have := Mem.startL (hLe ▸ hL)
    rw [hLe] at this ⊢
    exact this
  rw [← hLe] at hr ⊢
  refine enter (N := 8) Try.func59 rfl Try.ntmps59 (Nat.le_of_ble_eq_true rfl) [(0, .pointer (some ⟨rm, 0, none⟩)), (1, .slice A l.length c)] (by repeat (first | exact trivial | refine ⟨rfl, ?_⟩)) (hM0) ?_
  refine JC_seq ?_
  refine JC_region ?_
  refine JL_v (vo_assign rfl) nofun (by decide) ?_
  refine JL_nil ?_
  refine JX_then ?_
  refine JC_seq ?_
  refine JC_region ?_
  refine JL_v (vo_move rfl) nofun (by decide) ?_
  refine JL_v (vo_move rfl) nofun (by decide) ?_
  refine st_xcall [.blk rm (roomN v22 v23), .row v22 28 1 n xs22, .row v23 3 1 n xs23] [] rfl rfl en101 (by decide) (fun w1 hw => layN_spec rm n _ _ _ _ l 40 (by decide) hcnt (by have := len_cntL l; omega) (fun nd _ => kid_spec nd) _ w1 hw.holds (hr.ext hw.ext_ZL)) ?_
  rintro u L' F Z' wz' hlay hext hF hZ
  obtain ⟨us, v22', v23', hul, hLq, hlaid, hrk, hh, E', hE', hsp⟩ := id hlay
  subst hLq
  obtain ⟨Ak, ck, rfl, hlk'⟩ := hrk.slice
  rw [List.append_nil]
  refine JL_v (vo_assign rfl) nofun (by decide) ?_
  refine JL_nil ?_
  refine JX_then ?_
  refine JC_ret ?_
  refine ret1 rfl rfl ?_
  intro w1 hM
  exact X_end2 (R := fun u L' Z' w' => LayR rm n xs22 xs23 l u L' Z' w') hM (fun hX hXz => hlay.ext ((Ext.sub (fun b hb => ⟨(hF b hb).1, (hF b hb).2.2⟩)).trans hX) (fun b hb => hXz b (hF b hb).1 (hF b hb).2.2))
set_option maxRecDepth 8000 in
set_option maxHeartbeats 1000000 in
theorem nodeR_spec (rm n : Nat) (v22 v23 : Value) (xs22 xs23 : List Value) (nd : Nd) (hcnt : n + cntL (trsOf nd.kids) + 1 ≤ 10000000) (k : Value) (w : World) (hL : Holds [.blk rm (roomN v22 v23), .row v22 28 1 n xs22, .row v23 3 1 n xs23] w) (hr : RNds (ZL [.blk rm (roomN v22 v23), .row v22 28 1 n xs22, .row v23 3 1 n xs23] w) w nd.kids k) : XCalls Try.prog 10 #[.pointer (some ⟨rm, 0, none⟩), .agg (ndC nd k).toArray] w [.blk rm (roomN v22 v23), .row v22 28 1 n xs22, .row v23 3 1 n xs23] (fun u L' Z' w' => ∃ k', u = .agg (ndC nd k').toArray ∧ LayR rm n xs22 xs23 nd.kids k' L' Z' w') := by
  obtain ⟨A, c, rfl, hlen2⟩ := hr.slice
  obtain ⟨L, hLe⟩ : ∃ L : List Res, L = [.blk rm (roomN v22 v23), .row v22 28 1 n xs22, .row v23 3 1 n xs23] := ⟨_, rfl⟩
  have hM0 : Mem w (EL L) (ZL L w) (ZL L w) w [.blk rm (roomN v22 v23), .row v22 28 1 n xs22, .row v23 3 1 n xs23] w := by
    have := Mem.startL (hLe ▸ hL)
    rw [hLe] at this ⊢
    exact this
  rw [← hLe] at hr ⊢
  refine enter (N := 11) Try.func10 rfl Try.ntmps10 (Nat.le_of_ble_eq_true rfl) [(0, .pointer (some ⟨rm, 0, none⟩)), (1, .agg (ndC nd (.slice A nd.kids.length c)).toArray)] (by repeat (first | exact trivial | refine ⟨rfl, ?_⟩)) (hM0) ?_
  refine JC_seq ?_
  refine JC_region ?_
  refine st_box rfl (by decide) (fun b3 => ?_)
  refine st_alloc zr30 (by decide) (fun b4 => ?_)
  refine JL_nil ?_
  refine JX_then ?_
  refine JC_seq ?_
  refine JC_region ?_
  refine JL_v (vo_move rfl) nofun (by decide) ?_
  refine JL_v (vo_fieldAddr rfl fo30_3) nofun (by decide) ?_
  refine JL_v (vo_load rfl (by first | exact .frz ‹_› | exact .own (by repeat (first | exact .head _ | refine .tail _ ?_))) (by first | exact .cell Try.underlying28 rfl rfl | exact pn_all ‹_› | exact pn_val (node_self _ _ _ _) | exact pn_marks (node_self _ _ _ _) | exact pn_name ‹_›)) nofun (by decide) ?_
  refine JL_perm (List.perm_append_comm (l₁ := [_, _]) (l₂ := [_, _, _])) ?_
  refine st_xcall [.blk rm (roomN v22 v23), .row v22 28 1 n xs22, .row v23 3 1 n xs23] _ rfl rfl en59 (by decide) (fun w1 hw => nodesR_spec rm n _ _ _ _ nd.kids hcnt _ w1 hw.holds (hr.ext hw.ext_ZL)) ?_
  rintro u L' F Z' wz' hlay hext hF hZ
  obtain ⟨us, v22', v23', hul, hLq, hlaid, hrk, hh, E', hE', hsp⟩ := id hlay
  subst hLq
  obtain ⟨Ak, ck, rfl, hlk'⟩ := hrk.slice
  refine JL_v (vo_fieldAddr rfl fo30_3) nofun (by decide) ?_
  refine st_store rfl rfl sz28 (by exact one_of_all rfl) (cs' := (ndC nd (.slice Ak nd.kids.length ck)).toArray) (cs := (ndC nd (.slice A nd.kids.length c)).toArray) (te := 30) (by repeat (first | exact .head _ _ _ | apply Turn.tail)) (by exact Nat.le_of_ble_eq_true rfl) (by rfl) ?_
  refine JL_nil ?_
  refine JX_then ?_
  refine JC_seq ?_
  refine JC_region ?_
  refine JL_v (vo_load rfl (by first | exact .frz ‹_› | exact .own (by repeat (first | exact .head _ | refine .tail _ ?_))) (by first | exact PartAt.whole Try.underlying30 rfl sz30 | exact pn_all ‹_› | exact pn_val (node_self _ _ _ _) | exact pn_marks (node_self _ _ _ _) | exact pn_name ‹_›)) nofun (by decide) ?_
  refine st_storeW rfl rfl sz30 rfl (by repeat (first | exact .head _ _ _ | apply Turn.tail)) (by rfl) ?_
  refine JL_nil ?_
  refine JX_then ?_
  refine JC_ret ?_
  refine retL1 rfl (.cell rfl (by first | exact .frz ‹_› | exact .own (by repeat (first | exact .head _ | refine .tail _ ?_))) (by first | exact PartAt.whole Try.underlying30 rfl sz30 | exact pn_all ‹_› | exact pn_val (node_self _ _ _ _) | exact pn_marks (node_self _ _ _ _) | exact pn_name ‹_›) (.nil)) ?_
  intro w1 hM
  exact X_end2 (R := fun u L' Z' w' => ∃ k', u = .agg (ndC nd k').toArray ∧ LayR rm n xs22 xs23 nd.kids k' L' Z' w') (hM.sub (L' := _) (List.sublist_append_left [_, _, _] _)) (fun hX hXz => ⟨_, rfl, hlay.ext ((Ext.sub (fun b hb => ⟨(hF b hb).1, (hF b hb).2.2⟩)).trans hX) (fun b hb => hXz b (hF b hb).1 (hF b hb).2.2)⟩)

end Go.Eng
