/-
  Part of the proofs over this seat: K2 L4 K3 L5 L6. Own work; imports the kit.
-/
import Derived.Test.YtdcafpemkpcmpaaRoom1
import Derived.Test.YtdcafpemkpcmpaaEng2
import Derived.Test.YtdcafpemkpcmpaaRoom2
set_option linter.unusedVariables false
set_option linter.unusedSimpArgs false
namespace Go.Eng
open Go Go.RowKit Go.Proofs
/-! ### a list written over -/
def spoilV : Val := ⟨77, 0, 0, fun _ => 0⟩
def spoilNd : Nd := .mk ⟨#[33]⟩ spoilV zeroMk []
def spoilC : List Value := nodeC ⟨#[33]⟩ spoilV zeroMk nilS
theorem spoilC_length : spoilC.length = 41 := rfl
theorem bl24s : Try.prog.built 24 [(0, .int .i64 77)] = some (valC spoilV).toArray := by kernel_rfl
theorem bl30s : Try.prog.built 30 [(0, .string ⟨#[33]⟩), (1, .agg (valC spoilV).toArray)] = some (nodeC ⟨#[33]⟩ spoilV zeroMk nilS).toArray := by kernel_rfl
def Sq (w w' : World) : Prop := ∀ (h : Nat) (E : Nat → Prop) (v : Value), Sp w h E v → Sp w' h E v
theorem Sq.refl (w : World) : Sq w w := fun _ _ _ h => h
theorem Sq.trans {w w1 w2 : World} (h : Sq w w1) (k : Sq w1 w2) : Sq w w2 := fun n E v hs => k n E v (h n E v hs)
theorem Sq.write {w w' : World} {g i : Nat} {cs : Array Value} (hg : w.heap[g]? = some (.cells cs 30 (0, 0))) (hg' : w'.heap[g]? = some (.cells (setSeg cs (i * 41) spoilC) 30 (0, 0))) (ho : ∀ k, k ≠ g → w'.heap[k]? = w.heap[k]?) : Sq w w' := by
  intro h
  induction h with
  | zero => exact fun E v hs => hs
  | succ h ih =>
    rintro E v ⟨A, n, c, e, h1⟩
    refine ⟨A, n, c, e, h1.imp id ?_⟩
    rintro ⟨g1, cs1, h2, hn, h3, h4, h5, h6⟩
    by_cases hgg : g1 = g
    · subst hgg
      rw [hg] at h4
      cases h4
      refine ⟨g1, _, h2, hn, h3, hg', by rw [size_setSeg]; exact h5, fun j hj => ?_⟩
      obtain ⟨k, E', h7, h8, h9⟩ := h6 j hj
      by_cases hji : j = i
      · subst hji
        refine ⟨nilS, fun _ => False, ?_, nofun, Sp.le (Nat.zero_le h) ⟨none, 0, rfl⟩⟩
        rw [setSeg_get, spoilC_length, if_pos (by omega), show j * 41 + 40 - j * 41 = 40 by omega]
        rfl
      · refine ⟨k, E', ?_, h8, ih E' k h9⟩
        rw [setSeg_get, spoilC_length, if_neg (by omega)]
        exact h7
    · refine ⟨g1, cs1, h2, hn, h3, by rw [ho g1 hgg]; exact h4, h5, fun j hj => ?_⟩
      obtain ⟨k, E', h7, h8, h9⟩ := h6 j hj
      exact ⟨k, E', h7, h8, ih E' k h9⟩
theorem Keeps.refl {E : Nat → Prop} (w : World) : Keeps E w w := ⟨rfl, rfl, rfl, Nat.le_refl _, fun _ _ _ => rfl⟩
theorem Keeps.trans {E : Nat → Prop} {w w1 w2 : World} (h : Keeps E w w1) (k : Keeps E w1 w2) : Keeps E w w2 :=
  ⟨k.os.trans h.os, k.tape.trans h.tape, k.output.trans h.output, Nat.le_trans h.size k.size, fun b hb hE => (k.block b (by have := h.size; omega) hE).trans (h.block b hb hE)⟩
theorem Keeps.more {E E' : Nat → Prop} {w w' : World} (h : Keeps E w w') (hE : ∀ b, E b → E' b) : Keeps E' w w' := ⟨h.os, h.tape, h.output, h.size, fun b hb hn => h.block b hb fun he => hn (hE b he)⟩
/-- what a call that writes a list over leaves -/
def SpR (E : Nat → Prop) (v : Value) (w : World) (e : Ending) (w' : World) : Prop :=
  e = .returned (.tuple #[]) ∧ Keeps E w w' ∧ Sq w w' ∧ ∀ g n c, v = .slice (some ⟨g, 0, none⟩) n c → 0 < n → E g ∧ ∃ cs, w'.heap[g]? = some (.cells cs 30 (0, 0)) ∧ ∀ i, i < n → SegAt cs (i * 41) spoilC
structure SpAt (E : Nat → Prop) (A : Option Addr) (n : Nat) (sz : Nat) (w : World) where
  i : Nat
  W : World
  hi : i ≤ n
  keeps : Keeps E w W
  sq : Sq w W
  at_ : ∀ g, A = some ⟨g, 0, none⟩ → 0 < n → ∃ cs, W.heap[g]? = some (.cells cs 30 (0, 0)) ∧ cs.size = sz ∧ ∀ j, j < i → SegAt cs (j * 41) spoilC
theorem SpAt.next {E : Nat → Prop} {n sz g : Nat} {w W1 W2 : World} (x : SpAt E (some ⟨g, 0, none⟩) n sz w) {cs : Array Value} (hcs : x.W.heap[g]? = some (.cells cs 30 (0, 0))) (hcz : cs.size = sz) (hsg : ∀ j, j < x.i → SegAt cs (j * 41) spoilC) (hn : n * 41 ≤ sz) (hil : x.i < n) (hEg : E g) {E' : Nat → Prop} (hE' : ∀ b, E' b → E b ∧ b ≠ g)
    (hk : Keeps E' x.W W1) (hs : Sq x.W W1) (h2 : W2 = W1.setCells g (x.i * 41) spoilC) : ∃ y : SpAt E (some ⟨g, 0, none⟩) n sz w, y.i = x.i + 1 ∧ y.W = W2 := by
  have hlt := (Array.getElem?_eq_some_iff.1 hcs).1
  have hg1 : W1.heap[g]? = some (.cells cs 30 (0, 0)) := by rw [hk.block g hlt fun he => (hE' g he).2 rfl]; exact hcs
  have hc := heap_setCells spoilC (x.i * 41) W1 cs hg1
  have hkw : Keeps E W1 (W1.setCells g (x.i * 41) spoilC) := ⟨hc.2.2.2.1, hc.2.2.2.2.1, hc.2.2.2.2.2, Nat.le_of_eq hc.2.2.1.symm, fun b hb hne => hc.2.1 b fun e => hne (e ▸ hEg)⟩
  refine ⟨⟨x.i + 1, W2, hil, ?_, ?_, ?_⟩, rfl, rfl⟩
  · rw [h2]; exact (x.keeps.trans (hk.more fun b hb => (hE' b hb).1)).trans hkw
  · rw [h2]; exact (x.sq.trans hs).trans (Sq.write hg1 hc.1 hc.2.1)
  · intro g' hg' _
    cases hg'
    refine ⟨_, by rw [h2]; exact hc.1, by rw [size_setSeg]; exact hcz, fun j hj => ?_⟩
    intro q u hu
    have hq := (List.getElem?_eq_some_iff.1 hu).1
    rw [spoilC_length] at hq
    rw [setSeg_get, spoilC_length]
    by_cases hji : j = x.i
    · subst hji
      rw [if_pos (by omega), show x.i * 41 + q - x.i * 41 = q by omega]; exact hu
    · rw [if_neg (by omega)]; exact hsg j (by omega) q u hu
end Go.Eng

set_option linter.unusedVariables false
set_option linter.unusedSimpArgs false
namespace Go.Eng
open Go Go.RowKit Go.Proofs
theorem en17 : Enters Try.prog 17 := ⟨_, Try.func17, by kernel_rfl, by kernel_rfl⟩

set_option maxRecDepth 8000 in
set_option maxHeartbeats 1000000 in
theorem spoil_of (h : Nat) (E : Nat → Prop) (A : Option Addr) (n c : Nat) (w : World) (hA : n = 0 ∨ ((∀ (E : Nat → Prop) (v : Value) (w : World), Sp w h E v → Calls Try.prog 17 #[v] w (SpR E v w)) ∧ ∃ g cs, A = some ⟨g, 0, none⟩ ∧ n ≤ 1000000000 ∧ E g ∧ w.heap[g]? = some (.cells cs 30 (0, 0)) ∧ n * 41 ≤ cs.size ∧
      ∀ i, i < n → ∃ k E', cs[i * 41 + 40]? = some k ∧ (∀ b, E' b → E b ∧ b ≠ g) ∧ Sp w h E' k)) : Calls Try.prog 17 #[.slice A n c] w (SpR E (.slice A n c) w) := by
  obtain ⟨sz, hstart, hszn, hn9⟩ : ∃ sz, (∀ g, A = some ⟨g, 0, none⟩ → 0 < n → ∃ cs, w.heap[g]? = some (.cells cs 30 (0, 0)) ∧ cs.size = sz ∧ ∀ j, j < 0 → SegAt cs (j * 41) spoilC) ∧ n * 41 ≤ sz ∧ n ≤ 1000000000 := by
    rcases hA with rfl | ⟨_, g, cs, rfl, hn, _, h4, h5, _⟩
    · exact ⟨0, fun _ _ h => absurd h (by omega), by omega, by omega⟩
    · exact ⟨cs.size, fun g' hg' _ => by cases hg'; exact ⟨cs, h4, rfl, fun j hj => absurd hj (by omega)⟩, h5, hn⟩
  have hfin : ∀ x : SpAt E A n sz w, x.i = n → ∀ g n' c', Value.slice A n c = .slice (some ⟨g, 0, none⟩) n' c' → 0 < n' → E g ∧ ∃ cs, x.W.heap[g]? = some (.cells cs 30 (0, 0)) ∧ ∀ i, i < n' → SegAt cs (i * 41) spoilC := by
    intro x hx g n' c' hv hn'
    cases hv
    obtain ⟨_, g', _, hg', _, hEg, _⟩ := hA.resolve_left (by omega)
    cases hg'
    obtain ⟨cs, h1, _, h2⟩ := x.at_ g rfl hn'
    exact ⟨hEg, cs, h1, by rw [← hx]; exact h2⟩
  refine enter (M := fun w1 => w1 = w) (N := 20) Try.func17 rfl Try.ntmps17 (Nat.le_of_ble_eq_true rfl) [(0, .slice A n c)] (by repeat (first | exact trivial | refine ⟨rfl, ?_⟩)) (rfl) ?_
  refine JC_seq ?_
  refine JC_region ?_
  refine JL_v (vo_assign rfl) nofun (by decide) ?_
  refine JL_nil ?_
  refine JX_then ?_
  refine JC_block ?_
  refine JC_loop (α := SpAt E A n sz w) (fun x => [(0, .slice A n c), (2, .int .i64 x.i)]) (fun x w1 => w1 = x.W) (fun x => n - x.i) ⟨0, w, by omega, Keeps.refl w, Sq.refl w, hstart⟩ (by repeat (first | exact trivial | refine ⟨rfl, ?_⟩ | refine ⟨trivial, ?_⟩)) (fun w1 hw => hw) ?_
  rintro x
  have hxle := x.hi
  refine JC_seq ?_
  refine JC_seq ?_
  refine JC_region ?_
  refine JL_v (vo_move rfl) nofun (by decide) ?_
  refine JL_v (vo_move rfl) nofun (by decide) ?_
  refine JL_v (vo_len rfl Try.underlying28) nofun (by decide) ?_
  refine JL_v (vo_cmp rfl rfl rfl) nofun (by decide) ?_
  refine JL_nil ?_
  refine JX_then ?_
  refine JC_cond _ rfl (fun hc6 => ?_) (fun hc6 => ?_)
  · have hil : x.i < n := by simp at hc6; omega
    obtain ⟨ih, g, cs0, rfl, hn9, hEg, h4, h5, h6⟩ := hA.resolve_left (by omega)
    obtain ⟨cs, hcs, hcz, hsg⟩ := x.at_ g rfl (by omega)
    have hsp1 : Sp x.W (h + 1) E (.slice (some ⟨g, 0, none⟩) n c) := x.sq _ _ _ ⟨_, n, c, rfl, .inr ⟨g, cs0, rfl, hn9, hEg, h4, h5, h6⟩⟩
    obtain ⟨A', n', c', hv', hor⟩ := hsp1
    cases hv'
    obtain ⟨g', cs', hg', _, _, h4', h5', h6'⟩ := hor.resolve_left (by omega)
    cases hg'
    rw [hcs] at h4'
    cases h4'
    obtain ⟨kv, E', hkv, hE', hskv⟩ := h6' x.i hil
    refine JC_skip ?_
    refine JX_then ?_
    refine JC_seq ?_
    refine JC_block ?_
    refine JC_seq ?_
    refine JC_region ?_
    refine JL_v (vo_move rfl) nofun (by decide) ?_
    refine JL_v (vo_move rfl) nofun (by decide) ?_
    refine JL_v (vo_indexAddr rfl rfl Try.underlying28 sz30 (by omega) (by omega)) nofun (by decide) ?_
    refine JL_v (vo_fieldAddr rfl fo30_3) nofun (by decide) ?_
    refine JL_v (vo_loadH rfl (fun w1 hw => by rw [hw]; exact hcs) (.cell Try.underlying28 rfl (by rw [Nat.zero_add]; exact hkv))) nofun (by decide) ?_
    refine st_call (β := { W1 : World // Keeps E' x.W W1 ∧ Sq x.W W1 }) (fun _ => .tuple #[]) (fun y w1 => w1 = y.1) rfl en17 (by decide) (fun w1 hw => by subst hw; exact Calls.mono (ih E' kv _ hskv) fun e w' hR => ⟨⟨w', hR.2.1, hR.2.2.1⟩, hR.1, rfl⟩) ?_
    rintro ⟨W1, hk1, hs1⟩
    dsimp only
    refine JL_nil ?_
    refine JX_then ?_
    refine JC_region ?_
    refine JL_v (vo_move rfl) nofun (by decide) ?_
    refine JL_v (vo_move rfl) nofun (by decide) ?_
    refine JL_v (vo_build rfl (by first | exact bl24s)) nofun (by decide) ?_
    refine JL_v (vo_build rfl (by first | exact bl30s)) nofun (by decide) ?_
    refine JL_v (vo_indexAddr rfl rfl Try.underlying28 sz30 (by omega) (by omega)) nofun (by decide) ?_
    refine JL_do (fun w1 => w1 = W1.setCells g (x.i * 41) spoilC) rfl nofun rfl (fun a w1 ha hw => ?_) ?_
    · subst hw
      refine ⟨_, ?_, rfl⟩
      have hlt := (Array.getElem?_eq_some_iff.1 hcs).1
      have hg1 : w1.heap[g]? = some (.cells cs 30 (0, 0)) := by rw [hk1.block g hlt fun he => (hE' g he).2 rfl]; exact hcs
      unfold execOp
      have hcl : (Value.cells (.agg (nodeC ⟨#[33]⟩ spoilV zeroMk nilS).toArray)).size = 41 := rfl
      have hst := run_storeAt_part (P := Try.prog) (o := x.i * 41) (v := .agg (nodeC ⟨#[33]⟩ spoilV zeroMk nilS).toArray) hg1 sz30 (by exact one_of_all rfl) (by rw [hcl]; omega)
      simp [ha.eval (x := .tmp 19) rfl, ha.eval (x := .tmp 18) rfl, hst]
      rfl
    refine JL_nil ?_
    refine JX_block ?_
    refine JX_then ?_
    refine JC_region ?_
    refine JL_v (vo_move rfl) nofun (by decide) ?_
    refine JL_v (vo_add rfl rfl (by omega) (by omega)) nofun (by decide) ?_
    refine JL_v (vo_assign rfl) nofun (by decide) ?_
    refine JL_nil ?_
    obtain ⟨y, y1, y2⟩ := x.next hcs hcz hsg (by omega) hil hEg hE' hk1 hs1 rfl
    exact JX_loop y (by rw [y1]; omega) (by rw [y1]; exact (by repeat (first | exact trivial | refine ⟨rfl, ?_⟩ | refine ⟨trivial, ?_⟩))) (fun w1 hw => by rw [y2]; exact hw)
  · refine JC_exit ?_
    refine JX_then_exit ?_
    refine JX_thenK_exit ?_
    refine JX_block_exit ?_
    refine end0 rfl (fun w1 hM => ?_)
    subst hM
    exact ⟨rfl, x.keeps, x.sq, hfin x (by simp at hc6; omega)⟩
theorem spoil_spec : ∀ (h : Nat) (E : Nat → Prop) (v : Value) (w : World), Sp w h E v → Calls Try.prog 17 #[v] w (SpR E v w) := by
  intro h
  induction h with
  | zero =>
    rintro E v w ⟨A, c, rfl⟩
    exact spoil_of 0 E A 0 c w (.inl rfl)
  | succ h ih =>
    rintro E v w ⟨A, n, c, rfl, h1⟩
    exact spoil_of h E A n c w (h1.imp id fun h2 => ⟨ih, h2⟩)


end Go.Eng

set_option linter.unusedVariables false
set_option linter.unusedSimpArgs false
namespace Go.Eng
open Go Go.RowKit Go.Proofs
theorem RNds_items {Z : Nat → Prop} {w : World} {ls : List (Nd × Value)} {l : List Nd} {v : Value} (h : RItems Z w 41 nkC ls v) (hl : ls.map (·.1) = l) (hk : ∀ p ∈ ls, RNds Z w p.1.kids p.2) : RNds Z w l v := by
  obtain ⟨A, c, rfl, h1, h2, h3⟩ := h
  have hlen : l.length = ls.length := by rw [← hl]; simp
  rcases h3 with rfl | ⟨b, o, cs, te, fr, rfl, hf, hs⟩
  · cases hl; exact .nil A c
  · rw [← hlen] at h1 ⊢
    have h4 : ∀ i, ∃ k, ∀ nd, l[i]? = some nd → RNds Z w nd.kids k ∧ SegAt cs (o + i * 41) (ndC nd k) := fun i => by
      cases hi : ls[i]? with
      | none => exact ⟨nilS, fun nd hnd => by rw [← hl, List.getElem?_map, hi] at hnd; cases hnd⟩
      | some p =>
        refine ⟨p.2, fun nd hnd => ?_⟩
        rw [← hl, List.getElem?_map, hi] at hnd
        cases hnd
        exact ⟨hk p (List.mem_of_getElem? hi), hs i p hi⟩
    obtain ⟨kv, hkv⟩ := Classical.skolem.1 h4
    exact .mk kv h1 h2 hf (fun i nd hi => (hkv i nd hi).2) (fun i nd hi => (hkv i nd hi).1)
/-- the run of a function that lays a list of nodes anew -/
structure CopyAt (l : List Nd) (Z0 : Nat → Prop) (w0 : World) where
  i : Nat
  Z : Nat → Prop
  wz : World
  ls : List (Nd × Value)
  vf : Value
  hi : i ≤ l.length
  ext : Ext Z0 w0 Z wz
  hlen : ls.length = i
  hls : ls.map (·.1) = l.take i
  hk : ∀ p ∈ ls, RNds (NZ w0.heap.size Z) wz p.1.kids p.2
theorem CopyAt.push {l : List Nd} {Z0 : Nat → Prop} {w0 : World} (x : CopyAt l Z0 w0) {Z' : Nat → Prop} {wz' : World} {nk : Nd} {k : Value} (he : Ext x.Z x.wz Z' wz') (hn : l[x.i]? = some nk) (hr : RNds (NZ w0.heap.size Z') wz' nk.kids k) (vf : Value) :
    ∃ y : CopyAt l Z0 w0, y.i = x.i + 1 ∧ y.Z = Z' ∧ y.wz = wz' ∧ y.ls = x.ls ++ [(nk, k)] ∧ y.vf = vf := by
  refine ⟨⟨x.i + 1, Z', wz', x.ls ++ [(nk, k)], vf, (List.getElem?_eq_some_iff.1 hn).1, x.ext.trans he, by simp [x.hlen], ?_, ?_⟩, rfl, rfl, rfl, rfl, rfl⟩
  · rw [take_snoc_get hn, List.map_append, x.hls]; rfl
  · intro p hp
    rcases List.mem_append.1 hp with hp | hp
    · exact (x.hk p hp).ext (he.nz _)
    · rcases List.mem_singleton.1 hp with rfl
      exact hr
/-- a node handed back, its lists laid by the call itself -/
def copyR (nd : Nd) (Z : Nat → Prop) (w : World) (u : Value) : Prop := ∃ k, u = .agg (ndC nd k).toArray ∧ RNds Z w nd.kids k
theorem grows_copy (nd : Nd) : Grows (copyR nd) := fun Z Z' w v h ⟨k, e, hr⟩ => ⟨k, e, hr.ext (Ext.sub h)⟩
def plainN (nd : Nd) : Nd := .mk ⟨#[]⟩ nd.val nd.marks nd.kids
mutual
def eqNd : Nd → Nd → Bool
  | .mk _ v m ks, b => valEq v b.val && mk2Eq m b.marks && eqNds ks b.kids
def eqNds : List Nd → List Nd → Bool
  | [], [] => true
  | k :: ks, k' :: ks' => beq k.name k'.name && eqNd k k' && eqNds ks ks'
  | _, _ => false
end
theorem eqNds_len : ∀ (a b : List Nd), eqNds a b = true → a.length = b.length
  | [], [], _ => rfl
  | k :: ks, k' :: ks', h => by
    simp only [eqNds, Bool.and_eq_true] at h
    simp [eqNds_len ks ks' h.2]
  | [], _ :: _, h => by simp [eqNds] at h
  | _ :: _, [], h => by simp [eqNds] at h
theorem eqNd_eq (a b : Nd) : eqNd a b = (valEq a.val b.val && mk2Eq a.marks b.marks && eqNds a.kids b.kids) := by
  cases a; simp [eqNd, Nd.val, Nd.marks, Nd.kids]
theorem eqNd_kids {a b : Nd} (hv : a.val = b.val) (hm : a.marks = b.marks) (hk : eqNds a.kids b.kids = true) : eqNd a b = true := by
  rw [eqNd_eq, hv, hm, hk, valEq_iff.2 rfl, mk2Eq_iff.2 rfl]; rfl
mutual
theorem eqNd_self : ∀ a : Nd, eqNd a a = true
  | .mk n v m ks => eqNd_kids rfl rfl (eqNds_self ks)
theorem eqNds_self : ∀ a : List Nd, eqNds a a = true
  | [] => by simp [eqNds]
  | k :: ks => by simp [eqNds, beq, eqNd_self k, eqNds_self ks]
end
end Go.Eng

set_option linter.unusedVariables false
set_option linter.unusedSimpArgs false
namespace Go.Eng
open Go Go.RowKit Go.Proofs
theorem en18 : Enters Try.prog 18 := ⟨_, Try.func18, by kernel_rfl, by kernel_rfl⟩

set_option maxRecDepth 8000 in
set_option maxHeartbeats 1000000 in
theorem copy_of (nm : ByteArray) (v : Val) (m : Mk2) (ks : List Nd) (hlen : ks.length ≤ 1048576) (hks : ∀ nd ∈ ks, ∀ (k : Value) (w : World), RNds (fun b => b < w.heap.size) w nd.kids k → FCalls Try.prog 18 #[.agg (ndC nd k).toArray] w (copyR nd)) : ∀ (k : Value) (w : World), RNds (fun b => b < w.heap.size) w ks k → FCalls Try.prog 18 #[.agg (ndC (.mk nm v m ks) k).toArray] w (copyR (.mk nm v m ks)) := by
  intro kv w hr
  obtain ⟨A, c, rfl, hlen2⟩ := hr.slice
  refine enter (N := 24) Try.func18 rfl Try.ntmps18 (Nat.le_of_ble_eq_true rfl) [(0, .agg (ndC (.mk nm v m ks) (.slice A ks.length c)).toArray)] (by repeat (first | exact trivial | refine ⟨rfl, ?_⟩)) (Mem.start w (fun _ => False) (fun b => b < w.heap.size) (fun _ h => h)) ?_
  refine JC_seq ?_
  refine JC_region ?_
  refine st_box rfl (by decide) (fun b1 => ?_)
  refine st_alloc zr30 (by decide) (fun b2 => ?_)
  refine JL_nil ?_
  refine JX_then ?_
  refine JC_seq ?_
  refine JC_region ?_
  refine JL_v (vo_assign rfl) nofun (by decide) ?_
  refine JL_nil ?_
  refine JX_then ?_
  refine JC_seq ?_
  refine JC_seq ?_
  refine JC_region ?_
  refine JL_nilrow 30 41 ?_
  refine JL_v (vo_assign rfl) nofun (by decide) ?_
  refine JL_nil ?_
  refine JX_then ?_
  refine JC_block ?_
  refine JC_loop (α := CopyAt ks (fun b => b < w.heap.size) w) (fun x => [(1, .pointer (some ⟨b1, 0, none⟩)), (2, .pointer (some ⟨b2, 0, none⟩)), (3, x.vf), (4, .int .i64 x.i)]) (fun x => Mem w (fun _ => False) (fun b => b < w.heap.size) x.Z x.wz [.row x.vf 30 41 x.i (x.ls.flatMap nkC), .blk b2 (.cells (nodeC ⟨#[]⟩ zeroVal zeroMk nilS).toArray 30 (0, 0)), .blk b1 (.cells (ndC (.mk nm v m ks) (.slice A ks.length c)).toArray 30 (0, 0))]) (fun x => ks.length - x.i) ⟨0, fun b => b < w.heap.size, w, [], _, by omega, .refl _ _, rfl, rfl, nofun⟩ (by repeat (first | exact trivial | refine ⟨rfl, ?_⟩ | refine ⟨trivial, ?_⟩)) (fun w hw => by simpa [Value.cells, nilS] using hw) ?_
  rintro x
  have hxle := x.hi
  refine JC_seq ?_
  refine JC_seq ?_
  refine JC_region ?_
  refine JL_v (vo_move rfl) nofun (by decide) ?_
  refine JL_v (vo_fieldAddr rfl fo30_3) nofun (by decide) ?_
  refine JL_v (vo_load rfl (by first | exact .frz ‹_› | exact .own (by repeat (first | exact .head _ | refine .tail _ ?_))) (by first | exact .cell Try.underlying28 rfl rfl | exact pn_all ‹_› | exact pn_val (node_self _ _ _ _) | exact pn_marks (node_self _ _ _ _) | exact pn_name ‹_›)) nofun (by decide) ?_
  refine JL_v (vo_len rfl Try.underlying28) nofun (by decide) ?_
  refine JL_v (vo_cmp rfl rfl rfl) nofun (by decide) ?_
  refine JL_nil ?_
  refine JX_then ?_
  refine JC_cond _ rfl (fun hc9 => ?_) (fun hc9 => ?_)
  · have hil : x.i < ks.length := by simp at hc9; omega
    obtain ⟨nk, hnk⟩ : ∃ nk, ks[x.i]? = some nk := ⟨_, List.getElem?_eq_getElem hil⟩
    obtain ⟨b', o', c', cs', te, fr, kk, hv, hfb0, hseg, hkk⟩ := hr.at_ hnk
    cases hv
    obtain ⟨Ak, ck, rfl, hlk⟩ := hkk.slice
    have hfb := x.ext.fb _ _ hfb0
    clear hfb0
    have hmem := List.mem_of_getElem? hnk
    refine JC_skip ?_
    refine JX_then ?_
    refine JC_seq ?_
    refine JC_block ?_
    refine JC_region ?_
    refine JL_v (vo_move rfl) nofun (by decide) ?_
    refine JL_v (vo_fieldAddr rfl fo30_3) nofun (by decide) ?_
    refine JL_v (vo_load rfl (by first | exact .frz ‹_› | exact .own (by repeat (first | exact .head _ | refine .tail _ ?_))) (by first | exact .cell Try.underlying28 rfl rfl | exact pn_all ‹_› | exact pn_val (node_self _ _ _ _) | exact pn_marks (node_self _ _ _ _) | exact pn_name ‹_›)) nofun (by decide) ?_
    refine JL_v (vo_move rfl) nofun (by decide) ?_
    refine JL_v (vo_indexAddr rfl rfl Try.underlying28 sz30 (by omega) (by omega)) nofun (by decide) ?_
    refine JL_v (vo_load rfl (by first | exact .frz ‹_› | exact .own (by repeat (first | exact .head _ | refine .tail _ ?_))) (by first | exact PartAt.whole Try.underlying30 rfl sz30 | exact pn_all ‹_› | exact pn_val (node_self _ _ _ _) | exact pn_marks (node_self _ _ _ _) | exact pn_name ‹_›)) nofun (by decide) ?_
    refine st_fcall rfl en18 (by decide) (grows_copy _) (fun w hw => hks nk hmem _ w ((hkk.ext x.ext).ext hw.ext_all)) (fun v9 Z' wz' he hR => ?_)
    obtain ⟨kk', rfl, hrk⟩ := hR
    obtain ⟨Ak', ck', rfl, hlk'⟩ := hrk.slice
    refine st_bslice1 rfl Try.underlying28 (by first | exact zr30) sz30 (by exact Nat.le_of_ble_eq_true rfl) (by exact Nat.ne_of_gt (Nat.le_of_ble_eq_true rfl)) (by decide) (fun b19 => ?_)
    refine st_appendB rfl rfl Try.underlying28 ap30 (by rfl) (by decide) (by first | exact .frz ‹_› | exact .own (by repeat (first | exact .head _ | refine .tail _ ?_))) (by repeat (first | exact .head _ | apply TurnF.tail)) (by rfl) (by first | exact one_of_all rfl | assumption) (by omega) (by decide) (by decide) (fun v20 => ?_)
    refine JL_v (vo_assign rfl) nofun (by decide) ?_
    refine JL_nil ?_
    refine JX_block ?_
    refine JX_then ?_
    refine JC_region ?_
    refine JL_v (vo_move rfl) nofun (by decide) ?_
    refine JL_v (vo_add rfl rfl (by omega) (by omega)) nofun (by decide) ?_
    refine JL_v (vo_assign rfl) nofun (by decide) ?_
    refine JL_nil ?_
    obtain ⟨y, y1, y2, y3, y4, y5⟩ := x.push he hnk hrk v20
    refine JX_loop y (by rw [y1]; omega) (by rw [y1, y5]; exact (by repeat (first | exact trivial | refine ⟨rfl, ?_⟩ | refine ⟨trivial, ?_⟩))) (fun w hw => ?_)
    rw [y1, y2, y3, y4, y5, List.flatMap_append]
    have h9 := hw.sub (L' := _) (.cons _ (List.Sublist.refl _))
    simpa [nkC, Value.cells] using h9
  · refine JC_exit ?_
    refine JX_then_exit ?_
    refine JX_thenK_exit ?_
    refine JX_block_exit ?_
    refine JX_then ?_
    refine JC_seq ?_
    refine JC_region ?_
    have hxi : x.i = ks.length := by simp at hc9; omega
    have hls : x.ls.map (·.1) = ks := by rw [x.hls, hxi, List.take_length]
    rw [← x.hlen]
    refine JL_freezeItemsN nkC_length (.head _ _) (fun Z1 wz1 e1 hit => ?_)
    have hrn := RNds_items hit hls (fun p hp => (x.hk p hp).ext (e1.nz _))
    generalize x.vf = vf at hit hrn ⊢
    obtain ⟨Af, cf, rfl, hlf⟩ := hrn.slice
    refine JL_v (vo_move rfl) nofun (by decide) ?_
    refine JL_v (vo_fieldAddr rfl fo30_3) nofun (by decide) ?_
    refine st_store rfl rfl sz28 (by exact one_of_all rfl) (cs' := (ndC (.mk nm v m ks) (.slice Af ks.length cf)).toArray) (cs := (ndC (.mk nm v m ks) (.slice A ks.length c)).toArray) (te := 30) (by repeat (first | exact .head _ _ _ | apply Turn.tail)) (by exact Nat.le_of_ble_eq_true rfl) (by rfl) ?_
    refine JL_nil ?_
    refine JX_then ?_
    refine JC_seq ?_
    refine JC_region ?_
    refine JL_v (vo_load rfl (by first | exact .frz ‹_› | exact .own (by repeat (first | exact .head _ | refine .tail _ ?_))) (by first | exact PartAt.whole Try.underlying30 rfl sz30 | exact pn_all ‹_› | exact pn_val (node_self _ _ _ _) | exact pn_marks (node_self _ _ _ _) | exact pn_name ‹_›)) nofun (by decide) ?_
    refine st_storeW rfl rfl sz30 rfl (by repeat (first | exact .head _ _ _ | apply Turn.tail)) (by rfl) ?_
    refine JL_nil ?_
    refine JX_then ?_
    refine JC_ret ?_
    refine retL1 rfl (.cell rfl (by first | exact .frz ‹_› | exact .own (by repeat (first | exact .head _ | refine .tail _ ?_))) (by first | exact PartAt.whole Try.underlying30 rfl sz30 | exact pn_all ‹_› | exact pn_val (node_self _ _ _ _) | exact pn_marks (node_self _ _ _ _) | exact pn_name ‹_›) (.nil)) ?_
    intro w1 hM
    exact ⟨_, rfl, hM.below, _, rfl, hrn.ext hM.extNew⟩
theorem copy_spec : ∀ nd, NdOK nd → (∀ (k : Value) (w : World), RNds (fun b => b < w.heap.size) w nd.kids k → FCalls Try.prog 18 #[.agg (ndC nd k).toArray] w (copyR nd)) := by
  refine Nd.ind fun nm v m ks ih hok => ?_
  cases hok with
  | mk hn hl hk => exact copy_of nm v m ks hl (fun nd hm => ih nd hm (hk nd hm))

set_option maxRecDepth 8000 in
set_option maxHeartbeats 1000000 in
theorem plain_spec (nd : Nd) (hok : NdOK nd) (k : Value) (w : World) (hr : RNds (fun b => b < w.heap.size) w nd.kids k) : FCalls Try.prog 64 #[.agg (ndC nd k).toArray] w (copyR (plainN nd)) := by
  obtain ⟨A, c, rfl, hlen2⟩ := hr.slice
  refine enter (N := 7) Try.func64 rfl Try.ntmps64 (Nat.le_of_ble_eq_true rfl) [(0, .agg (ndC nd (.slice A nd.kids.length c)).toArray)] (by repeat (first | exact trivial | refine ⟨rfl, ?_⟩)) (Mem.start w (fun _ => False) (fun b => b < w.heap.size) (fun _ h => h)) ?_
  refine JC_seq ?_
  refine JC_region ?_
  refine st_box rfl (by decide) (fun b1 => ?_)
  refine st_alloc zr30 (by decide) (fun b2 => ?_)
  refine JL_nil ?_
  refine JX_then ?_
  refine JC_seq ?_
  refine JC_region ?_
  refine JL_v (vo_load rfl (by first | exact .frz ‹_› | exact .own (by repeat (first | exact .head _ | refine .tail _ ?_))) (by first | exact PartAt.whole Try.underlying30 rfl sz30 | exact pn_all ‹_› | exact pn_val (node_self _ _ _ _) | exact pn_marks (node_self _ _ _ _) | exact pn_name ‹_›)) nofun (by decide) ?_
  refine st_fcall rfl en18 (by decide) (grows_copy _) (fun w hw => copy_spec nd hok _ w (hr.ext hw.ext_all)) (fun v9 Z' wz' he hR => ?_)
  obtain ⟨kk', rfl, hrk⟩ := hR
  obtain ⟨Ak', ck', rfl, hlk'⟩ := hrk.slice
  refine st_store rfl rfl sz30 (by exact one_of_all rfl) (cs' := (ndC nd (.slice Ak' nd.kids.length ck')).toArray) (cs := (ndC nd (.slice A nd.kids.length c)).toArray) (te := 30) (by repeat (first | exact .head _ _ _ | apply Turn.tail)) (by exact Nat.le_of_ble_eq_true rfl) (setSeg_whole rfl) ?_
  refine JL_nil ?_
  refine JX_then ?_
  refine JC_seq ?_
  refine JC_region ?_
  refine JL_v (vo_fieldAddr rfl fo30_0) nofun (by decide) ?_
  refine st_store rfl rfl sz9 (by exact one_of_all rfl) (cs' := (ndC (plainN nd) (.slice Ak' nd.kids.length ck')).toArray) (cs := (ndC nd (.slice Ak' nd.kids.length ck')).toArray) (te := 30) (by repeat (first | exact .head _ _ _ | apply Turn.tail)) (by exact Nat.le_of_ble_eq_true rfl) (by rfl) ?_
  refine JL_nil ?_
  refine JX_then ?_
  refine JC_seq ?_
  refine JC_region ?_
  refine JL_v (vo_load rfl (by first | exact .frz ‹_› | exact .own (by repeat (first | exact .head _ | refine .tail _ ?_))) (by first | exact PartAt.whole Try.underlying30 rfl sz30 | exact pn_all ‹_› | exact pn_val (node_self _ _ _ _) | exact pn_marks (node_self _ _ _ _) | exact pn_name ‹_›)) nofun (by decide) ?_
  refine st_storeW rfl rfl sz30 rfl (by repeat (first | exact .head _ _ _ | apply Turn.tail)) (by rfl) ?_
  refine JL_nil ?_
  refine JX_then ?_
  refine JC_ret ?_
  refine retL1 rfl (.cell rfl (by first | exact .frz ‹_› | exact .own (by repeat (first | exact .head _ | refine .tail _ ?_))) (by first | exact PartAt.whole Try.underlying30 rfl sz30 | exact pn_all ‹_› | exact pn_val (node_self _ _ _ _) | exact pn_marks (node_self _ _ _ _) | exact pn_name ‹_›) (.nil)) ?_
  intro w1 hM
  exact ⟨_, rfl, hM.below, _, rfl, hrk.ext hM.extNew⟩

end Go.Eng

set_option linter.unusedVariables false
set_option linter.unusedSimpArgs false
namespace Go.Eng
open Go Go.RowKit Go.Proofs
theorem en43 : Enters Try.prog 43 := ⟨_, Try.func43, by kernel_rfl, by kernel_rfl⟩

set_option maxRecDepth 8000 in
set_option maxHeartbeats 1000000 in
theorem eq_of (nm : ByteArray) (v : Val) (m : Mk2) (ks : List Nd) (hks : ∀ nd ∈ ks, ∀ (b : Nd) (k1 k2 : Value) (w : World), RNds (fun b => b < w.heap.size) w nd.kids k1 → RNds (fun b => b < w.heap.size) w b.kids k2 → SCalls Try.prog 43 #[.agg (ndC nd k1).toArray, .agg (ndC b k2).toArray] w (fun u => u = .bool (eqNd nd b))) : ∀ (b : Nd) (k1 k2 : Value) (w : World), RNds (fun b => b < w.heap.size) w ks k1 → RNds (fun b => b < w.heap.size) w b.kids k2 → SCalls Try.prog 43 #[.agg (ndC (.mk nm v m ks) k1).toArray, .agg (ndC b k2).toArray] w (fun u => u = .bool (eqNd (.mk nm v m ks) b)) := by
  intro b k1 k2 w hr1 hr2
  obtain ⟨A, c, rfl, hlen1⟩ := hr1.slice
  obtain ⟨A2, c2, rfl, hlen2⟩ := hr2.slice
  refine enter (N := 61) Try.func43 rfl Try.ntmps43 (Nat.le_of_ble_eq_true rfl) [(0, .agg (ndC (.mk nm v m ks) (.slice A ks.length c)).toArray), (1, .agg (ndC b (.slice A2 b.kids.length c2)).toArray)] (by repeat (first | exact trivial | refine ⟨rfl, ?_⟩)) (Mem.start w (fun _ => False) (fun b => b < w.heap.size) (fun _ h => h)) ?_
  refine JC_seq ?_
  refine JC_region ?_
  refine st_box rfl (by decide) (fun b2 => ?_)
  refine st_box rfl (by decide) (fun b3 => ?_)
  refine JL_v (vo_assign rfl) nofun (by decide) ?_
  refine JL_nil ?_
  refine JX_then ?_
  refine JC_seq ?_
  refine JC_seq ?_
  refine JC_region ?_
  refine JL_v (vo_fieldAddr rfl fo30_1) nofun (by decide) ?_
  refine JL_v (vo_load rfl (by first | exact .frz ‹_› | exact .own (by repeat (first | exact .head _ | refine .tail _ ?_))) (by first | exact PartAt.whole Try.underlying24 rfl sz24 | exact pn_all ‹_› | exact pn_val (node_self _ _ _ _) | exact pn_marks (node_self _ _ _ _) | exact pn_name ‹_›)) nofun (by decide) ?_
  refine JL_v (vo_fieldAddr rfl fo30_1) nofun (by decide) ?_
  refine JL_v (vo_load rfl (by first | exact .frz ‹_› | exact .own (by repeat (first | exact .head _ | refine .tail _ ?_))) (by first | exact PartAt.whole Try.underlying24 rfl sz24 | exact pn_all ‹_› | exact pn_val (node_self _ _ _ _) | exact pn_marks (node_self _ _ _ _) | exact pn_name ‹_›)) nofun (by decide) ?_
  refine JL_v (vo_eqS rfl rfl rfl eg24 (eqv24 _ _)) nofun (by decide) ?_
  refine JL_v (vo_move rfl) nofun (by decide) ?_
  refine JL_case 11 rfl (fun hg11 => ?_) (fun hg11 => ?_)
  · refine JL_no rfl rfl (by decide) ?_
    refine JL_no rfl rfl (by decide) ?_
    refine JL_no rfl rfl (by decide) ?_
    refine JL_no rfl rfl (by decide) ?_
    refine JL_no rfl rfl (by decide) ?_
    refine JL_v (vo_pick rfl rfl) nofun (by decide) ?_
    refine JL_v (vo_move rfl) nofun (by decide) ?_
    refine JL_no rfl rfl (by decide) ?_
    refine JL_no rfl rfl (by decide) ?_
    refine JL_no rfl rfl (by decide) ?_
    refine JL_no rfl rfl (by decide) ?_
    refine JL_no rfl rfl (by decide) ?_
    refine JL_no rfl rfl (by decide) ?_
    refine JL_no rfl rfl (by decide) ?_
    refine JL_v (vo_pick rfl rfl) nofun (by decide) ?_
    refine JL_nil ?_
    refine JX_then ?_
    refine JC_cond true rfl (fun _ => ?_) (fun h => Bool.noConfusion h)
    refine JC_seq ?_
    refine JC_region ?_
    refine JL_v (vo_assign rfl) nofun (by decide) ?_
    refine JL_nil ?_
    refine JX_then ?_
    refine JC_ret ?_
    refine JX_then_ret ?_
    refine ret1 rfl rfl ?_
    intro w1 hM; exact SC_end hM (by rw [eqNd_eq]; simp_all)
  · refine JL_yes rfl rfl ?_
    refine JL_v (vo_fieldAddr rfl fo30_2) nofun (by decide) ?_
    refine JL_yes rfl rfl ?_
    refine JL_v (vo_load rfl (by first | exact .frz ‹_› | exact .own (by repeat (first | exact .head _ | refine .tail _ ?_))) (by first | exact PartAt.whole Try.underlying27 rfl sz27 | exact pn_all ‹_› | exact pn_val (node_self _ _ _ _) | exact pn_marks (node_self _ _ _ _) | exact pn_name ‹_›)) nofun (by decide) ?_
    refine JL_yes rfl rfl ?_
    refine JL_v (vo_fieldAddr rfl fo30_2) nofun (by decide) ?_
    refine JL_yes rfl rfl ?_
    refine JL_v (vo_load rfl (by first | exact .frz ‹_› | exact .own (by repeat (first | exact .head _ | refine .tail _ ?_))) (by first | exact PartAt.whole Try.underlying27 rfl sz27 | exact pn_all ‹_› | exact pn_val (node_self _ _ _ _) | exact pn_marks (node_self _ _ _ _) | exact pn_name ‹_›)) nofun (by decide) ?_
    refine JL_yes rfl rfl ?_
    refine JL_v (vo_eqS rfl rfl rfl eg27 (eqv27 _ _)) nofun (by decide) ?_
    refine JL_v (vo_pick rfl rfl) nofun (by decide) ?_
    refine JL_v (vo_move rfl) nofun (by decide) ?_
    refine JL_case 18 rfl (fun hg18 => ?_) (fun hg18 => ?_)
    · refine JL_no rfl rfl (by decide) ?_
      refine JL_no rfl rfl (by decide) ?_
      refine JL_no rfl rfl (by decide) ?_
      refine JL_no rfl rfl (by decide) ?_
      refine JL_no rfl rfl (by decide) ?_
      refine JL_no rfl rfl (by decide) ?_
      refine JL_no rfl rfl (by decide) ?_
      refine JL_v (vo_pick rfl rfl) nofun (by decide) ?_
      refine JL_nil ?_
      refine JX_then ?_
      refine JC_cond true rfl (fun _ => ?_) (fun h => Bool.noConfusion h)
      refine JC_seq ?_
      refine JC_region ?_
      refine JL_v (vo_assign rfl) nofun (by decide) ?_
      refine JL_nil ?_
      refine JX_then ?_
      refine JC_ret ?_
      refine JX_then_ret ?_
      refine ret1 rfl rfl ?_
      intro w1 hM; exact SC_end hM (by rw [eqNd_eq]; simp_all)
    · refine JL_yes rfl rfl ?_
      refine JL_v (vo_fieldAddr rfl fo30_3) nofun (by decide) ?_
      refine JL_yes rfl rfl ?_
      refine JL_v (vo_load rfl (by first | exact .frz ‹_› | exact .own (by repeat (first | exact .head _ | refine .tail _ ?_))) (by first | exact .cell Try.underlying28 rfl rfl | exact pn_all ‹_› | exact pn_val (node_self _ _ _ _) | exact pn_marks (node_self _ _ _ _) | exact pn_name ‹_›)) nofun (by decide) ?_
      refine JL_yes rfl rfl ?_
      refine JL_v (vo_len rfl Try.underlying28) nofun (by decide) ?_
      refine JL_yes rfl rfl ?_
      refine JL_v (vo_fieldAddr rfl fo30_3) nofun (by decide) ?_
      refine JL_yes rfl rfl ?_
      refine JL_v (vo_load rfl (by first | exact .frz ‹_› | exact .own (by repeat (first | exact .head _ | refine .tail _ ?_))) (by first | exact .cell Try.underlying28 rfl rfl | exact pn_all ‹_› | exact pn_val (node_self _ _ _ _) | exact pn_marks (node_self _ _ _ _) | exact pn_name ‹_›)) nofun (by decide) ?_
      refine JL_yes rfl rfl ?_
      refine JL_v (vo_len rfl Try.underlying28) nofun (by decide) ?_
      refine JL_yes rfl rfl ?_
      refine JL_v (vo_cmp rfl rfl rfl) nofun (by decide) ?_
      refine JL_v (vo_pick rfl rfl) nofun (by decide) ?_
      refine JL_nil ?_
      refine JX_then ?_
      refine JC_cond _ rfl (fun hc26 => ?_) (fun hc26 => ?_)
      · have hne : eqNds ks b.kids = false := by
          cases h : eqNds ks b.kids with
          | false => rfl
          | true => have := eqNds_len _ _ h; simp at hc26; omega
        refine JC_seq ?_
        refine JC_region ?_
        refine JL_v (vo_assign rfl) nofun (by decide) ?_
        refine JL_nil ?_
        refine JX_then ?_
        refine JC_ret ?_
        refine JX_then_ret ?_
        refine ret1 rfl rfl ?_
        intro w1 hM; exact SC_end hM (by rw [eqNd_eq, show (Nd.mk nm v m ks).kids = ks from rfl, hne]; simp)
      · have hle : ks.length = b.kids.length := by simp at hc26; omega
        refine JC_skip ?_
        refine JX_then ?_
        refine JC_seq ?_
        refine JC_seq ?_
        refine JC_region ?_
        refine JL_v (vo_assign rfl) nofun (by decide) ?_
        refine JL_nil ?_
        refine JX_then ?_
        refine JC_block ?_
        refine JC_loop (α := { i : Nat // i ≤ ks.length ∧ eqNds ks b.kids = eqNds (ks.drop i) (b.kids.drop i) }) (fun i => [(2, .pointer (some ⟨b2, 0, none⟩)), (3, .pointer (some ⟨b3, 0, none⟩)), (5, .int .i64 i.1)]) (fun i => Mem w (fun _ => False) (fun b => b < w.heap.size) (fun b => b < w.heap.size) w  [.blk b3 (.cells (ndC b (.slice A2 b.kids.length c2)).toArray 30 (0, 0)), .blk b2 (.cells (ndC (.mk nm v m ks) (.slice A ks.length c)).toArray 30 (0, 0))]) (fun i => ks.length - i.1) ⟨0, by omega, by simp⟩ (by repeat (first | exact trivial | refine ⟨rfl, ?_⟩ | refine ⟨trivial, ?_⟩)) (fun w hw => hw) ?_
        rintro ⟨i, hile, hinv⟩
        dsimp only
        refine JC_seq ?_
        refine JC_seq ?_
        refine JC_region ?_
        refine JL_v (vo_move rfl) nofun (by decide) ?_
        refine JL_v (vo_fieldAddr rfl fo30_3) nofun (by decide) ?_
        refine JL_v (vo_load rfl (by first | exact .frz ‹_› | exact .own (by repeat (first | exact .head _ | refine .tail _ ?_))) (by first | exact .cell Try.underlying28 rfl rfl | exact pn_all ‹_› | exact pn_val (node_self _ _ _ _) | exact pn_marks (node_self _ _ _ _) | exact pn_name ‹_›)) nofun (by decide) ?_
        refine JL_v (vo_len rfl Try.underlying28) nofun (by decide) ?_
        refine JL_v (vo_cmp rfl rfl rfl) nofun (by decide) ?_
        refine JL_nil ?_
        refine JX_then ?_
        refine JC_cond _ rfl (fun hc31 => ?_) (fun hc31 => ?_)
        · have hil : i < ks.length := by simp at hc31; omega
          obtain ⟨nk, hnk⟩ : ∃ nk, ks[i]? = some nk := ⟨_, List.getElem?_eq_getElem hil⟩
          obtain ⟨nk2, hnk2⟩ : ∃ nk, b.kids[i]? = some nk := ⟨_, List.getElem?_eq_getElem (by omega)⟩
          obtain ⟨b', o', c', cs', te, fr, kk, hv, hfb, hseg, hkk⟩ := hr1.at_ hnk
          cases hv
          obtain ⟨Ak, ck, rfl, hlk⟩ := hkk.slice
          obtain ⟨b'', o'', c'', cs'', te2, fr2, kk2, hv2, hfb2, hseg2, hkk2⟩ := hr2.at_ hnk2
          cases hv2
          obtain ⟨Ak2, ck2, rfl, hlk2⟩ := hkk2.slice
          have hmem := List.mem_of_getElem? hnk
          have hd1 := drop_of_get hnk
          have hd2 := drop_of_get hnk2
          rw [hd1, hd2, eqNds] at hinv
          refine JC_skip ?_
          refine JX_then ?_
          refine JC_seq ?_
          refine JC_block ?_
          refine JC_seq ?_
          refine JC_drawM 27 (by kernel_rfl) (fun w hw => Mem.drew hw) ?_
          refine JR_v (i := 0) rfl (by kernel_rfl) (by kernel_rfl) rfl (by kernel_rfl) (by kernel_rfl) panic_any (by decide) (vo_fieldAddr rfl fo30_3) (fun w hw => hw) ?_
          refine JR_v (i := 1) rfl (by kernel_rfl) (by kernel_rfl) rfl (by kernel_rfl) (by kernel_rfl) panic_any (by decide) (vo_load rfl (by first | exact .frz ‹_› | exact .own (by repeat (first | exact .head _ | refine .tail _ ?_))) (by first | exact .cell Try.underlying28 rfl rfl | exact pn_all ‹_› | exact pn_val (node_self _ _ _ _) | exact pn_marks (node_self _ _ _ _) | exact pn_name ‹_›)) (fun w hw => hw) ?_
          refine JR_v (i := 2) rfl (by kernel_rfl) (by kernel_rfl) rfl (by kernel_rfl) (by kernel_rfl) panic_any (by decide) (vo_move rfl) (fun w hw => hw) ?_
          refine JR_v (i := 3) rfl (by kernel_rfl) (by kernel_rfl) rfl (by kernel_rfl) (by kernel_rfl) panic_any (by decide) (vo_indexAddr rfl rfl Try.underlying28 sz30 (by omega) (by omega)) (fun w hw => hw) ?_
          refine JR_v (i := 4) rfl (by kernel_rfl) (by kernel_rfl) rfl (by kernel_rfl) (by kernel_rfl) panic_any (by decide) (vo_fieldAddr rfl fo30_0) (fun w hw => hw) ?_
          refine JR_v (i := 5) rfl (by kernel_rfl) (by kernel_rfl) rfl (by kernel_rfl) (by kernel_rfl) panic_any (by decide) (vo_load rfl (by first | exact .frz ‹_› | exact .own (by repeat (first | exact .head _ | refine .tail _ ?_))) (by first | exact .cell Try.underlying9 rfl rfl | exact pn_all ‹_› | exact pn_val (node_self _ _ _ _) | exact pn_marks (node_self _ _ _ _) | exact pn_name ‹_›)) (fun w hw => hw) ?_
          refine JR_v (i := 6) rfl (by kernel_rfl) (by kernel_rfl) rfl (by kernel_rfl) (by kernel_rfl) panic_any (by decide) (vo_fieldAddr rfl fo30_3) (fun w hw => hw) ?_
          refine JR_v (i := 7) rfl (by kernel_rfl) (by kernel_rfl) rfl (by kernel_rfl) (by kernel_rfl) panic_any (by decide) (vo_load rfl (by first | exact .frz ‹_› | exact .own (by repeat (first | exact .head _ | refine .tail _ ?_))) (by first | exact .cell Try.underlying28 rfl rfl | exact pn_all ‹_› | exact pn_val (node_self _ _ _ _) | exact pn_marks (node_self _ _ _ _) | exact pn_name ‹_›)) (fun w hw => hw) ?_
          refine JR_v (i := 8) rfl (by kernel_rfl) (by kernel_rfl) rfl (by kernel_rfl) (by kernel_rfl) panic_any (by decide) (vo_move rfl) (fun w hw => hw) ?_
          refine JR_v (i := 9) rfl (by kernel_rfl) (by kernel_rfl) rfl (by kernel_rfl) (by kernel_rfl) panic_any (by decide) (vo_indexAddr rfl rfl Try.underlying28 sz30 (by omega) (by omega)) (fun w hw => hw) ?_
          refine JR_v (i := 10) rfl (by kernel_rfl) (by kernel_rfl) rfl (by kernel_rfl) (by kernel_rfl) panic_any (by decide) (vo_fieldAddr rfl fo30_0) (fun w hw => hw) ?_
          refine JR_v (i := 11) rfl (by kernel_rfl) (by kernel_rfl) rfl (by kernel_rfl) (by kernel_rfl) panic_any (by decide) (vo_load rfl (by first | exact .frz ‹_› | exact .own (by repeat (first | exact .head _ | refine .tail _ ?_))) (by first | exact .cell Try.underlying9 rfl rfl | exact pn_all ‹_› | exact pn_val (node_self _ _ _ _) | exact pn_marks (node_self _ _ _ _) | exact pn_name ‹_›)) (fun w hw => hw) ?_
          refine JR_v (i := 12) rfl (by kernel_rfl) (by kernel_rfl) rfl (by kernel_rfl) (by kernel_rfl) panic_any (by decide) (vo_scmp rfl rfl rfl) (fun w hw => hw) ?_
          refine JR_v (i := 13) rfl (by kernel_rfl) (by kernel_rfl) rfl (by kernel_rfl) (by kernel_rfl) panic_any (by decide) (vo_move rfl) (fun w hw => hw) ?_
          refine JR_case 47 rfl (fun hg47 => ?_) (fun hg47 => ?_)
          · refine JR_vn (i := 14) rfl rfl rfl (by kernel_rfl) (by kernel_rfl) rfl (by kernel_rfl) (by kernel_rfl) panic_any (by decide) (fun w hw => hw) ?_
            refine JR_vn (i := 15) rfl rfl rfl (by kernel_rfl) (by kernel_rfl) rfl (by kernel_rfl) (by kernel_rfl) panic_any (by decide) (fun w hw => hw) ?_
            refine JR_vn (i := 16) rfl rfl rfl (by kernel_rfl) (by kernel_rfl) rfl (by kernel_rfl) (by kernel_rfl) panic_any (by decide) (fun w hw => hw) ?_
            refine JR_vn (i := 17) rfl rfl rfl (by kernel_rfl) (by kernel_rfl) rfl (by kernel_rfl) (by kernel_rfl) panic_any (by decide) (fun w hw => hw) ?_
            refine JR_vn (i := 18) rfl rfl rfl (by kernel_rfl) (by kernel_rfl) rfl (by kernel_rfl) (by kernel_rfl) panic_any (by decide) (fun w hw => hw) ?_
            refine JR_vn (i := 19) rfl rfl rfl (by kernel_rfl) (by kernel_rfl) rfl (by kernel_rfl) (by kernel_rfl) panic_any (by decide) (fun w hw => hw) ?_
            refine JR_vn (i := 20) rfl rfl rfl (by kernel_rfl) (by kernel_rfl) rfl (by kernel_rfl) (by kernel_rfl) panic_any (by decide) (fun w hw => hw) ?_
            refine JR_vn (i := 21) rfl rfl rfl (by kernel_rfl) (by kernel_rfl) rfl (by kernel_rfl) (by kernel_rfl) panic_any (by decide) (fun w hw => hw) ?_
            refine JR_vn (i := 22) rfl rfl rfl (by kernel_rfl) (by kernel_rfl) rfl (by kernel_rfl) (by kernel_rfl) panic_any (by decide) (fun w hw => hw) ?_
            refine JR_vn (i := 23) rfl rfl rfl (by kernel_rfl) (by kernel_rfl) rfl (by kernel_rfl) (by kernel_rfl) panic_any (by decide) (fun w hw => hw) ?_
            refine JR_vn (i := 24) rfl rfl rfl (by kernel_rfl) (by kernel_rfl) rfl (by kernel_rfl) (by kernel_rfl) panic_any (by decide) (fun w hw => hw) ?_
            refine JR_vn (i := 25) rfl rfl rfl (by kernel_rfl) (by kernel_rfl) rfl (by kernel_rfl) (by kernel_rfl) panic_any (by decide) (fun w hw => hw) ?_
            refine JR_v (i := 26) rfl (by kernel_rfl) (by kernel_rfl) rfl (by kernel_rfl) (by kernel_rfl) panic_any (by decide) (vo_pick rfl rfl) (fun w hw => hw) ?_
            refine JR_done (by kernel_rfl) ?_
            refine JX_then ?_
            refine JC_cond true rfl (fun _ => ?_) (fun h => Bool.noConfusion h)
            refine JC_seq ?_
            refine JC_region ?_
            refine JL_v (vo_assign rfl) nofun (by decide) ?_
            refine JL_nil ?_
            refine JX_then ?_
            refine JC_ret ?_
            refine JX_block_ret ?_
            refine JX_then_ret ?_
            refine JX_thenK_ret ?_
            refine JX_block_ret ?_
            refine JX_then_ret ?_
            refine ret1 rfl rfl ?_
            intro w1 hM
            refine SC_end hM ?_
            first
              | (have hxi : i = ks.length := by simp at hc31; omega
                 have hd1 : ks.drop i = [] := by rw [hxi]; simp
                 have hd2 : b.kids.drop i = [] := by rw [hxi, hle]; simp
                 rw [hd1, hd2] at hinv
                 rw [eqNd_eq]
                 simp_all [eqNds, Nd.kids])
              | (rw [eqNd_eq]; simp_all [Nd.kids])
          · refine JR_vy (i := 14) rfl rfl rfl (by kernel_rfl) (by kernel_rfl) rfl (by kernel_rfl) (by kernel_rfl) panic_any (by decide) (vo_fieldAddr rfl fo30_3) (fun w hw => hw) ?_
            refine JR_vy (i := 15) rfl rfl rfl (by kernel_rfl) (by kernel_rfl) rfl (by kernel_rfl) (by kernel_rfl) panic_any (by decide) (vo_load rfl (by first | exact .frz ‹_› | exact .own (by repeat (first | exact .head _ | refine .tail _ ?_))) (by first | exact .cell Try.underlying28 rfl rfl | exact pn_all ‹_› | exact pn_val (node_self _ _ _ _) | exact pn_marks (node_self _ _ _ _) | exact pn_name ‹_›)) (fun w hw => hw) ?_
            refine JR_vy (i := 16) rfl rfl rfl (by kernel_rfl) (by kernel_rfl) rfl (by kernel_rfl) (by kernel_rfl) panic_any (by decide) (vo_move rfl) (fun w hw => hw) ?_
            refine JR_vy (i := 17) rfl rfl rfl (by kernel_rfl) (by kernel_rfl) rfl (by kernel_rfl) (by kernel_rfl) panic_any (by decide) (vo_indexAddr rfl rfl Try.underlying28 sz30 (by omega) (by omega)) (fun w hw => hw) ?_
            refine JR_vy (i := 18) rfl rfl rfl (by kernel_rfl) (by kernel_rfl) rfl (by kernel_rfl) (by kernel_rfl) panic_any (by decide) (vo_load rfl (by first | exact .frz ‹_› | exact .own (by repeat (first | exact .head _ | refine .tail _ ?_))) (by first | exact PartAt.whole Try.underlying30 rfl sz30 | exact pn_all ‹_› | exact pn_val (node_self _ _ _ _) | exact pn_marks (node_self _ _ _ _) | exact pn_name ‹_›)) (fun w hw => hw) ?_
            refine JR_vy (i := 19) rfl rfl rfl (by kernel_rfl) (by kernel_rfl) rfl (by kernel_rfl) (by kernel_rfl) panic_any (by decide) (vo_fieldAddr rfl fo30_3) (fun w hw => hw) ?_
            refine JR_vy (i := 20) rfl rfl rfl (by kernel_rfl) (by kernel_rfl) rfl (by kernel_rfl) (by kernel_rfl) panic_any (by decide) (vo_load rfl (by first | exact .frz ‹_› | exact .own (by repeat (first | exact .head _ | refine .tail _ ?_))) (by first | exact .cell Try.underlying28 rfl rfl | exact pn_all ‹_› | exact pn_val (node_self _ _ _ _) | exact pn_marks (node_self _ _ _ _) | exact pn_name ‹_›)) (fun w hw => hw) ?_
            refine JR_vy (i := 21) rfl rfl rfl (by kernel_rfl) (by kernel_rfl) rfl (by kernel_rfl) (by kernel_rfl) panic_any (by decide) (vo_move rfl) (fun w hw => hw) ?_
            refine JR_vy (i := 22) rfl rfl rfl (by kernel_rfl) (by kernel_rfl) rfl (by kernel_rfl) (by kernel_rfl) panic_any (by decide) (vo_indexAddr rfl rfl Try.underlying28 sz30 (by omega) (by omega)) (fun w hw => hw) ?_
            refine JR_vy (i := 23) rfl rfl rfl (by kernel_rfl) (by kernel_rfl) rfl (by kernel_rfl) (by kernel_rfl) panic_any (by decide) (vo_load rfl (by first | exact .frz ‹_› | exact .own (by repeat (first | exact .head _ | refine .tail _ ?_))) (by first | exact PartAt.whole Try.underlying30 rfl sz30 | exact pn_all ‹_› | exact pn_val (node_self _ _ _ _) | exact pn_marks (node_self _ _ _ _) | exact pn_name ‹_›)) (fun w hw => hw) ?_
            refine JR_split [24] (by kernel_rfl) rfl (all1 ?_)
            refine JK_scall rfl ⟨47, rfl, rfl⟩ rfl en43 (by decide) (fun w hw => hks nk hmem nk2 _ _ w (hkk.ext hw.ext_all) (hkk2.ext hw.ext_all)) (fun w hw => hw) ?_
            rintro _ rfl
            refine JR_vy (i := 25) rfl rfl rfl (by kernel_rfl) (by kernel_rfl) rfl (by kernel_rfl) (by kernel_rfl) panic_any (by decide) (vo_not rfl) (fun w hw => hw) ?_
            refine JR_v (i := 26) rfl (by kernel_rfl) (by kernel_rfl) rfl (by kernel_rfl) (by kernel_rfl) panic_any (by decide) (vo_pick rfl rfl) (fun w hw => hw) ?_
            refine JR_done (by kernel_rfl) ?_
            refine JX_then ?_
            refine JC_cond _ rfl (fun hc60 => ?_) (fun hc60 => ?_)
            · refine JC_seq ?_
              refine JC_region ?_
              refine JL_v (vo_assign rfl) nofun (by decide) ?_
              refine JL_nil ?_
              refine JX_then ?_
              refine JC_ret ?_
              refine JX_block_ret ?_
              refine JX_then_ret ?_
              refine JX_thenK_ret ?_
              refine JX_block_ret ?_
              refine JX_then_ret ?_
              refine ret1 rfl rfl ?_
              intro w1 hM
              refine SC_end hM ?_
              first
                | (have hxi : i = ks.length := by simp at hc31; omega
                   have hd1 : ks.drop i = [] := by rw [hxi]; simp
                   have hd2 : b.kids.drop i = [] := by rw [hxi, hle]; simp
                   rw [hd1, hd2] at hinv
                   rw [eqNd_eq]
                   simp_all [eqNds, Nd.kids])
                | (rw [eqNd_eq]; simp_all [Nd.kids])
            · refine JC_skip ?_
              refine JX_block ?_
              refine JX_then ?_
              refine JC_region ?_
              refine JL_v (vo_move rfl) nofun (by decide) ?_
              refine JL_v (vo_add rfl rfl (by omega) (by omega)) nofun (by decide) ?_
              refine JL_v (vo_assign rfl) nofun (by decide) ?_
              refine JL_nil ?_
              refine JX_loop ⟨i + 1, hil, by simp_all⟩ (by show ks.length - (i + 1) < ks.length - i; omega) (by repeat (first | exact trivial | refine ⟨rfl, ?_⟩ | refine ⟨trivial, ?_⟩)) (fun w hw => hw)
        · refine JC_exit ?_
          refine JX_then_exit ?_
          refine JX_thenK_exit ?_
          refine JX_block_exit ?_
          refine JX_then ?_
          refine JC_seq ?_
          refine JC_region ?_
          refine JL_v (vo_assign rfl) nofun (by decide) ?_
          refine JL_nil ?_
          refine JX_then ?_
          refine JC_ret ?_
          refine ret1 rfl rfl ?_
          intro w1 hM
          refine SC_end hM ?_
          first
            | (have hxi : i = ks.length := by simp at hc31; omega
               have hd1 : ks.drop i = [] := by rw [hxi]; simp
               have hd2 : b.kids.drop i = [] := by rw [hxi, hle]; simp
               rw [hd1, hd2] at hinv
               rw [eqNd_eq]
               simp_all [eqNds, Nd.kids])
            | (rw [eqNd_eq]; simp_all [Nd.kids])
theorem eq_spec : ∀ nd, (∀ (b : Nd) (k1 k2 : Value) (w : World), RNds (fun b => b < w.heap.size) w nd.kids k1 → RNds (fun b => b < w.heap.size) w b.kids k2 → SCalls Try.prog 43 #[.agg (ndC nd k1).toArray, .agg (ndC b k2).toArray] w (fun u => u = .bool (eqNd nd b))) := by
  refine Nd.ind fun nm v m ks ih => ?_
  exact eq_of nm v m ks ih

set_option maxRecDepth 8000 in
set_option maxHeartbeats 1000000 in
theorem sameNode_spec (a b : Nd) (k1 k2 : Value) (w : World) (hr1 : RNds (fun b => b < w.heap.size) w a.kids k1) (hr2 : RNds (fun b => b < w.heap.size) w b.kids k2) : SCalls Try.prog 15 #[.agg (ndC a k1).toArray, .agg (ndC b k2).toArray] w (fun u => u = .bool (beq a.name b.name && eqNd a b)) := by
  obtain ⟨A, c, rfl, hlen1⟩ := hr1.slice
  obtain ⟨A2, c2, rfl, hlen2⟩ := hr2.slice
  refine enter (N := 15) Try.func15 rfl Try.ntmps15 (Nat.le_of_ble_eq_true rfl) [(0, .agg (ndC a (.slice A a.kids.length c)).toArray), (1, .agg (ndC b (.slice A2 b.kids.length c2)).toArray)] (by repeat (first | exact trivial | refine ⟨rfl, ?_⟩)) (Mem.start w (fun _ => False) (fun b => b < w.heap.size) (fun _ h => h)) ?_
  refine JC_seq ?_
  refine JC_region ?_
  refine st_box rfl (by decide) (fun b2 => ?_)
  refine st_box rfl (by decide) (fun b3 => ?_)
  refine JL_v (vo_assign rfl) nofun (by decide) ?_
  refine JL_nil ?_
  refine JX_then ?_
  refine JC_seq ?_
  refine JC_region ?_
  refine JL_v (vo_fieldAddr rfl fo30_0) nofun (by decide) ?_
  refine JL_v (vo_load rfl (by first | exact .frz ‹_› | exact .own (by repeat (first | exact .head _ | refine .tail _ ?_))) (by first | exact .cell Try.underlying9 rfl rfl | exact pn_all ‹_› | exact pn_val (node_self _ _ _ _) | exact pn_marks (node_self _ _ _ _) | exact pn_name ‹_›)) nofun (by decide) ?_
  refine JL_v (vo_fieldAddr rfl fo30_0) nofun (by decide) ?_
  refine JL_v (vo_load rfl (by first | exact .frz ‹_› | exact .own (by repeat (first | exact .head _ | refine .tail _ ?_))) (by first | exact .cell Try.underlying9 rfl rfl | exact pn_all ‹_› | exact pn_val (node_self _ _ _ _) | exact pn_marks (node_self _ _ _ _) | exact pn_name ‹_›)) nofun (by decide) ?_
  refine JL_v (vo_scmp rfl rfl rfl) nofun (by decide) ?_
  refine JL_v (vo_move rfl) nofun (by decide) ?_
  refine JL_case 10 rfl (fun hg10 => ?_) (fun hg10 => ?_)
  · refine JL_yes rfl rfl ?_
    refine JL_v (vo_load rfl (by first | exact .frz ‹_› | exact .own (by repeat (first | exact .head _ | refine .tail _ ?_))) (by first | exact PartAt.whole Try.underlying30 rfl sz30 | exact pn_all ‹_› | exact pn_val (node_self _ _ _ _) | exact pn_marks (node_self _ _ _ _) | exact pn_name ‹_›)) nofun (by decide) ?_
    refine JL_yes rfl rfl ?_
    refine JL_v (vo_load rfl (by first | exact .frz ‹_› | exact .own (by repeat (first | exact .head _ | refine .tail _ ?_))) (by first | exact PartAt.whole Try.underlying30 rfl sz30 | exact pn_all ‹_› | exact pn_val (node_self _ _ _ _) | exact pn_marks (node_self _ _ _ _) | exact pn_name ‹_›)) nofun (by decide) ?_
    refine JL_yes rfl rfl ?_
    refine st_scall rfl en43 (by decide) (fun w hw => eq_spec a b _ _ w (hr1.ext hw.ext_all) (hr2.ext hw.ext_all)) ?_
    rintro _ rfl
    refine JL_v (vo_pick rfl rfl) nofun (by decide) ?_
    refine JL_v (vo_assign rfl) nofun (by decide) ?_
    refine JL_nil ?_
    refine JX_then ?_
    refine JC_ret ?_
    refine ret1 rfl rfl ?_
    intro w1 hM; exact SC_end hM (by simp_all)
  · refine JL_no rfl rfl (by decide) ?_
    refine JL_no rfl rfl (by decide) ?_
    refine JL_no rfl rfl (by decide) ?_
    refine JL_v (vo_pick rfl rfl) nofun (by decide) ?_
    refine JL_v (vo_assign rfl) nofun (by decide) ?_
    refine JL_nil ?_
    refine JX_then ?_
    refine JC_ret ?_
    refine ret1 rfl rfl ?_
    intro w1 hM; exact SC_end hM (by simp_all)

end Go.Eng
