/-
  Part of the proofs over this seat: E24 E25 E26 E27 E28. Own work; imports the kit.
-/
import Derived.RangeFuncIn
import Derived.RangeFuncRecord
import Derived.RangeFuncLeaves
import Derived.Test.YtdcafpemkpcmpaaEng3
set_option linter.unusedVariables false
set_option linter.unusedSimpArgs false
namespace Go.Eng
open Go Go.RowKit Go.MapKept
section
variable {P : Program} {r : Option Nat} {N : Nat} {ds : List Deferred} {ops : Array Oper} {Q : Post} {t : Fm} {rest : List Oper} {M : World → Prop} {F : World → Prop} {m fuel : Nat} {listed : Array Bool}
variable {w0 : World} {E Z0 Z : Nat → Prop} {wz : World} {L : List Res}
variable {ty : TypeId} {pos : String} {aft : Array Edge} {d dd : Nat} {g : Option (Nat × Bool)}
/-! ### reading by what is known of the heap alone -/
theorem vo_loadH {lt : TypeId} {x : Operand} {b o : Nat} {cs : Array Value} {te : TypeId} {fr : Nat × Nat} {v : Value} (hx : ev t x = some (.pointer (some ⟨b, o, none⟩)))
    (hb : ∀ w, M w → w.heap[b]? = some (.cells cs te fr)) (hp : PartAt P lt cs o v) : ValOf P N ds t M ⟨some d, .load lt x, ty, pos, aft, none⟩ v := fun a w ha hw => by
  unfold execOp
  simp [ha.eval hx, run_loadAt_part (hb w hw) hp]
theorem vo_loadRowH {lt : TypeId} {x : Operand} {b o cap sz n : Nat} {e : TypeId} {xs : List Value} {v : Value} (hx : ev t x = some (.pointer (some ⟨b, o, none⟩)))
    (hb : ∀ w, M w → w.ownsRow 0 e sz (.slice (some ⟨b, 0, none⟩) n cap) n xs) (hp : PartAt P lt xs.toArray o v) : ValOf P N ds t M ⟨some d, .load lt x, ty, pos, aft, none⟩ v := fun a w ha hw => by
  obtain ⟨hl, h1⟩ := hb w hw
  rcases h1 with ⟨h1, _⟩ | ⟨g, cap', cur, h1, _, hg, hnc, hcm, hcs, htk⟩
  · cases h1
  · cases h1
    have key : ∀ i u, xs[i]? = some u → cur[i]? = some u := fun i u hu => by
      have hi := (List.getElem?_eq_some_iff.1 hu).1
      rw [← Array.getElem?_toList, ← hu, ← htk, List.getElem?_take, if_pos (by omega)]
    have hp' : PartAt P lt cur o v := by
      cases hp with
      | cell hu hd h => exact .cell hu hd (key _ _ (by simpa using h))
      | agg hu hd hi h => exact .agg hu hd hi (fun j u hj => key _ _ (by simpa using h j u hj))
    unfold execOp
    simp [ha.eval hx, run_loadAt_part hg hp']
theorem JR_mem {M' : World → Prop} (h : JR P N ds ops Q F m fuel listed t M') (hM : ∀ w, M w → M' w) : JR P N ds ops Q F m fuel listed t M := fun a w ha hw => h a w ha (hM w hw)
theorem JK_mem {M' : World → Prop} {i : Nat} (h : JK P N ds ops Q F m fuel listed t M' i) (hM : ∀ w, M w → M' w) : JK P N ds ops Q F m fuel listed t M i := fun a w ha hw => h a w ha (hM w hw)
theorem JK_mcall {i : Nat} {f : FuncId} {l : List Operand} {ats : Array TypeId} {vs : List Value} {R : Value → List Res → Prop} (L0 K : List Res) (hLK : L = L0 ++ K) (hi : ops[i]? = some ⟨some d, .call { callee := .value (.func f), args := l.toArray, argTypes := ats }, ty, pos, aft, g⟩)
    (hw : Wants ops t g) (hl : evOps t l = some vs) (he : Enters P f) (hd : d < N)
    (hc : ∀ w, Mem w0 E Z0 Z wz (L0 ++ K) w → MCalls P f vs.toArray w L0 R) (hF : ∀ v L' w, R v L' → Mem w0 E Z0 Z wz (L' ++ K) w → F w)
    (h : ∀ v L', R v L' → JR P N ds ops Q F m fuel (listed.setIfInBounds i true) ((d, v) :: t) (Mem w0 E Z0 Z wz (L' ++ K))) : JK P N ds ops Q F m fuel listed t (Mem w0 E Z0 Z wz L) i := by
  subst hLK
  exact JK_call (β := { x : Value × List Res // R x.1 x.2 }) (fun x => x.1.1) (fun x => Mem w0 E Z0 Z wz (x.1.2 ++ K)) hi rfl hd hw (fun a w ha _ => run_call hl he a w ha)
    (fun w hw => Calls.mono (hc w hw) fun e w' ⟨v, L', he', hm, hR⟩ => ⟨⟨(v, L'), hR⟩, he', hw.moves hm⟩) (fun x w' h => hF _ _ w' x.2 h) (fun x => h _ _ x.2)
variable {α : Type} [DecidableEq α] {kf : α → Value} {mt kt et : TypeId}
theorem vo_lookupSH {x y : Operand} {b : Nat} {o : Obj} {l : List (α × Value)} {k : α} {z : Value} (hk : KeyOK P kt kf) (hx : ev t x = some (.map (some b))) (hy : ev t y = some (kf k)) (hu : P.underlying mt = some (.map kt et))
    (hz : (P.info? et).bind (·.zero) = some z) (hb : ∀ w, M w → w.heap[b]? = some o) (hm : MapS kf l o) : ValOf P N ds t M ⟨some dd, .lookup mt x y false, ty, pos, aft, none⟩ ((aget l k).getD z) := fun a w ha hw => by
  obtain ⟨es, clock, rfl, h1, _, _⟩ := hm
  have hbl := hb w hw
  obtain ⟨inf, hinf, hz'⟩ := Option.bind_eq_some_iff.1 hz
  have hzero : (zeroValue et).run P w = .ok z w := by simp [zeroValue, typeInfo, hinf, hz']
  have hfk := run_findKeyA (P := P) (w := w) hk k h1
  unfold execOp
  rcases run_findKeyS hk k es.toList l 0 h1 with ⟨hf, hg, _⟩ | ⟨j, e, hf, _, _, hg, _⟩
  · simp [ha.eval hx, ha.eval hy, Instr.lookup, run_underlying hu, MapKept.run_getObj_map hbl, hk.check, hfk, hf, hzero, hg]
  · simp [ha.eval hx, ha.eval hy, Instr.lookup, run_underlying hu, MapKept.run_getObj_map hbl, hk.check, hfk, hf, hg]
theorem st_mapEntry {x y : Operand} {b : Nat} {o : Obj} {l : List (α × Value)} {k : α} {z : Value} {L' : Obj → List Res} (hk : KeyOK P kt kf) (hx : ev t x = some (.map (some b))) (hy : ev t y = some (kf k)) (hu : P.underlying mt = some (.map kt et)) (hz : (P.info? et).bind (·.zero) = some z)
    (hm : MapS kf l o) (ht' : TurnF (.blk b o) (fun o' => .blk b o') L L') (hd : dd < N)
    (h : ∀ o' (stamp : Nat), MapE kf (aset l k ((aget l k).getD z)) k stamp o' → JL P r N ds ops Q rest ((dd, .tuple #[(aget l k).getD z, .int .i64 stamp]) :: t) (Mem w0 E Z0 Z wz (L' o'))) :
    JL P r N ds ops Q (⟨some dd, .mapEntry mt x y, ty, pos, aft, none⟩ :: rest) t (Mem w0 E Z0 Z wz L) := by
  obtain ⟨o', stamp, hme, hrun⟩ := do_mapEntry (P := P) (N := N) (ds := ds) (t := t) (w0 := w0) (E := E) (Z0 := Z0) (Z := Z) (wz := wz) (L := L) (ty := ty) (pos := pos) (aft := aft) (dd := dd) (g := none) (mt := mt) hk hx hy hu hz hm ht'
  exact JL_op (β := Unit) (fun _ => .tuple #[(aget l k).getD z, .int .i64 stamp]) (fun _ => Mem w0 E Z0 Z wz (L' o')) rfl nofun rfl hd (fun a w ha hw => by
    obtain ⟨w', h1, h2⟩ := hrun a w ha hw
    exact ⟨(), w', h1, h2⟩) (fun _ => h o' stamp hme)
theorem st_entryStore {x y z : Operand} {b : Nat} {o : Obj} {l : List (α × Value)} {k : α} {v : Value} {stamp : Nat} {kd : IntKind} {L' : Obj → List Res} (hx : ev t x = some (.map (some b))) (hy : ev t y = some (.int kd stamp)) (hz : ev t z = some v)
    (hm : MapE kf l k stamp o) (ht' : TurnF (.blk b o) (fun o' => .blk b o') L L')
    (h : ∀ o', MapS kf (aset l k v) o' → JL P r N ds ops Q rest t (Mem w0 E Z0 Z wz (L' o'))) :
    JL P r N ds ops Q (⟨none, .entryStore mt x y z, ty, pos, aft, none⟩ :: rest) t (Mem w0 E Z0 Z wz L) := by
  obtain ⟨o', hms, hrun⟩ := do_entryStore (P := P) (N := N) (ds := ds) (t := t) (w0 := w0) (E := E) (Z0 := Z0) (Z := Z) (wz := wz) (L := L) (ty := ty) (pos := pos) (aft := aft) (g := none) (mt := mt) hx hy hz hm ht'
  exact JL_do _ rfl nofun rfl hrun (h o' hms)
theorem st_mapUpdateS {x y z : Operand} {b : Nat} {o : Obj} {l : List (α × Value)} {k : α} {v : Value} {L' : Obj → List Res} (hk : KeyOK P kt kf) (hx : ev t x = some (.map (some b))) (hy : ev t y = some (kf k)) (hz : ev t z = some v) (hu : P.underlying mt = some (.map kt et))
    (hm : MapS kf l o) (ht' : TurnF (.blk b o) (fun o' => .blk b o') L L')
    (h : ∀ o', MapS kf (aset l k v) o' → JL P r N ds ops Q rest t (Mem w0 E Z0 Z wz (L' o'))) :
    JL P r N ds ops Q (⟨none, .mapUpdate mt x y z, ty, pos, aft, none⟩ :: rest) t (Mem w0 E Z0 Z wz L) := by
  obtain ⟨o', hms, hrun⟩ := do_mapUpdateS (P := P) (N := N) (ds := ds) (t := t) (w0 := w0) (E := E) (Z0 := Z0) (Z := Z) (wz := wz) (L := L) (ty := ty) (pos := pos) (aft := aft) (g := none) (mt := mt) hk hx hy hz hu hm ht'
  exact JL_do _ rfl nofun rfl hrun (h o' hms)
theorem JR_mapUpdateS {x y z : Operand} {b : Nat} {o : Obj} {l : List (α × Value)} {k : α} {v : Value} {L' : Obj → List Res} (hk : KeyOK P kt kf) (hop : ops[m]? = some ⟨none, .mapUpdate mt x y z, ty, pos, aft, none⟩) (hr : Region.ready .any ops listed = [m]) (hrd : Region.ready .any ops (listed.setIfInBounds m true) = []) (hms : Nat.blt m listed.size = true)
    (hx : ev t x = some (.map (some b))) (hy : ev t y = some (kf k)) (hz : ev t z = some v) (hu : P.underlying mt = some (.map kt et))
    (hm : MapS kf l o) (ht' : TurnF (.blk b o) (fun o' => .blk b o') L L')
    (h : ∀ o', MapS kf (aset l k v) o' → JX N ds .normal Q t (Mem w0 E Z0 Z wz (L' o'))) : JR P N ds ops Q F m (fuel + 1) listed t (Mem w0 E Z0 Z wz L) := by
  obtain ⟨o', hms', hrun⟩ := do_mapUpdateS (P := P) (N := N) (ds := ds) (t := t) (w0 := w0) (E := E) (Z0 := Z0) (Z := Z) (wz := wz) (L := L) (ty := ty) (pos := pos) (aft := aft) (g := none) (mt := mt) hk hx hy hz hu hm ht'
  exact JR_last hop rfl (fun a ha => rfl) hr hrd _ hrun (Nat.le_of_ble_eq_true hms) (h o' hms')
end
theorem Mem.hblk {w0 : World} {E Z0 Z : Nat → Prop} {wz w : World} {L : List Res} (h : Mem w0 E Z0 Z wz L w) {b : Nat} {o : Obj} (hm : Res.blk b o ∈ L) : w.heap[b]? = some o := h.own _ hm
theorem Mem.hrow {w0 : World} {E Z0 Z : Nat → Prop} {wz w : World} {L : List Res} (h : Mem w0 E Z0 Z wz L w) {v : Value} {e : TypeId} {sz n : Nat} {xs : List Value} (hm : Res.row v e sz n xs ∈ L) : w.ownsRow 0 e sz v n xs := h.own _ hm
/-! ### groups: keys with rows -/
section
variable {α β : Type} [DecidableEq α]
abbrev Grps (α β : Type) := List (α × Value × List β)
def gM (st : Grps α β) : List (α × Value) := st.map fun e => (e.1, e.2.1)
def gR (e : TypeId) (f : β → Value) (st : Grps α β) : List Res := rowsR e (st.map fun x => (x.2.1, x.2.2.map f))
def gG (st : Grps α β) (x : α) : List β := ((st.find? fun e => decide (e.1 = x)).map (·.2.2)).getD []
theorem g_split (st : Grps α β) (x : α) : (∃ s1 u ks s2, st = s1 ++ (x, u, ks) :: s2 ∧ ∀ p ∈ s1, p.1 ≠ x) ∨ ∀ p ∈ st, p.1 ≠ x := by
  induction st with
  | nil => exact .inr (by simp)
  | cons p st ih =>
    by_cases h : p.1 = x
    · obtain ⟨y, u, ks⟩ := p
      have h' : y = x := h
      subst h'
      exact .inl ⟨[], u, ks, st, rfl, by simp⟩
    · rcases ih with ⟨s1, u, ks, s2, rfl, h2⟩ | h1
      · refine .inl ⟨p :: s1, u, ks, s2, rfl, fun q hq => ?_⟩
        rcases List.mem_cons.1 hq with rfl | hq
        · exact h
        · exact h2 q hq
      · refine .inr fun q hq => ?_
        rcases List.mem_cons.1 hq with rfl | hq
        · exact h
        · exact h1 q hq
theorem ag_none {l : List (α × Value)} {x : α} (h : ∀ p ∈ l, p.1 ≠ x) : aget l x = none ∧ ∀ v, aset l x v = l ++ [(x, v)] := by
  induction l with
  | nil => exact ⟨rfl, fun v => rfl⟩
  | cons p l ih =>
    have h1 := ih (fun q hq => h q (.tail _ hq))
    have h2 := h p (.head _)
    exact ⟨by simp [aget, h2, h1.1], fun v => by simp [aset, h2, h1.2 v]⟩
theorem ag_mid {s1 s2 : List (α × Value)} {x : α} {u : Value} (h : ∀ p ∈ s1, p.1 ≠ x) : aget (s1 ++ (x, u) :: s2) x = some u ∧ ∀ v, aset (s1 ++ (x, u) :: s2) x v = s1 ++ (x, v) :: s2 := by
  induction s1 with
  | nil => exact ⟨by simp [aget], fun v => by simp [aset]⟩
  | cons p s1 ih =>
    have h1 := ih (fun q hq => h q (.tail _ hq))
    have h2 := h p (.head _)
    exact ⟨by simp [aget, h2, h1.1], fun v => by simp [aset, h2, h1.2 v]⟩
theorem gG_none {st : Grps α β} {x : α} (h : ∀ p ∈ st, p.1 ≠ x) : gG st x = [] := by
  unfold gG
  rw [List.find?_eq_none.2 (fun p hp => by simpa using h p hp)]; rfl
theorem gG_mid {s1 s2 : Grps α β} {x : α} {u : Value} {ks : List β} (h : ∀ p ∈ s1, p.1 ≠ x) : gG (s1 ++ (x, u, ks) :: s2) x = ks := by
  unfold gG
  rw [List.find?_append, List.find?_eq_none.2 (fun p hp => by simpa using h p hp)]
  simp
theorem gG_other {s1 s2 : Grps α β} {x y : α} {u v : Value} {ks ls : List β} (hy : x ≠ y) : gG (s1 ++ (x, u, ks) :: s2) y = gG (s1 ++ (x, v, ls) :: s2) y := by
  unfold gG
  rw [List.find?_append, List.find?_append]
  simp [hy]
theorem gG_snoc {st : Grps α β} {x y : α} {u : Value} {ks : List β} (h : ∀ p ∈ st, p.1 ≠ x) : gG (st ++ [(x, u, ks)]) y = if x = y then ks else gG st y := by
  unfold gG
  rw [List.find?_append]
  by_cases hy : x = y
  · subst hy
    rw [List.find?_eq_none.2 (fun p hp => by simpa using h p hp)]
    simp
  · simp [hy]
omit [DecidableEq α] in
theorem gM_mid (s1 s2 : Grps α β) (x : α) (u : Value) (ks : List β) : gM (s1 ++ (x, u, ks) :: s2) = gM s1 ++ (x, u) :: gM s2 := by simp [gM]
omit [DecidableEq α] in
theorem gR_mid (e : TypeId) (f : β → Value) (s1 s2 : Grps α β) (x : α) (u : Value) (ks : List β) : gR e f (s1 ++ (x, u, ks) :: s2) = gR e f s1 ++ .row u e 1 ks.length (ks.map f) :: gR e f s2 := by simp [gR, rowsR]
omit [DecidableEq α] in
theorem gM_ne {s : Grps α β} {x : α} (h : ∀ p ∈ s, p.1 ≠ x) : ∀ p ∈ gM s, p.1 ≠ x := by
  intro p hp
  obtain ⟨q, hq, rfl⟩ := List.mem_map.1 hp
  exact h q hq
omit [DecidableEq α] in
theorem gM_snoc (st : Grps α β) (x : α) (u : Value) (ks : List β) : gM (st ++ [(x, u, ks)]) = gM st ++ [(x, u)] := by simp [gM]
omit [DecidableEq α] in
theorem gR_snoc (e : TypeId) (f : β → Value) (st : Grps α β) (x : α) (u : Value) (ks : List β) : gR e f (st ++ [(x, u, ks)]) = gR e f st ++ [.row u e 1 ks.length (ks.map f)] := by simp [gR, rowsR]
/-- what a look into the groups gives is a slice of that length -/
theorem Mem.gSlice {w0 : World} {E Z0 Z : Nat → Prop} {wz w : World} {L : List Res} (h : Mem w0 E Z0 Z wz L w) {e : TypeId} {f : β → Value} {st : Grps α β} (hs : ∀ r ∈ gR e f st, r ∈ L) (x : α) : ∃ A c, (aget (gM st) x).getD (.slice none 0 0) = .slice A (gG st x).length c := by
  rcases g_split st x with ⟨s1, u, ks, s2, rfl, hne⟩ | hne
  · rw [gM_mid, (ag_mid (gM_ne hne)).1, gG_mid hne, Option.getD_some]
    have hm : Res.row u e 1 ks.length (ks.map f) ∈ L := hs _ (by rw [gR_mid]; simp)
    rcases (h.own _ hm).2 with ⟨rfl, h0⟩ | ⟨g, cap, cur, rfl, _⟩
    · exact ⟨_, _, by rw [h0]⟩
    · exact ⟨_, _, rfl⟩
  · rw [(ag_none (gM_ne hne)).1, gG_none hne]
    exact ⟨_, _, rfl⟩
end
section
variable {P : Program} {r : Option Nat} {N : Nat} {ds : List Deferred} {ops : Array Oper} {Q : Post} {t : Fm}
variable {w0 : World} {E Z0 Z : Nat → Prop} {wz : World} {L : List Res}
theorem JC_gSlice {α β : Type} [DecidableEq α] {e : TypeId} {f : β → Value} {st : Grps α β} {c : Code} (x : α) (hs : ∀ r ∈ gR e f st, r ∈ L) (h : ∀ A cap, (aget (gM st) x).getD (.slice none 0 0) = .slice A (gG st x).length cap → JC P r N ds c Q t (Mem w0 E Z0 Z wz L)) : JC P r N ds c Q t (Mem w0 E Z0 Z wz L) := fun a w ha hw => by
  obtain ⟨A, cap, hq⟩ := hw.gSlice hs x
  exact h A cap hq a w ha hw
theorem JC_rowSome3 {v : Value} {e : TypeId} {sz n : Nat} {xs : List Value} {c : Code} (hm : Res.row v e sz n xs ∈ L) (hn : 0 < n) (h : ∀ g cap, v = .slice (some ⟨g, 0, none⟩) n cap → n ≤ cap → cap ≤ 9223372036854775807 → JC P r N ds c Q t (Mem w0 E Z0 Z wz L)) : JC P r N ds c Q t (Mem w0 E Z0 Z wz L) := fun a w ha hw => by
  rcases (hw.own _ hm).2 with ⟨rfl, h0⟩ | ⟨g, cap, cur, rfl, _, _, h1, h2, _⟩
  · omega
  · exact h _ _ rfl h1 h2 a w ha hw
theorem JC_perm {c : Code} {L' : List Res} (hp : L.Perm L') (h : JC P r N ds c Q t (Mem w0 E Z0 Z wz L')) : JC P r N ds c Q t (Mem w0 E Z0 Z wz L) := fun a w ha hw => h a w ha (hw.perm hp)
end
end Go.Eng

set_option linter.unusedVariables false
set_option linter.unusedSimpArgs false
namespace Go.Eng
open Go Go.RowKit
/-! ### a range over a function: the call of yield, the statement, the mark -/
def YCall (P : Program) (ll : Nat) (args : Array Value) (w : World) (R : World → Prop) : Prop :=
  ∃ fn tmps assign body, (Instr.yield ll args).run P w = .ok (.round ll fn tmps assign body) w ∧
    RoundIn (FF none) 0 P ll fn tmps assign body w (fun e w' => e = .returned (.bool true) ∧ R w')
def BeginP (P : Program) (ll : Nat) (body : Code) (R : Ending → World → Prop) : Post :=
  Exit.then (fun a₁ w₁ => ∃ w₂, (Instr.beginRound ll).run P w₁ = .ok () w₂ ∧ body.wpIn (FF (some ll)) 0 P (roundPost P ll R) a₁ w₂) (fun _ _ _ => False)
def RngH {β : Type} (w0 : World) (E Z0 : Nat → Prop) (inv : Nat → (Nat → Prop) → World → β → Prop) (S : β → List Res) (D ll : Nat) (lp : Loop) (i : Nat) (w : World) : Prop :=
  ∃ Z' wz' x, inv i Z' wz' x ∧ Mem w0 E Z0 Z' wz' (.blk ll (.loop lp) :: .blk D (.deferred (some [])) :: S x) w
def RngR {β : Type} (w0 : World) (E Z0 : Nat → Prop) (inv : Nat → (Nat → Prop) → World → β → Prop) (S : β → List Res) (D ll : Nat) (lp : Loop) (i : Nat) (e : Ending) (w : World) : Prop :=
  e = .returned (.bool true) ∧ RngH w0 E Z0 inv S D ll lp i w
section
variable {P : Program} {r : Option Nat} {N : Nat} {ds : List Deferred} {ops : Array Oper} {Q : Post} {t : Fm} {rest : List Oper}
variable {w0 : World} {E Z0 Z : Nat → Prop} {wz : World} {L : List Res}
variable {ty : TypeId} {pos : String} {aft : Array Edge} {d : Nat}
theorem st_yield {fo : Operand} {ll : Nat} {l : List Operand} {ats : Array TypeId} {vs : List Value} {M : World → Prop} (M' : World → Prop) (hfo : ev t fo = some (.func (.yield ll) #[] #[])) (hl : evOps t l = some vs) (hd : d < N)
    (hc : ∀ w, M w → YCall P ll vs.toArray w M')
    (h : JL P r N ds ops Q rest ((d, .bool true) :: t) M') :
    JL P r N ds ops Q (⟨some d, .call { callee := .value fo, args := l.toArray, argTypes := ats }, ty, pos, aft, none⟩ :: rest) t M := fun a w ha hw => by
  refine wpListIn_plain rfl fun K hK => ⟨fun _ _ => trivial, ?_⟩
  obtain ⟨fn, tmps, assign, body, hrun, hround⟩ := hc w hw
  have h1 : (execOp a.eval ⟨some d, .call { callee := .value fo, args := l.toArray, argTypes := ats }, ty, pos, aft, none⟩).run P w = .ok (.round ll fn tmps assign body) w := by
    have h2 := evOps_eval ha l vs hl
    unfold execOp
    simp [resolve, Deferred.ofValue, ha.eval hfo, invoke, h2, hrun]
  rw [Oper.semAt_eq _ _ _ (by intro c h; cases h), h1]
  show (_ → _) ∧ _
  refine ⟨fun hh => (by cases hh), ?_⟩
  have h2 : RoundIn (FF r) (0 - 1) P ll fn tmps assign body w (fun e w' => e = .returned (.bool true) ∧ M' w') := hround
  refine h2.mono ?_
  rintro e w' ⟨rfl, hM⟩
  exact hK _ _ (h _ w' (ha.put hd _) hM)
theorem Mem.putHead {w : World} {b : Nat} {o : Obj} {K : List Res} (h : Mem w0 E Z0 Z wz (.blk b o :: K) w) (o' : Obj) : Mem w0 E Z0 Z wz (.blk b o' :: K) (w.putObj b o') := by
  have hb : w.heap[b]? = some o := h.own _ (.head _)
  have hlt : b < w.heap.size := (Array.getElem?_eq_some_iff.1 hb).1
  exact h.turn (.head _ _ _) rfl rfl rfl World.putObj_size (fun k hk => World.putObj_heap_other hk) (World.putObj_heap_same hlt)
theorem Mem.headAt {w : World} {b : Nat} {o : Obj} {K : List Res} (h : Mem w0 E Z0 Z wz (.blk b o :: K) w) : w.heap[b]? = some o := h.own _ (.head _)
theorem JC_rangeFunc {g : Operand} {p q : Nat} {assign body : Code} {gf : FuncId} {ca : Array Value} {β : Type} (n : Nat) (u1 u2 : Nat → Value)
    (inv : Nat → (Nat → Prop) → World → β → Prop) (S : β → List Res) (x0 : β)
    (hg : ev t g = some (.func (.func gf) #[] ca)) (he : Enters P gf) (hp : p < N) (hq : q < N)
    (hL : L = S x0) (h0 : inv 0 Z wz x0)
    (hiter : ∀ (ll : Nat) (H : Nat → World → Prop), (∀ i w, H i w → ∃ Z' wz' x K, inv i Z' wz' x ∧ Mem w0 E Z0 Z' wz' (K ++ S x) w) →
      (∀ i, i < n → ∀ w, H i w → YCall P ll #[u1 i, u2 i] w (H (i + 1))) → ∀ w, H 0 w → Calls P gf (#[.func (.yield ll) #[] #[]] ++ ca) w (fun e w' => (∃ v, e = .returned v) ∧ H n w'))
    (hround : ∀ (D ll : Nat) (lp : Loop) (i : Nat) (Z' : Nat → Prop) (wz' : World) (x : β), lp.state = .ready → lp.pending = none → i < n → inv i Z' wz' x →
      JC P (some ll) N [] assign (BeginP P ll body (RngR w0 E Z0 inv S D ll lp (i + 1))) ((q, u2 i) :: (p, u1 i) :: t) (Mem w0 E Z0 Z' wz' (.blk ll (.loop lp) :: .blk D (.deferred (some [])) :: S x)))
    (hafter : ∀ (D : Nat) (Z' : Nat → Prop) (wz' : World) (x : β), inv n Z' wz' x →
      JX N ({ target := .collected D, args := #[] } :: ds) .normal Q t (Mem w0 E Z0 Z' wz' (.blk D (.deferred (some [])) :: S x))) :
    JC P none N ds (.rangeFunc g #[p, q] assign body) Q t (Mem w0 E Z0 Z wz L) := fun a w ha hw => by
  subst hL
  refine wpIn_rangeFunc fun fn _ => ?_
  obtain ⟨gfn, hf, hn, hb⟩ := he
  let lp : Loop := { state := .ready, pending := none, fn := fn, tmps := a.tmps, params := #[p, q], assign := assign, body := body, defers := w.heap.size }
  let w1 := w.alloc (.deferred (some []))
  let w2 := w1.alloc (.loop lp)
  have hm1 : Mem w0 E Z0 Z wz (.blk w.heap.size (.deferred (some [])) :: S x0) w1 := hw.alloc _
  have hs1 : w1.heap.size = w.heap.size + 1 := w.size_alloc _
  have hm2 : Mem w0 E Z0 Z wz (.blk (w.heap.size + 1) (.loop lp) :: .blk w.heap.size (.deferred (some [])) :: S x0) w2 := by
    have := hm1.alloc (.loop lp)
    rw [hs1] at this
    exact this
  refine ⟨w.heap.size + 1, [{ target := .collected w.heap.size, args := #[] }], w2, { target := .fn (.func gf) ca, args := #[.func (.yield (w.heap.size + 1)) #[] #[]] }, w2, gf, #[.func (.yield (w.heap.size + 1)) #[] #[]] ++ ca, w2, run_enterLoop_outer fn a.tmps #[p, q] assign body, ?_, fun _ _ => trivial, ?_, (fun h => by cases h), ?_⟩
  · show (Deferred.ofValue (a.eval g) _).run P w2 = _
    rw [ha.eval hg]
    simp [Deferred.ofValue, rangeCall, Act.eval]
  · show (callFunc gf _).run P w2 = _
    exact run_enter hf hn hb _
  refine CallsIn.mono ((callsIn_wide (n := 0 - 1)).2 (hiter (w.heap.size + 1) (RngH w0 E Z0 inv S w.heap.size (w.heap.size + 1) lp) ?_ ?_ w2 ⟨Z, wz, x0, h0, hm2⟩)) ?_
  · rintro i w' ⟨Z', wz', x, hi, hm⟩
    exact ⟨Z', wz', x, [_, _], hi, hm⟩
  · rintro i hi w' ⟨Z', wz', x, hinv, hm⟩
    refine ⟨_, _, _, _, run_yield hm.headAt (by rfl), ?_⟩
    refine roundIn_of_wpIn (F := FF none) (n := 0) trivial ?_
    have := hround w.heap.size (w.heap.size + 1) lp i Z' wz' x rfl rfl hi hinv
    refine this _ w' ?_ hm
    have ha' : Fr N [] t { tmps := a.tmps, defers := [] } := ⟨ha.size, rfl, ha.get⟩
    have h2 := (ha'.put hp (u1 i)).put hq (u2 i)
    have h3 : ((#[p, q] : Array Nat).zip #[u1 i, u2 i]).foldl (fun tmps (x : Nat × Value) => tmps.setIfInBounds x.1 x.2) a.tmps = (a.tmps.setIfInBounds p (u1 i)).setIfInBounds q (u2 i) := by simp
    exact h3 ▸ h2
  · rintro e w' ⟨⟨v, rfl⟩, Z', wz', x, hinv, hm⟩
    refine ⟨_, _, run_endLoop hm.headAt (by intro h; cases h), ?_⟩
    have hm' := hm.putHead (.loop { lp with state := .exhausted })
    have hm'' : Mem w0 E Z0 Z' wz' (.blk w.heap.size (.deferred (some [])) :: S x) _ := hm'.sub (List.sublist_cons_self _ _)
    exact hafter w.heap.size Z' wz' x hinv _ _ ⟨ha.size, by show _ ++ a.defers = _; rw [ha.defers]; rfl, ha.get⟩ hm''
theorem JX_begin {ll : Nat} {lp : Loop} {body : Code} {R : Ending → World → Prop} {K : List Res} (hs : lp.state = .ready)
    (h : JC P (some ll) N [] body (roundPost P ll R) t (Mem w0 E Z0 Z wz (.blk ll (.loop { lp with state := .busy }) :: K))) :
    JX N [] .normal (BeginP P ll body R) t (Mem w0 E Z0 Z wz (.blk ll (.loop lp) :: K)) := fun a w ha hw =>
  ⟨_, run_beginRound hw.headAt hs, h a _ ha (hw.putHead _)⟩
theorem JX_round {β : Type} {inv : Nat → (Nat → Prop) → World → β → Prop} {S : β → List Res} {D ll : Nat} {lp : Loop} {i : Nat} {K : List Res} (hs : lp.state = .ready) (hp : lp.pending = none) (y : β) (hi : inv i Z wz y) (hK : K = .blk D (.deferred (some [])) :: S y) :
    JX N [] .normal (roundPost P ll (RngR w0 E Z0 inv S D ll lp i)) t (Mem w0 E Z0 Z wz (.blk ll (.loop { lp with state := .busy }) :: K)) := fun a w ha hw => by
  subst hK
  refine ⟨_, _, run_endRound none hw.headAt, rfl, Z, wz, y, hi, ?_⟩
  have := hw.putHead (.loop lp)
  obtain ⟨st, pe, f1, f2, f3, f4, f5, f6⟩ := lp
  cases hs; cases hp
  exact this
/-! ### functions that hold such a statement -/
theorem enterM {f : FuncId} {fn : Func} {c : Code} {args : Array Value} {R : Ending → World → Prop} {M : World → Prop} (hf : P.funcs[f]? = some fn) (hb : fn.body = some c) (hN : fn.ntmps = N) (ha : args.size ≤ N) (t : Fm) (ht : startF args t) (hM : M w0)
    (h : JC P none N [] c (bodyPostM Fence.wide 0 P fn R) t M) : Calls P f args w0 R := by
  refine callsIn_wide.1 (callsIn_of_wp_marks (n := 0) (F := Fence.wide) hf hb trivial (h _ _ ⟨?_, rfl, ?_⟩ hM) rfl)
  · simp [hN]; omega
  · intro i v hv
    have := ht.look i v hv
    have hlt := (Array.getElem?_eq_some_iff.1 this).1
    show (args ++ Array.replicate _ undef)[i]? = some v
    rw [Array.getElem?_append_left hlt]
    exact this
theorem JX_retM0 {fn : Func} {R : Ending → World → Prop} {M : World → Prop} (h : JX N [] .ret (bodyPost P fn R) t M) : JX N [] .ret (bodyPostM Fence.wide 0 P fn R) t M := fun a w ha hw => by
  have h1 := h a w ha hw
  show LeavesInM _ _ _ _ _ _ a.defers _ _
  rw [ha.defers]
  exact h1.2
theorem JX_retM1 {fn : Func} {R : Ending → World → Prop} {D : Nat} {K : List Res} (h : JX N [] .ret (bodyPost P fn R) t (Mem w0 E Z0 Z wz (.blk D (.deferred none) :: K))) :
    JX N [{ target := .collected D, args := #[] }] .ret (bodyPostM Fence.wide 0 P fn R) t (Mem w0 E Z0 Z wz (.blk D (.deferred (some [])) :: K)) := fun a w ha hw => by
  show LeavesInM _ _ _ _ _ _ a.defers _ _
  rw [ha.defers]
  refine ⟨nofun, .inl ⟨D, _, rfl, run_takeDeferred hw.headAt, ?_⟩⟩
  exact (h { a with defers := [] } _ ⟨ha.size, rfl, ha.get⟩ (hw.putHead _)).2
end
end Go.Eng

set_option linter.unusedVariables false
set_option linter.unusedSimpArgs false
namespace Go.Eng
open Go Go.RowKit
/-! ### calls that turn things held AND leave new blocks standing still -/
def NX (w w' : World) (L' : List Res) : Nat → Prop := fun b => w.heap.size ≤ b ∧ b < w'.heap.size ∧ ∀ r ∈ L', r.foot ≠ some b
def XCalls (P : Program) (f : FuncId) (args : Array Value) (w : World) (L : List Res) (R : Value → List Res → (Nat → Prop) → World → Prop) : Prop :=
  Calls P f args w fun e w' => ∃ v L', e = .returned v ∧ Moves L L' w w' ∧ R v L' (NX w w' L') w'
def GrowsX (R : Value → List Res → (Nat → Prop) → World → Prop) : Prop := ∀ v L' (Z Z' : Nat → Prop) (w : World), (∀ b, Z b → Z' b) → R v L' Z w → R v L' Z' w
section
variable {w0 : World} {E Z0 Z : Nat → Prop} {wz : World} {L K : List Res} {w : World}
theorem Mem.movesX (h : Mem w0 E Z0 Z wz (L ++ K) w) {L' : List Res} {w' : World} (hm : Moves L L' w w') : Mem w0 E Z0 (fun b => Z b ∨ NX w w' L' b) w' (L' ++ K) w' := by
  have h1 := h.moves hm
  have hs := h.size
  have hs0 := h.size0
  have hks := hm.keeps.size
  refine ⟨h1.os, h1.tape, h1.output, by omega, Nat.le_refl _, h1.base, fun _ _ _ h => h, ?_, h1.zlt, h1.own, ?_, h1.nodup⟩
  · rintro b (hb | hb)
    · rcases h1.zb b hb with h2 | h2
      · exact .inl h2
      · exact .inr ⟨h2.1, by omega⟩
    · exact .inr ⟨by have := hb.1; omega, hb.2.1⟩
  · intro r hr b hb
    refine ⟨?_, (h1.sep r hr b hb).2⟩
    rintro (hz | hz)
    · exact (h1.sep r hr b hb).1 hz
    · rcases List.mem_append.1 hr with hr' | hr'
      · exact hz.2.2 r hr' hb
      · have := Res.foot_lt (h.own r (List.mem_append_right _ hr')) hb
        have := hz.1
        omega
theorem Mem.ext_movesX (h : Mem w0 E Z0 Z wz (L ++ K) w) {L' : List Res} {w' : World} (hm : Moves L L' w w') : Ext Z wz (fun b => Z b ∨ NX w w' L' b) w' :=
  ⟨fun b o hf => ⟨.inl hf.z, (h.moves hm).frz b o hf.z hf.at_⟩⟩
/-- THE END of such a call -/
theorem Mem.ext_X {w0 w : World} {Z0 Z : Nat → Prop} {L' : List Res} (h : Mem w0 E Z0 Z wz L' w) : Ext (NZ w0.heap.size Z) wz (NX w0 w L') w :=
  ⟨fun b o hf => ⟨⟨hf.z.2, h.zlt' b hf.z.1, fun r hr hb => (h.sep r hr b hb).1 hf.z.1⟩, h.frz b o hf.z.1 hf.at_⟩⟩
theorem X_end {L L' : List Res} {w0 w : World} {Z0 Z : Nat → Prop} {R : Value → List Res → (Nat → Prop) → World → Prop} {v : Value} (h : Mem w0 (EL L) Z0 Z wz L' w) (hR : Ext (NZ w0.heap.size Z) wz (NX w0 w L') w → R v L' (NX w0 w L') w) :
    ∃ u L'', Ending.returned v = .returned u ∧ Moves L L'' w0 w ∧ R u L'' (NX w0 w L'') w := ⟨v, L', rfl, h.movesEnd, hR h.ext_X⟩
theorem X_end2 {L L' : List Res} {w0 w : World} {Z0 Z : Nat → Prop} {R : Value → List Res → (Nat → Prop) → World → Prop} {v : Value} (h : Mem w0 (EL L) Z0 Z wz L' w) (hR : Ext (NZ w0.heap.size Z) wz (NX w0 w L') w → (∀ b, Z b → w0.heap.size ≤ b → NX w0 w L' b) → R v L' (NX w0 w L') w) :
    ∃ u L'', Ending.returned v = .returned u ∧ Moves L L'' w0 w ∧ R u L'' (NX w0 w L'') w := ⟨v, L', rfl, h.movesEnd, hR h.ext_X fun b hz hb => ⟨hb, h.zlt' b hz, fun r hr hf => (h.sep r hr b hf).1 hz⟩⟩
end
section
variable {P : Program} {r : Option Nat} {N : Nat} {ds : List Deferred} {ops : Array Oper} {Q : Post} {t : Fm} {rest : List Oper}
variable {w0 : World} {E Z0 Z : Nat → Prop} {wz : World} {L K : List Res}
variable {ty : TypeId} {pos : String} {aft : Array Edge} {d : Nat}
theorem st_xcall {f : FuncId} {l : List Operand} {ats : Array TypeId} {vs : List Value} {R : Value → List Res → (Nat → Prop) → World → Prop} (L0 K : List Res) (hLK : L = L0 ++ K)
    (hl : evOps t l = some vs) (he : Enters P f) (hd : d < N)
    (hc : ∀ w, Mem w0 E Z0 Z wz (L0 ++ K) w → XCalls P f vs.toArray w L0 R)
    (h : ∀ v L' (F Z' : Nat → Prop) wz', R v L' F wz' → Ext Z wz Z' wz' → (∀ b, F b → Z' b ∧ ¬ Z b ∧ w0.heap.size ≤ b) → (∀ b, Z b → Z' b) → JL P r N ds ops Q rest ((d, v) :: t) (Mem w0 E Z0 Z' wz' (L' ++ K))) :
    JL P r N ds ops Q (⟨some d, .call { callee := .value (.func f), args := l.toArray, argTypes := ats }, ty, pos, aft, none⟩ :: rest) t (Mem w0 E Z0 Z wz L) := by
  subst hLK
  exact st_call (β := { x : Value × List Res × (Nat → Prop) × (Nat → Prop) × World // R x.1 x.2.1 x.2.2.1 x.2.2.2.2 ∧ Ext Z wz x.2.2.2.1 x.2.2.2.2 ∧ (∀ b, x.2.2.1 b → x.2.2.2.1 b ∧ ¬ Z b ∧ w0.heap.size ≤ b) ∧ ∀ b, Z b → x.2.2.2.1 b })
    (fun x => x.1.1) (fun x => Mem w0 E Z0 x.1.2.2.2.1 x.1.2.2.2.2 (x.1.2.1 ++ K)) hl he hd
    (fun w hw => Calls.mono (hc w hw) fun e w' ⟨v, L', he', hm, hR⟩ => ⟨⟨(v, L', _, _, w'), hR, hw.ext_movesX hm, fun b hb => ⟨.inr hb, fun hz => by have := hw.zlt' b hz; have := hb.1; omega, by have := hw.size; have := hw.size0; have := hb.1; omega⟩, fun b hb => .inl hb⟩, he', hw.movesX hm⟩)
    (fun x => h _ _ _ _ _ x.2.1 x.2.2.1 x.2.2.2.1 x.2.2.2.2)
/-- a call whose result hangs on what it has laid itself alone: that lies apart from blocks laid before -/
theorem st_fcallX (F : Nat → Prop) (hF : ∀ w, Mem w0 E Z0 Z wz L w → ∀ b, F b → b < w.heap.size) {f : FuncId} {l : List Operand} {ats : Array TypeId} {vs : List Value} {R : (Nat → Prop) → World → Value → Prop} (hl : evOps t l = some vs) (he : Enters P f) (hd : d < N) (hG : Grows R)
    (hc : ∀ w, Mem w0 E Z0 Z wz L w → FCalls P f vs.toArray w R)
    (h : ∀ v Z' wz', Ext Z wz Z' wz' → R (fun b => Z' b ∧ ¬ F b) wz' v → JL P r N ds ops Q rest ((d, v) :: t) (Mem w0 E Z0 Z' wz' L)) :
    JL P r N ds ops Q (⟨some d, .call { callee := .value (.func f), args := l.toArray, argTypes := ats }, ty, pos, aft, none⟩ :: rest) t (Mem w0 E Z0 Z wz L) :=
  st_call (β := { x : Value × (Nat → Prop) × World // Ext Z wz x.2.1 x.2.2 ∧ R (fun b => x.2.1 b ∧ ¬ F b) x.2.2 x.1 }) (fun x => x.1.1) (fun x => Mem w0 E Z0 x.1.2.1 x.1.2.2 L) hl he hd
    (fun w hw => Calls.mono (hc w hw) fun e w' ⟨v, he', hb, hR⟩ => ⟨⟨(v, _, w'), hw.ext_call hb, hG _ _ _ _ (fun b hb => ⟨.inr hb, fun hf => by have := hF w hw b hf; have := hb.1; omega⟩) hR⟩, he', hw.call hb⟩)
    (fun x => h _ _ _ x.2.1 x.2.2)
/-- a new block, above all that stands still -/
theorem st_allocN {et : TypeId} {z : Value} (hz : (P.info? et).bind (·.zero) = some z) (hd : d < N) (h : ∀ b, (∀ k, Z k → k < b) → JL P r N ds ops Q rest ((d, .pointer (some ⟨b, 0, none⟩)) :: t) (Mem w0 E Z0 Z wz (.blk b (.cells z.cells et (0, 0)) :: L))) :
    JL P r N ds ops Q (⟨some d, .alloc et, ty, pos, aft, none⟩ :: rest) t (Mem w0 E Z0 Z wz L) :=
  JL_op (β := { b : Nat // ∀ k, Z k → k < b }) (fun b => .pointer (some ⟨b.1, 0, none⟩)) (fun b => Mem w0 E Z0 Z wz (.blk b.1 (.cells z.cells et (0, 0)) :: L)) rfl nofun rfl hd (fun a w ha hw => by
    obtain ⟨inf, hinf, hz'⟩ := Option.bind_eq_some_iff.1 hz
    refine ⟨⟨w.heap.size, hw.zlt'⟩, w.alloc (.cells z.cells et), ?_, hw.alloc _⟩
    unfold execOp
    simp [Instr.alloc, zeroValue, typeInfo, hinf, hz', newVar, newRow]) (fun b => h b.1 b.2)
end
/-! ### what stood still is written over -/
def Minus (Z F : Nat → Prop) : Nat → Prop := fun b => Z b ∧ ¬ F b
theorem Ext.minus {Z Z' : Nat → Prop} {w w' : World} (h : Ext Z w Z' w') (F : Nat → Prop) : Ext (Minus Z F) w (Minus Z' F) w' := ⟨fun b o hf => by
  have := h.fb b o ⟨hf.z.1, hf.at_⟩
  exact ⟨⟨this.z, hf.z.2⟩, this.at_⟩⟩
theorem Ext.unMinus (Z F : Nat → Prop) (w : World) : Ext (Minus Z F) w Z w := Ext.sub fun _ h => h.1
section
variable {w0 : World} {E Z0 Z : Nat → Prop} {wz : World} {L K : List Res} {w : World}
theorem Mem.spoil (h : Mem w0 E Z0 Z wz L w) {F : Nat → Prop} (hF : ∀ b, F b → Z b ∧ w0.heap.size ≤ b) {w' : World} (hk : Keeps F w w') : Mem w0 E Z0 Z w' L w' := by
  have hs := h.size
  have hs0 := h.size0
  have hks := hk.size
  refine ⟨hk.os.trans h.os, hk.tape.trans h.tape, hk.output.trans h.output, by omega, Nat.le_refl _, ?_, fun _ _ _ h => h, ?_, h.zlt, ?_, h.sep, h.nodup⟩
  · intro k hk' hE
    rw [hk.block k (by omega) (fun hf => by have := (hF k hf).2; omega)]
    exact h.base k hk' hE
  · intro b hb
    rcases h.zb b hb with h1 | h1
    · exact .inl h1
    · exact .inr ⟨h1.1, by omega⟩
  · intro r hr
    refine Res.holds_keep (fun b hb => hk.block b (Res.foot_lt (h.own r hr) hb) (fun hf => (h.sep r hr b hb).1 (hF b hf).1)) (h.own r hr)
theorem Mem.ext_spoil (h : Mem w0 E Z0 Z wz L w) {F : Nat → Prop} {w' : World} (hk : Keeps F w w') : Ext (Minus Z F) wz (Minus Z F) w' := ⟨fun b o hf =>
  ⟨hf.z, by rw [hk.block b (h.zlt' b hf.z.1) hf.z.2]; exact h.frz b o hf.z.1 hf.at_⟩⟩
end
end Go.Eng

set_option linter.unusedVariables false
set_option linter.unusedSimpArgs false
namespace Go.Eng
open Go Go.RowKit
def nilS : Value := .slice none 0 0
def wone : ByteArray := ⟨#[60, 111, 110, 101, 62]⟩
def wtwo : ByteArray := ⟨#[60, 116, 119, 111, 62]⟩
def wordP (i : Int) : ByteArray := if i % 2 = 0 then wone else wtwo
theorem sliced_zero {b o h c sz : Nat} : Go.sliced (some ⟨b, o, none⟩) 0 h c sz = .slice (some ⟨b, o, none⟩) h c := by
  unfold Go.sliced
  simp [Addr.add]
section
variable {P : Program} {N : Nat} {ds : List Deferred} {t : Fm} {M : World → Prop} {ty : TypeId} {pos : String} {aft : Array Edge} {d : Nat}
theorem vo_sliceHM0 {xt e : TypeId} {x hi mx : Operand} {b o n c sz : Nat} {k k' : IntKind} {h m : Int} (hx : ev t x = some (.slice (some ⟨b, o, none⟩) n c)) (hhi : ev t hi = some (.int k h)) (hmx : ev t mx = some (.int k' m)) (hu : P.underlying xt = some (.slice e)) (hz : (P.info? e).map (·.size) = some sz)
    (h0 : 0 ≤ h) (h1 : h ≤ m) (h2 : m ≤ c) : ValOf P N ds t M ⟨some d, .slice xt x none (some hi) (some mx), ty, pos, aft, none⟩ (.slice (some ⟨b, o, none⟩) h.toNat m.toNat) := by
  have := vo_sliceHM (P := P) (N := N) (ds := ds) (M := M) (ty := ty) (pos := pos) (aft := aft) (d := d) hx hhi hmx hu hz h0 h1 h2
  rwa [sliced_zero] at this
end
section
variable {P : Program} {r : Option Nat} {N : Nat} {ds : List Deferred} {ops : Array Oper} {Q : Post} {t : Fm} {rest : List Oper}
variable {w0 : World} {E Z0 Z : Nat → Prop} {wz : World} {L : List Res}
variable {ty : TypeId} {pos : String} {aft : Array Edge} {d : Nat}
/-- a row that is not empty, with what its room allows -/
theorem JL_rowSome2 {v : Value} {e : TypeId} {sz n : Nat} {xs : List Value} {l : List Oper} (hm : Res.row v e sz n xs ∈ L) (hn : 0 < n) (h : ∀ g c, v = .slice (some ⟨g, 0, none⟩) n c → n ≤ c → c ≤ 9223372036854775807 → JL P r N ds ops Q l t (Mem w0 E Z0 Z wz L)) : JL P r N ds ops Q l t (Mem w0 E Z0 Z wz L) := fun a w ha hw => by
  rcases (hw.own _ hm).2 with ⟨rfl, h0⟩ | ⟨g, cap, cur, rfl, _, _, hc, hm, _⟩
  · omega
  · exact h _ _ rfl hc hm a w ha hw
/-- '[]T{}' of nothing, and where it stands -/
theorem st_bslice0N {bt e : TypeId} {z : Value} {sz : Nat} (hu : P.underlying bt = some (.slice e)) (hz : (P.info? e).bind (·.zero) = some z) (hs : (P.info? e).map (·.size) = some sz) (hle : sz ≤ 16777216) (hd : d < N)
    (h : ∀ v, (∀ b, v.ownBlock = some b → w0.heap.size ≤ b) → JL P r N ds ops Q rest ((d, v) :: t) (Mem w0 E Z0 Z wz (.row v e sz 0 [] :: L))) :
    JL P r N ds ops Q (⟨some d, .buildSlice bt 0 #[], ty, pos, aft, none⟩ :: rest) t (Mem w0 E Z0 Z wz L) :=
  JL_op (β := { b : Nat // w0.heap.size ≤ b }) (fun b => .slice (some ⟨b.1, 0, none⟩) 0 0) (fun b => Mem w0 E Z0 Z wz (.row (.slice (some ⟨b.1, 0, none⟩) 0 0) e sz 0 [] :: L)) rfl nofun rfl hd (fun a w ha hw => by
    obtain ⟨inf, hinf, hz'⟩ := Option.bind_eq_some_iff.1 hz
    have hsz : inf.size = sz := by simpa [hinf] using hs
    refine ⟨⟨w.heap.size, by have := hw.size; have := hw.size0; omega⟩, w.alloc (.cells #[] e), ?_, by simpa using (hw.alloc (.cells #[] e)).toRow (n := 0) (sz := sz) (by simp) (by omega)⟩
    unfold execOp
    have hle' : ¬ sz > 2 ^ 24 := by omega
    simp [Instr.buildSlice, run_underlying hu, sizeOf, typeInfo, hinf, hsz, hle', zeroValue, hz', newRow, Instr.fill]
    rw [Array.eq_empty_of_size_eq_zero (xs := Array.map (fun _ => default) (Array.range 0)) (by simp)]) (fun b => h _ (fun b' hb' => by
      have : b.1 = b' := by simpa [Value.ownBlock] using hb'
      have := b.2
      omega))
/-- append, and where the row stands now -/
theorem st_appendBN {x y : Operand} {v : Value} {t0 e b2 m c2 sz bytes n : Nat} {z : Value} {xs : List Value} {cs : Array Value} {te : TypeId} {fr : Nat × Nat} {L' : Value → List Res} (hx : ev t x = some v) (hy : ev t y = some (.slice (some ⟨b2, 0, none⟩) m c2))
    (hu : P.underlying t0 = some (.slice e)) (hi : (P.info? e).map (fun i => (i.zero, i.size, i.bytes)) = some (some z, sz, bytes)) (hz : z.cells.size = sz) (hsz : 0 < sz)
    (hb : Has Z wz L b2 (.cells cs te fr)) (ht' : TurnF (.row v e sz n xs) (fun v' => .row v' e sz (n + m) (xs ++ cs.toList)) L L') (hn : cs.size = m * sz) (h1 : ∀ u ∈ cs.toList, u.oneCell' = true)
    (hlen : n + m ≤ 1000000000) (hby : bytes ≤ 100000) (hd : d < N)
    (h : ∀ v', (∀ b, v'.ownBlock = some b → v.ownBlock = some b ∨ w0.heap.size ≤ b) → JL P r N ds ops Q rest ((d, v') :: t) (Mem w0 E Z0 Z wz (L' v'))) :
    JL P r N ds ops Q (⟨some d, .call { callee := .builtin .append, args := #[x, y], argTypes := #[t0, t0] }, ty, pos, aft, none⟩ :: rest) t (Mem w0 E Z0 Z wz L) :=
  JL_op (β := { v' : Value // ∀ b, v'.ownBlock = some b → v.ownBlock = some b ∨ w0.heap.size ≤ b }) (fun v' => v'.1) (fun v' => Mem w0 E Z0 Z wz (L' v'.1)) rfl nofun rfl hd (fun a w ha hw => by
    have ht := ht'.turn
    obtain ⟨inf, hinf, hzz⟩ := Option.map_eq_some_iff.1 hi
    simp only [Prod.mk.injEq] at hzz
    have hown : w.ownsRow 0 e sz v n xs := hw.own _ (ht v).mem
    have hbl := hw.has hb
    have hml : n + m ≤ maxLen := by simp only [maxLen]; omega
    have hmul : (n + m) * bytes ≤ 140737488355328 := Nat.le_trans (Nat.mul_le_mul hlen hby) (by decide)
    obtain ⟨v', w', hr, ho, hg, _, hat⟩ := run_append_own_at (P := P) w 0 t0 ty e inf z sz bytes hu hinf hzz.1 hzz.2.1 hzz.2.2 hz hsz v n xs hown ⟨b2, 0, none⟩ m c2 cs.toList (by simpa using hn)
      (fun j u hu => by rw [Addr.add_mid, cell_cells hbl]; simpa using hu) h1 hml hmul (by omega)
    refine ⟨⟨v', fun b hb => ?_⟩, w', ?_, hw.turnRow (ht v') ho hg hat⟩
    · rcases hat with h2 | h2
      · exact .inl (h2 ▸ hb)
      · have : b = w.heap.size := by
          have : some b = some w.heap.size := hb.symm.trans h2
          simpa using this
        have := hw.size; have := hw.size0
        exact .inr (by omega)
    · unfold execOp
      simp [resolve, invoke, builtin, ha.eval hx, ha.eval hy, hr]) (fun v' => h v'.1 v'.2)
/-- a row of the call's own left to stand still, with its block -/
theorem Mem.freezeLaid {w : World} (h : Mem w0 E Z0 Z wz L w) {g n cap sz : Nat} {e : TypeId} {xs : List Value} {L' : List Res} (hd : Del L (.row (.slice (some ⟨g, 0, none⟩) n cap) e sz n xs) L') (hg : w0.heap.size ≤ g) :
    ∃ Z' cur, Mem w0 E Z0 Z' w L' w ∧ Ext Z wz Z' w ∧ (∀ b, Z b → Z' b) ∧ Z' g ∧ ¬ Z g ∧ w.heap[g]? = some (.cells cur e (0, 0)) ∧ xs.length = n * sz ∧ n * sz ≤ cur.size ∧ ∀ (i : Nat) (u : Value), xs[i]? = some u → cur[i]? = some u := by
  have hown : w.ownsRow 0 e sz (.slice (some ⟨g, 0, none⟩) n cap) n xs := h.own _ hd.mem
  obtain ⟨hl, h1 | ⟨g', cap', cur, h1, _, hg', hnc, hcm, hcs, htk⟩⟩ := hown
  · cases h1.1
  · cases h1
    have hnz : ¬ Z g := (h.sep _ hd.mem g rfl).1
    have hle : n * sz ≤ cur.size := by
      have := congrArg List.length htk
      simp at this
      omega
    refine ⟨_, cur, h.freeze rfl hd hg, h.ext_freeze g, fun b hb => .inl hb, .inr rfl, hnz, hg', hl, hle, fun i u hu => ?_⟩
    have hi := (List.getElem?_eq_some_iff.1 hu).1
    rw [← Array.getElem?_toList, ← hu, ← htk, List.getElem?_take, if_pos (by omega)]
theorem JL_freezeLaid {g n cap sz : Nat} {e : TypeId} {xs : List Value} {L' : List Res} {l : List Oper} (hd : Del L (.row (.slice (some ⟨g, 0, none⟩) n cap) e sz n xs) L') (hg : w0.heap.size ≤ g)
    (h : ∀ Z' wz' cur, Ext Z wz Z' wz' → (∀ b, Z b → Z' b) → Z' g → ¬ Z g → wz'.heap[g]? = some (.cells cur e (0, 0)) → xs.length = n * sz → n * sz ≤ cur.size → (∀ (i : Nat) (u : Value), xs[i]? = some u → cur[i]? = some u) → JL P r N ds ops Q l t (Mem w0 E Z0 Z' wz' L')) : JL P r N ds ops Q l t (Mem w0 E Z0 Z wz L) := fun a w ha hw => by
  obtain ⟨Z', cur, h1, h2, h3, h4, h5, h6, h7, h8, h9⟩ := hw.freezeLaid hd hg
  exact h Z' w cur h2 h3 h4 h5 h6 h7 h8 h9 a w ha h1
theorem JL_freezeItemsN {α : Type} {f : α → List Value} {sz : Nat} (hf : ∀ x, (f x).length = sz) {v : Value} {e : TypeId} {x : List α} {L' : List Res} {l : List Oper} (hd : Del L (.row v e sz x.length (x.flatMap f)) L')
    (h : ∀ Z' wz', Ext Z wz Z' wz' → RItems (NZ w0.heap.size Z') wz' sz f x v → JL P r N ds ops Q l t (Mem w0 (fun _ => False) Z0 Z' wz' L')) : JL P r N ds ops Q l t (Mem w0 (fun _ => False) Z0 Z wz L) := fun a w ha hw => by
  have hb : ∀ g, v.ownBlock = some g → w0.heap.size ≤ g := fun g hg => ((hw.sep _ hd.mem g hg).2).elim id (fun h => h.elim)
  obtain ⟨Z', h1, h2, A, c, rfl, h4, h5, h6⟩ := hw.freezeItems hf hd hb
  refine h Z' w h2 ⟨A, c, rfl, h4, h5, ?_⟩ a w ha h1
  rcases h6 with h6 | ⟨b, o, cs, te, fr, rfl, hfb, hc⟩
  · exact .inl h6
  · exact .inr ⟨b, o, cs, te, fr, rfl, ⟨⟨hfb.z, hb b rfl⟩, hfb.at_⟩, hc⟩
theorem JL_freezeItemsN' {α : Type} {f : α → List Value} {sz n : Nat} (hf : ∀ x, (f x).length = sz) {v : Value} {e : TypeId} {x : List α} {L' : List Res} {l : List Oper} (hn : x.length = n) (hd : Del L (.row v e sz n (x.flatMap f)) L')
    (h : ∀ Z' wz', Ext Z wz Z' wz' → RItems (NZ w0.heap.size Z') wz' sz f x v → JL P r N ds ops Q l t (Mem w0 (fun _ => False) Z0 Z' wz' L')) : JL P r N ds ops Q l t (Mem w0 (fun _ => False) Z0 Z wz L) :=
  JL_freezeItemsN hf (by rw [hn]; exact hd) h
end
end Go.Eng

set_option linter.unusedVariables false
set_option linter.unusedSimpArgs false
namespace Go.Eng
open Go Go.RowKit
section
variable {P : Program} {r : Option Nat} {N : Nat} {ds : List Deferred} {ops : Array Oper} {Q : Post} {t : Fm} {rest : List Oper} {M : World → Prop} {F : World → Prop} {m fuel : Nat} {listed : Array Bool}
variable {w0 : World} {E Z0 Z : Nat → Prop} {wz : World} {L : List Res}
variable {ty : TypeId} {pos : String} {aft : Array Edge} {d : Nat} {g : Option (Nat × Bool)} {e : Exit}
theorem JK_val {i d : Nat} {op : Op} {ty : TypeId} {pos : String} {aft : Array Edge} {v : Value} (hi : ops[i]? = some ⟨some d, op, ty, pos, aft, none⟩) (hd : d < N) (hv : ValOf P N ds t M ⟨some d, op, ty, pos, aft, none⟩ v) (hF : ∀ w, M w → F w)
    (h : JR P N ds ops Q F m fuel (listed.setIfInBounds i true) ((d, v) :: t) M) : JK P N ds ops Q F m fuel listed t M i :=
  JK_op (β := Unit) (fun _ => v) (fun _ => M) hi rfl hd trivial (fun a w ha hw => ⟨(), w, hv a w ha hw, hw⟩) (fun _ w hw => hF w hw) (fun _ => h)
theorem JK_fcall {i : Nat} {f : FuncId} {l : List Operand} {ats : Array TypeId} {vs : List Value} {R : (Nat → Prop) → World → Value → Prop} (hi : ops[i]? = some ⟨some d, .call { callee := .value (.func f), args := l.toArray, argTypes := ats }, ty, pos, aft, g⟩)
    (hw : Wants ops t g) (hl : evOps t l = some vs) (he : Enters P f) (hd : d < N) (hG : Grows R)
    (hc : ∀ w, Mem w0 E Z0 Z wz L w → FCalls P f vs.toArray w R) (hF : ∀ Z' wz' w, Ext Z wz Z' wz' → Mem w0 E Z0 Z' wz' L w → F w)
    (h : ∀ v Z' wz', Ext Z wz Z' wz' → R (NZ w0.heap.size Z') wz' v → JR P N ds ops Q F m fuel (listed.setIfInBounds i true) ((d, v) :: t) (Mem w0 E Z0 Z' wz' L)) : JK P N ds ops Q F m fuel listed t (Mem w0 E Z0 Z wz L) i :=
  JK_call (β := { x : Value × (Nat → Prop) × World // Ext Z wz x.2.1 x.2.2 ∧ R (NZ w0.heap.size x.2.1) x.2.2 x.1 }) (fun x => x.1.1) (fun x => Mem w0 E Z0 x.1.2.1 x.1.2.2 L) hi rfl hd hw (fun a w ha _ => run_call hl he a w ha)
    (fun w hw => Calls.mono (hc w hw) fun e w' ⟨v, he', hb, hR⟩ => ⟨⟨(v, _, w'), hw.ext_call hb, hG _ _ _ _ (fun b hb => ⟨.inr hb, by have := hw.size; have := hw.size0; have := hb.1; omega⟩) hR⟩, he', hw.call hb⟩)
    (fun x w' h => hF _ _ w' x.2.1 h) (fun x => h _ _ _ x.2.1 x.2.2)
theorem JR_rowSome2 {v : Value} {e : TypeId} {sz n : Nat} {xs : List Value} (hm : Res.row v e sz n xs ∈ L) (hn : 0 < n) (h : ∀ g c, v = .slice (some ⟨g, 0, none⟩) n c → n ≤ c → c ≤ 9223372036854775807 → xs.length = n * sz → JR P N ds ops Q F m fuel listed t (Mem w0 E Z0 Z wz L)) : JR P N ds ops Q F m fuel listed t (Mem w0 E Z0 Z wz L) := fun a w ha hw => by
  obtain ⟨hl, h1⟩ := hw.own _ hm
  rcases h1 with ⟨rfl, h0⟩ | ⟨g, cap, cur, rfl, _, _, hc, hm, _⟩
  · omega
  · exact h _ _ rfl hc hm hl a w ha hw
theorem JX_sub {L' : List Res} (hs : List.Sublist L' L) (h : JX N ds e Q t (Mem w0 E Z0 Z wz L')) : JX N ds e Q t (Mem w0 E Z0 Z wz L) := fun a w ha hw => h a w ha (hw.sub hs)
theorem run_equalIn_bool (dd : Nat) {xt : TypeId} {a b : Bool} (hu : P.underlying xt = some .bool) (w : World) : (Op.equalIn (dd + 1) xt (.bool a) (.bool b)).run P w = .ok (a == b) w := by
  simp [Op.equalIn, run_underlying hu]
theorem vo_eqBool {op : BinOp} {xt yt : TypeId} {x y : Operand} {a b c : Bool} (hx : ev t x = some (.bool a)) (hy : ev t y = some (.bool b)) (hu : P.underlying xt = some .bool)
    (hop : (match op with | .eql => some (a == b) | .neq => some (a != b) | _ => none) = some c) : ValOf P N ds t M ⟨some d, .binOp op xt x y yt, ty, pos, aft, none⟩ (.bool c) := fun a' w ha hw => by
  have h1 : (Op.equal xt (.bool a) (.bool b)).run P w = .ok (a == b) w := run_equalIn_bool 9999 hu w
  unfold execOp
  simp only [ha.eval hx, ha.eval hy]
  cases op <;> first | (cases hop; done) | (obtain rfl := Option.some.inj hop; simp [eqGuard, binOp, h1]; done) | (obtain rfl := Option.some.inj hop; simp [eqGuard, binOp, h1, bne])
theorem vo_shr {xt yt : TypeId} {x y : Operand} {k k' : IntKind} {m n : Int} (hx : ev t x = some (.int k m)) (hy : ev t y = some (.int k' n)) (hn : 0 ≤ n) :
    ValOf P N ds t M ⟨some d, .binOp .shr xt x y yt, ty, pos, aft, none⟩ (.int k (m.fdiv (2 ^ (min n.toNat k.bits)))) := fun a w ha hw => by
  unfold execOp
  simp only [ha.eval hx, ha.eval hy]
  simp [eqGuard, binOp, Op.shift, show ¬ n < 0 by omega]
theorem cons2 {α : Type} {a b c : α} {l : List α} (h : b = c) : a :: b :: l = a :: c :: l := by rw [h]
theorem row_eq {v : Value} {e : TypeId} {sz n n' : Nat} {xs xs' : List Value} (hn : n = n') (hx : xs = xs') : Res.row v e sz n xs = Res.row v e sz n' xs' := by rw [hn, hx]
theorem laid_end {xs zs l : List Value} {o : Nat} (ho : o = xs.length) (hl : zs.length = l.length) : laid (xs ++ zs) o l = xs ++ l := by
  subst ho
  unfold laid
  rw [List.take_left, ← hl, List.drop_eq_nil_of_le (by simp)]
  simp
end
end Go.Eng
