/-
  Part of the proofs over this seat: M9 H9 M10. Own work; imports the kit.
-/
import Derived.Test.YtdeelajgigglgaaMovWalk3
set_option linter.unusedVariables false
set_option linter.unusedSimpArgs false
namespace Go.Eng
open Go Go.RowKit Go.Proofs
theorem en34 : Enters Try.prog 34 := ⟨_, Try.func34, by kernel_rfl, by kernel_rfl⟩
theorem en35 : Enters Try.prog 35 := ⟨_, Try.func35, by kernel_rfl, by kernel_rfl⟩
theorem en36 : Enters Try.prog 36 := ⟨_, Try.func36, by kernel_rfl, by kernel_rfl⟩
theorem en38 : Enters Try.prog 38 := ⟨_, Try.func38, by kernel_rfl, by kernel_rfl⟩
theorem zr94 : (Try.prog.info? 94).bind (·.zero) = some (.slice none 0 0) := by kernel_rfl

set_option maxRecDepth 8000 in
set_option maxHeartbeats 1000000 in
theorem moves_spec (l : List Chg) (hl : l.length ≤ 1000000) (hs : ∀ c ∈ l, c.path.size ≤ 1000000000000) (v : Value) (w : World) (hr : RItems (fun b => b < w.heap.size) w 71 chC l v) : OCalls Try.prog 9 #[v] w 48 2 (fun n xs => n = (movesOf l).length ∧ xs = (movesOf l).flatMap mvC) := by
  obtain ⟨A, c, rfl, hlen⟩ := hr.slice
  refine enter (N := 92) Try.func9 rfl Try.ntmps9 (Nat.le_of_ble_eq_true rfl) [(0, .slice A l.length c)] (by repeat (first | exact trivial | refine ⟨rfl, ?_⟩)) (Mem.start w (fun _ => False) (fun b => b < w.heap.size) (fun _ h => h)) ?_
  refine JC_seq ?_
  refine JC_region ?_
  refine JL_v (vo_assign rfl) nofun (by decide) ?_
  refine JL_nil ?_
  refine JX_then ?_
  refine JC_seq ?_
  refine JC_region ?_
  refine st_makeMapS (kf := conV) (by decide) (fun b14 o14 hm14 => ?_)
  refine JL_v (vo_assign rfl) nofun (by decide) ?_
  refine JL_nil ?_
  refine JX_then ?_
  refine JC_seq ?_
  refine JC_seq ?_
  refine JC_region ?_
  refine JL_v (vo_move rfl) nofun (by decide) ?_
  refine JL_v (vo_len rfl Try.underlying22) nofun (by decide) ?_
  refine JL_v (vo_move rfl) nofun (by decide) ?_
  refine JL_nil ?_
  refine JX_then ?_
  refine JC_block ?_
  refine JC_loop (α := At9 l) (fun x => [(0, .slice A l.length c), (3, .map (some b14)), (15, .slice A l.length c), (16, .int .i64 l.length), (17, .int .i64 x.k)]) (fun x => Mem w (fun _ => False) (fun b => b < w.heap.size) (fun b => b < w.heap.size) w  (.blk b14 x.o :: gR 9 txtV x.st)) (fun x => l.length - x.k) ⟨0, [], o14, by omega, hm14, by intro x; simp [gG, freeAt]⟩ (by repeat (first | exact trivial | refine ⟨rfl, ?_⟩ | refine ⟨trivial, ?_⟩)) (fun w hw => by simpa [gR, rowsR] using hw) ?_
  rintro ⟨k, st, o, hk, hm, hg⟩
  dsimp only
  refine JC_seq ?_
  refine JC_region ?_
  refine JL_v (vo_cmp rfl rfl rfl) nofun (by decide) ?_
  refine JL_nil ?_
  refine JX_then ?_
  refine JC_seq ?_
  refine JC_cond _ rfl (fun hc18 => ?_) (fun hc18 => ?_)
  · have hil : k < l.length := by simp at hc18; omega
    obtain ⟨ch, hch⟩ : ∃ ch, l[k]? = some ch := ⟨_, List.getElem?_eq_getElem hil⟩
    obtain ⟨b1, o1, c1, cs1, te1, fr1, hv1, hfb, hseg⟩ := hr.at_ hch
    cases hv1
    have hcs := hs ch (List.mem_of_getElem? hch)
    refine JC_skip ?_
    refine JX_then ?_
    refine JC_seq ?_
    refine JC_block ?_
    refine JC_seq ?_
    refine JC_region ?_
    refine JL_v (vo_indexAddr rfl rfl Try.underlying22 sz53 (by omega) (by omega)) nofun (by decide) ?_
    refine JL_v (vo_load rfl (by first | exact .frz ‹_› | exact .own (by repeat (first | exact .head _ | refine .tail _ ?_))) (by first | exact PartAt.whole Try.underlying53 rfl sz53 | exact pc_all hseg | exact pb_old _ | exact pb_new _ | exact pc_path (SegAt.self _))) nofun (by decide) ?_
    refine st_alloc zr53 (by decide) (fun b5 => ?_)
    refine st_storeW rfl rfl sz53 rfl (by repeat (first | exact .head _ _ _ | apply Turn.tail)) (by rfl) ?_
    refine JL_nil ?_
    refine JX_then ?_
    refine JC_seq ?_
    refine JC_region ?_
    refine JL_v (vo_fieldAddr rfl fo53_2) nofun (by decide) ?_
    refine JL_v (vo_load rfl (by first | exact .frz ‹_› | exact .own (by repeat (first | exact .head _ | refine .tail _ ?_))) (by first | exact PartAt.whole Try.underlying51 rfl sz51 | exact pc_all hseg | exact pb_old _ | exact pb_new _ | exact pc_path (SegAt.self _))) nofun (by decide) ?_
    refine JL_v (vo_fieldAddr rfl fo53_1) nofun (by decide) ?_
    refine JL_v (vo_load rfl (by first | exact .frz ‹_› | exact .own (by repeat (first | exact .head _ | refine .tail _ ?_))) (by first | exact PartAt.whole Try.underlying51 rfl sz51 | exact pc_all hseg | exact pb_old _ | exact pb_new _ | exact pc_path (SegAt.self _))) nofun (by decide) ?_
    refine st_scall rfl en34 (by decide) (fun w hw => goes_spec ch.new ch.old w) ?_
    rintro _ rfl
    refine JL_v (vo_move rfl) nofun (by decide) ?_
    refine JL_v (vo_extract rfl rfl) nofun (by decide) ?_
    refine JL_v (vo_extract rfl rfl) nofun (by decide) ?_
    refine st_alloc zr91 (by decide) (fun b6 => ?_)
    refine st_storeW rfl rfl sz91 rfl (by repeat (first | exact .head _ _ _ | apply Turn.tail)) (by rfl) ?_
    refine JL_v (vo_assign rfl) nofun (by decide) ?_
    refine JL_nil ?_
    refine JX_then ?_
    refine JC_seq ?_
    refine JC_region ?_
    refine JL_v (vo_move rfl) nofun (by decide) ?_
    refine JL_nil ?_
    refine JX_then ?_
    refine JC_cond _ rfl (fun hc29 => ?_) (fun hc29 => ?_)
    · have hb : bringsB ch = true := by rw [← goes_brings]; exact hc29
      refine JC_region ?_
      refine JL_v (vo_move rfl) nofun (by decide) ?_
      refine JL_v (vo_load rfl (by first | exact .frz ‹_› | exact .own (by repeat (first | exact .head _ | refine .tail _ ?_))) (PartAt.whole (l := conC (conOf ch.new)) Try.underlying91 rfl sz91)) nofun (by decide) ?_
      refine JL_v (vo_fieldAddr rfl fo53_0) nofun (by decide) ?_
      refine JL_v (vo_load rfl (by first | exact .frz ‹_› | exact .own (by repeat (first | exact .head _ | refine .tail _ ?_))) (by first | exact .cell Try.underlying9 rfl rfl | exact pc_all hseg | exact pb_old _ | exact pb_new _ | exact pc_path (SegAt.self _))) nofun (by decide) ?_
      refine st_bslice1 rfl Try.underlying94 (by first | exact zr9) sz9 (by exact Nat.le_of_ble_eq_true rfl) (by exact Nat.ne_of_gt (Nat.le_of_ble_eq_true rfl)) (by decide) (fun b35 => ?_)
      refine st_mapEntry (k := conOf ch.new) (kf := conV) key91 rfl rfl Try.underlying89 zr94 hm (by repeat (first | exact .head _ | exact TurnF.mid _ _ | apply TurnF.tail)) (by decide) (fun o' stamp hme => ?_)
      rcases g_split st (conOf ch.new) with ⟨s1, u, ks, s2, rfl, hne⟩ | hne
      · have hksl : ks.length ≤ 1000000 := by
          have h1 := hg (conOf ch.new)
          rw [gG_mid hne] at h1
          rw [h1, List.length_map]
          exact Nat.le_trans (freeAt_le l [] k _) (by omega)
        rw [gM_mid] at hme hm ⊢
        rw [(ag_mid (gM_ne hne)).1, Option.getD_some, (ag_mid (gM_ne hne)).2] at hme
        rw [(ag_mid (gM_ne hne)).1, gR_mid]
        dsimp only [Option.getD]
        refine JL_v (vo_extract rfl rfl) nofun (by decide) ?_
        refine st_appendB rfl rfl Try.underlying94 ap9 (by rfl) (by decide) (by first | exact .own (by repeat (first | exact .head _ | refine .tail _ ?_))) (by repeat (first | exact .head _ | exact TurnF.mid _ _ | apply TurnF.tail)) (by rfl) (by exact one_of_all rfl) (by omega) (by decide) (by decide) (fun v37 => ?_)
        refine JL_v (vo_extract rfl rfl) nofun (by decide) ?_
        refine st_entryStore (k := conOf ch.new) (kf := conV) rfl rfl rfl hme (by repeat (first | exact .head _ | apply TurnF.tail)) (fun o2 hm2 => ?_)
        refine JL_nil ?_
        refine JX_block ?_
        refine JX_then ?_
        refine JC_region ?_
        refine JL_v (vo_add rfl rfl (by omega) (by omega)) nofun (by decide) ?_
        refine JL_v (vo_move rfl) nofun (by decide) ?_
        refine JL_nil ?_
        rw [(ag_mid (gM_ne hne)).2] at hm2
        refine JX_loop ⟨k + 1, s1 ++ (conOf ch.new, v37, ks ++ [ch.path]) :: s2, o2, hil, by rw [gM_mid]; exact hm2, at9_mid hch hb hg hne v37⟩ (by show l.length - (k + 1) < l.length - k; omega) (by repeat (first | exact trivial | refine ⟨rfl, ?_⟩ | refine ⟨trivial, ?_⟩)) (fun w hw => ?_)
        dsimp only
        rw [gR_mid, List.map_append, List.length_append]
        exact hw.sub (.cons _ (.cons _ (.cons _ (List.Sublist.refl _))))
      · rw [(ag_none (gM_ne hne)).1, Option.getD_none, (ag_none (gM_ne hne)).2] at hme
        rw [(ag_none (gM_ne hne)).1]
        dsimp only [Option.getD]
        refine JL_nilrow 9 1 ?_
        refine JL_v (vo_extract rfl rfl) nofun (by decide) ?_
        refine st_appendB rfl rfl Try.underlying94 ap9 (by rfl) (by decide) (by first | exact .own (by repeat (first | exact .head _ | refine .tail _ ?_))) (by repeat (first | exact .head _ | exact TurnF.mid _ _ | apply TurnF.tail)) (by rfl) (by exact one_of_all rfl) (by omega) (by decide) (by decide) (fun v37 => ?_)
        refine JL_v (vo_extract rfl rfl) nofun (by decide) ?_
        refine st_entryStore (k := conOf ch.new) (kf := conV) rfl rfl rfl hme (by repeat (first | exact .head _ | apply TurnF.tail)) (fun o2 hm2 => ?_)
        refine JL_nil ?_
        refine JX_block ?_
        refine JX_then ?_
        refine JC_region ?_
        refine JL_v (vo_add rfl rfl (by omega) (by omega)) nofun (by decide) ?_
        refine JL_v (vo_move rfl) nofun (by decide) ?_
        refine JL_nil ?_
        have hms : aset (gM st ++ [(conOf ch.new, .slice none 0 0)]) (conOf ch.new) v37 = gM st ++ [(conOf ch.new, v37)] := (ag_mid (s2 := []) (gM_ne hne)).2 v37
        rw [hms] at hm2
        refine JX_loop ⟨k + 1, st ++ [(conOf ch.new, v37, [ch.path])], o2, hil, by rw [gM_snoc]; exact hm2, at9_snoc hch hb hg hne v37⟩ (by show l.length - (k + 1) < l.length - k; omega) (by repeat (first | exact trivial | refine ⟨rfl, ?_⟩ | refine ⟨trivial, ?_⟩)) (fun w hw => ?_)
        dsimp only
        rw [gR_snoc]
        have h1 := (hw.sub (L' := .row v37 9 1 1 [.string ch.path] :: .blk b14 o2 :: gR 9 txtV st) (.cons_cons _ (.cons _ (.cons _ (.cons _ (List.Sublist.refl _)))))).perm (List.perm_append_singleton _ _).symm
        simpa [txtV] using h1
    · have hb : bringsB ch = false := by rw [← goes_brings]; exact hc29
      refine JC_skip ?_
      refine JX_block ?_
      refine JX_then ?_
      refine JC_region ?_
      refine JL_v (vo_add rfl rfl (by omega) (by omega)) nofun (by decide) ?_
      refine JL_v (vo_move rfl) nofun (by decide) ?_
      refine JL_nil ?_
      refine JX_loop ⟨k + 1, st, o, hil, hm, fun x => by rw [at9_same hch hb]; exact hg x⟩ (by show l.length - (k + 1) < l.length - k; omega) (by repeat (first | exact trivial | refine ⟨rfl, ?_⟩ | refine ⟨trivial, ?_⟩)) (fun w hw => hw.sub (.cons _ (.cons _ (List.Sublist.refl _))))
  · refine JC_exit ?_
    refine JX_then_exit ?_
    refine JX_thenK_exit ?_
    refine JX_block_exit ?_
    refine JX_then ?_
    refine JC_seq ?_
    refine JC_region ?_
    refine JL_v (vo_assign rfl) nofun (by decide) ?_
    refine JL_nil ?_
    refine JX_then ?_
    refine JC_seq ?_
    refine JC_seq ?_
    refine JC_region ?_
    refine JL_v (vo_move rfl) nofun (by decide) ?_
    refine JL_v (vo_len rfl Try.underlying22) nofun (by decide) ?_
    refine JL_v (vo_move rfl) nofun (by decide) ?_
    refine JL_nil ?_
    refine JX_then ?_
    refine JC_block ?_
    have hke : k = l.length := by simp at hc18; omega
    subst hke
    refine JC_nilrow 48 2 ?_
    refine JC_loop (α := Bt9 l) (fun x => [(0, .slice A l.length c), (3, .map (some b14)), (8, x.vo), (40, .slice A l.length c), (41, .int .i64 l.length), (42, .int .i64 x.i)]) (fun x => Mem w (fun _ => False) (fun b => b < w.heap.size) (fun b => b < w.heap.size) w  (.row x.vo 48 2 (movesSt l x.i).2.length ((movesSt l x.i).2.flatMap mvC) :: .blk b14 x.o :: gR 9 txtV x.st)) (fun x => l.length - x.i) ⟨0, st, o, _, by omega, hm, fun x => hg x⟩ (by repeat (first | exact trivial | refine ⟨rfl, ?_⟩ | refine ⟨trivial, ?_⟩)) (fun w hw => by simpa [movesSt] using hw) ?_
    clear hm hg
    rintro ⟨i, st, o, vo, hi, hm, hg⟩
    have hml := moves_len l i
    dsimp only
    refine JC_seq ?_
    refine JC_region ?_
    refine JL_v (vo_cmp rfl rfl rfl) nofun (by decide) ?_
    refine JL_nil ?_
    refine JX_then ?_
    refine JC_seq ?_
    refine JC_cond _ rfl (fun hc43 => ?_) (fun hc43 => ?_)
    · have hil : i < l.length := by simp at hc43; omega
      obtain ⟨ch, hch⟩ : ∃ ch, l[i]? = some ch := ⟨_, List.getElem?_eq_getElem hil⟩
      obtain ⟨b1, o1, c1, cs1, te1, fr1, hv1, hfb, hseg⟩ := hr.at_ hch
      cases hv1
      have hcs := hs ch (List.mem_of_getElem? hch)
      refine JC_gSlice (conOf ch.old) (e := 9) (f := txtV) (st := st) (by intro r hr; first | exact hr | exact .tail _ hr | exact .tail _ (.tail _ hr) | exact .tail _ (.tail _ (.tail _ hr)) | exact .tail _ (.tail _ (.tail _ (.tail _ hr)))) (fun Aq cq hq => ?_)
      refine JC_skip ?_
      refine JX_then ?_
      refine JC_seq ?_
      refine JC_block ?_
      refine JC_seq ?_
      refine JC_region ?_
      refine JL_v (vo_indexAddr rfl rfl Try.underlying22 sz53 (by omega) (by omega)) nofun (by decide) ?_
      refine JL_v (vo_load rfl (by first | exact .frz ‹_› | exact .own (by repeat (first | exact .head _ | refine .tail _ ?_))) (by first | exact PartAt.whole Try.underlying53 rfl sz53 | exact pc_all hseg | exact pb_old _ | exact pb_new _ | exact pc_path (SegAt.self _))) nofun (by decide) ?_
      refine st_alloc zr53 (by decide) (fun b10 => ?_)
      refine st_storeW rfl rfl sz53 rfl (by repeat (first | exact .head _ _ _ | apply Turn.tail)) (by rfl) ?_
      refine JL_nil ?_
      refine JX_then ?_
      refine JC_seq ?_
      refine JC_region ?_
      refine JL_v (vo_fieldAddr rfl fo53_1) nofun (by decide) ?_
      refine JL_v (vo_load rfl (by first | exact .frz ‹_› | exact .own (by repeat (first | exact .head _ | refine .tail _ ?_))) (by first | exact PartAt.whole Try.underlying51 rfl sz51 | exact pc_all hseg | exact pb_old _ | exact pb_new _ | exact pc_path (SegAt.self _))) nofun (by decide) ?_
      refine JL_v (vo_fieldAddr rfl fo53_2) nofun (by decide) ?_
      refine JL_v (vo_load rfl (by first | exact .frz ‹_› | exact .own (by repeat (first | exact .head _ | refine .tail _ ?_))) (by first | exact PartAt.whole Try.underlying51 rfl sz51 | exact pc_all hseg | exact pb_old _ | exact pb_new _ | exact pc_path (SegAt.self _))) nofun (by decide) ?_
      refine st_scall rfl en34 (by decide) (fun w hw => goes_spec ch.old ch.new w) ?_
      rintro _ rfl
      refine JL_v (vo_move rfl) nofun (by decide) ?_
      refine JL_v (vo_extract rfl rfl) nofun (by decide) ?_
      refine JL_v (vo_extract rfl rfl) nofun (by decide) ?_
      skip
      refine st_alloc zr91 (by decide) (fun b11 => ?_)
      refine st_storeW rfl rfl sz91 rfl (by repeat (first | exact .head _ _ _ | apply Turn.tail)) (by rfl) ?_
      refine JL_v (vo_assign rfl) nofun (by decide) ?_
      refine JL_nil ?_
      refine JX_then ?_
      refine JC_seq ?_
      refine JC_seq ?_
      refine JC_joinB 62 (!takesB ch || (((gG st (conOf ch.old)).length : Int) == 0)) ?_ ?_
      · refine JC_region ?_
        refine JL_v (vo_move rfl) nofun (by decide) ?_
        refine JL_v (vo_not rfl) nofun (by decide) ?_
        refine JL_v (vo_move rfl) nofun (by decide) ?_
        refine JL_case 56 rfl (fun hg56 => ?_) (fun hg56 => ?_)
        · refine JL_no rfl rfl (by decide) ?_
          refine JL_no rfl rfl (by decide) ?_
          refine JL_no rfl rfl (by decide) ?_
          refine JL_no rfl rfl (by decide) ?_
          refine JL_no rfl rfl (by decide) ?_
          refine JL_v (vo_pick rfl rfl) nofun (by decide) ?_
          refine JL_nil ?_
          refine JX_joinB _ ⟨rfl, (by repeat (first | exact trivial | refine ⟨rfl, ?_⟩ | refine ⟨trivial, ?_⟩))⟩ ?_
          first | rfl | simp_all [goes_takes]
        · refine JL_yes rfl rfl ?_
          refine JL_v (vo_move rfl) nofun (by decide) ?_
          refine JL_yes rfl rfl ?_
          refine JL_v (vo_load rfl (by first | exact .frz ‹_› | exact .own (by repeat (first | exact .head _ | refine .tail _ ?_))) (PartAt.whole (l := conC (conOf ch.old)) Try.underlying91 rfl sz91)) nofun (by decide) ?_
          refine JL_yes rfl rfl ?_
          refine JL_v (vo_lookupS (k := conOf ch.old) (kf := conV) key91 rfl rfl Try.underlying89 zr94 (.own (by repeat (first | exact .head _ | refine .tail _ ?_))) hm) nofun (by decide) ?_
          rw [hq]
          refine JL_yes rfl rfl ?_
          refine JL_v (vo_len rfl Try.underlying94) nofun (by decide) ?_
          refine JL_yes rfl rfl ?_
          refine JL_v (vo_cmp rfl rfl rfl) nofun (by decide) ?_
          refine JL_v (vo_pick rfl rfl) nofun (by decide) ?_
          refine JL_nil ?_
          refine JX_joinB _ ⟨rfl, (by repeat (first | exact trivial | refine ⟨rfl, ?_⟩ | refine ⟨trivial, ?_⟩))⟩ ?_
          first | rfl | simp_all [goes_takes]
      · refine JX_then ?_
        refine JC_cond _ rfl (fun hc62 => ?_) (fun hc62 => ?_)
        · refine JC_exit ?_
          refine JX_then_exit ?_
          refine JX_block_exit ?_
          refine JX_then ?_
          refine JC_region ?_
          refine JL_v (vo_add rfl rfl (by omega) (by omega)) nofun (by decide) ?_
          refine JL_v (vo_move rfl) nofun (by decide) ?_
          refine JL_nil ?_
          have hst : movesSt l (i + 1) = movesSt l i := by
            refine at8_skip hch ?_
            rintro ⟨h1, h2⟩
            simp [h1] at hc62
            rw [hg] at hc62
            simp at hc62
            exact h2 hc62
          refine JX_loop ⟨i + 1, st, o, vo, hil, hm, by rw [hst]; exact hg⟩ (by show l.length - (i + 1) < l.length - i; omega) (by repeat (first | exact trivial | refine ⟨rfl, ?_⟩ | refine ⟨trivial, ?_⟩)) (fun w hw => ?_)
          dsimp only
          rw [hst]
          exact hw.sub (.cons _ (.cons _ (List.Sublist.refl _)))
        · have htk : takesB ch = true := by
            cases h : takesB ch with
            | true => rfl
            | false => simp [h] at hc62
          have hne0 : gG st (conOf ch.old) ≠ [] := by
            intro h0
            simp [h0] at hc62
          rcases g_split st (conOf ch.old) with ⟨s1, u, ks, s2, rfl, hne⟩ | hne
          case inr => exact absurd (gG_none hne) hne0
          rw [gG_mid hne] at hne0
          have hkl0 : 0 < ks.length := List.length_pos_iff.2 hne0
          rw [gR_mid]
          refine JC_rowSome3 (v := u) (e := 9) (sz := 1) (n := ks.length) (xs := ks.map txtV) (by first | exact (List.mem_append_right _ (.head _)) | exact .tail _ (.tail _ (.tail _ (.tail _ (List.mem_append_right _ (.head _)))))) hkl0 (fun g7 cap7 hu7 hc7 hc8 => ?_)
          subst hu7
          clear hq
          have hq : (aget (gM (s1 ++ (conOf ch.old, .slice (some ⟨g7, 0, none⟩) ks.length cap7, ks) :: s2)) (conOf ch.old)).getD (.slice none 0 0) = .slice (some ⟨g7, 0, none⟩) ks.length cap7 := by
            rw [gM_mid, (ag_mid (gM_ne hne)).1]; rfl
          obtain ⟨hg2, p, hp, hst⟩ := bt9_step hch htk hg hne hne0 (.slice (some ⟨g7, 0, none⟩) (ks.length - 1) cap7)
          refine JC_skip ?_
          refine JX_then ?_
          refine JC_seq ?_
          refine JC_region ?_
          refine JL_v (vo_move rfl) nofun (by decide) ?_
          refine JL_v (vo_load rfl (by first | exact .frz ‹_› | exact .own (by repeat (first | exact .head _ | refine .tail _ ?_))) (PartAt.whole (l := conC (conOf ch.old)) Try.underlying91 rfl sz91)) nofun (by decide) ?_
          refine JL_v (vo_lookupS (k := conOf ch.old) (kf := conV) key91 rfl rfl Try.underlying89 zr94 (.own (by repeat (first | exact .head _ | refine .tail _ ?_))) hm) nofun (by decide) ?_
          rw [hq]
          refine JL_v (vo_makeFunc rfl rfl) nofun (by decide) ?_
          refine st_scall rfl en35 (by decide) (fun w1 hw => index_spec ks _ 36 en36 _ (fun p => beq (lastP p) (lastP ch.path)) (by have := free_len l i (conOf ch.old); have h8 := hg (conOf ch.old); rw [gG_mid hne] at h8; rw [h8, List.length_map]; omega) w1 ?_ (fun k hk w2 he => ?_)) ?_
          · have h9 := hw.rvals (v := .slice (some ⟨g7, 0, none⟩) ks.length cap7) (e := 9) (n := ks.length) (xs := ks.map txtV) (by first | exact (List.mem_append_right _ (.head _)) | exact .tail _ (.tail _ (.tail _ (.tail _ (List.mem_append_right _ (.head _))))))
            exact h9
          · have hks : k.size ≤ 1000000000000 := by
              have h8 := hg (conOf ch.old)
              rw [gG_mid hne] at h8
              rw [h8] at hk
              obtain ⟨k', hk', rfl⟩ := List.mem_map.1 hk
              have hlt := free_mem l i _ k' hk'
              obtain ⟨d, hd⟩ : ∃ d, l[k']? = some d := ⟨_, List.getElem?_eq_getElem hlt⟩
              rw [pathAt_get hd]
              exact hs d (List.mem_of_getElem? hd)
            have h10 : FB (fun b => b < w1.heap.size) w1 b10 (.cells (chC ch).toArray 53 (0, 0)) := ⟨Res.foot_lt (hw.own _ (.tail _ (.head _))) rfl, hw.own _ (.tail _ (.head _))⟩
            exact sameLast_spec k ch b10 w2 hks hcs (he.fb _ _ h10)
          rintro _ rfl
          have hpick := pick_int (lastIs l ch) ((movesSt l i).1 (conOf ch.old))
          have hidx : idxS (fun p => beq (lastP p) (lastP ch.path)) ks 0 = idxS (lastIs l ch) ((movesSt l i).1 (conOf ch.old)) 0 := by
            have h8 := hg (conOf ch.old)
            rw [gG_mid hne] at h8
            rw [h8, idxS_map]; rfl
          rw [hidx]
          refine JL_v (vo_max rfl rfl) nofun (by decide) ?_
          rw [hpick]
          generalize hjj : pickJ (lastIs l ch) ((movesSt l i).1 (conOf ch.old)) = jj at hp hg2
          refine JL_v (vo_assign rfl) nofun (by decide) ?_
          refine JL_nil ?_
          refine JX_then ?_
          refine JC_seq ?_
          refine JC_draw (F := fun w1 => w1.heap[b11]? = some (.cells (conC (conOf ch.old)).toArray 91 (0, 0)) ∧ w1.heap[b10]? = some (.cells (chC ch).toArray 53 (0, 0)) ∧ w1.heap[b14]? = some o ∧ w1.ownsRow 0 9 1 (.slice (some ⟨g7, 0, none⟩) ks.length cap7) ks.length (ks.map txtV)) 13 (by kernel_rfl) (fun w hw => Mem.drew hw) ?_
          refine JR_v (i := 0) rfl (by kernel_rfl) (by kernel_rfl) rfl (by kernel_rfl) (by kernel_rfl) (panic_Then (panic_block (panic_Then (panic_then (panic_block (panic_Then panic_body)))))) (by decide) (vo_move rfl) (fun w hw => ⟨hw.hblk (by repeat (first | exact .head _ | exact (List.mem_append_right _ (.head _)) | apply List.Mem.tail)), hw.hblk (by repeat (first | exact .head _ | exact (List.mem_append_right _ (.head _)) | apply List.Mem.tail)), hw.hblk (by repeat (first | exact .head _ | exact (List.mem_append_right _ (.head _)) | apply List.Mem.tail)), hw.hrow (by repeat (first | exact .head _ | exact (List.mem_append_right _ (.head _)) | apply List.Mem.tail))⟩) ?_
          refine JR_v (i := 1) rfl (by kernel_rfl) (by kernel_rfl) rfl (by kernel_rfl) (by kernel_rfl) (panic_Then (panic_block (panic_Then (panic_then (panic_block (panic_Then panic_body)))))) (by decide) (vo_fieldAddr rfl fo53_0) (fun w hw => ⟨hw.hblk (by repeat (first | exact .head _ | exact (List.mem_append_right _ (.head _)) | apply List.Mem.tail)), hw.hblk (by repeat (first | exact .head _ | exact (List.mem_append_right _ (.head _)) | apply List.Mem.tail)), hw.hblk (by repeat (first | exact .head _ | exact (List.mem_append_right _ (.head _)) | apply List.Mem.tail)), hw.hrow (by repeat (first | exact .head _ | exact (List.mem_append_right _ (.head _)) | apply List.Mem.tail))⟩) ?_
          refine JR_v (i := 2) rfl (by kernel_rfl) (by kernel_rfl) rfl (by kernel_rfl) (by kernel_rfl) (panic_Then (panic_block (panic_Then (panic_then (panic_block (panic_Then panic_body)))))) (by decide) (vo_loadH rfl (fun w h => h.2.1) (pc_path (SegAt.self _))) (fun w hw => ⟨hw.hblk (by repeat (first | exact .head _ | exact (List.mem_append_right _ (.head _)) | apply List.Mem.tail)), hw.hblk (by repeat (first | exact .head _ | exact (List.mem_append_right _ (.head _)) | apply List.Mem.tail)), hw.hblk (by repeat (first | exact .head _ | exact (List.mem_append_right _ (.head _)) | apply List.Mem.tail)), hw.hrow (by repeat (first | exact .head _ | exact (List.mem_append_right _ (.head _)) | apply List.Mem.tail))⟩) ?_
          refine JR_v (i := 3) rfl (by kernel_rfl) (by kernel_rfl) rfl (by kernel_rfl) (by kernel_rfl) (panic_Then (panic_block (panic_Then (panic_then (panic_block (panic_Then panic_body)))))) (by decide) (vo_move rfl) (fun w hw => ⟨hw.hblk (by repeat (first | exact .head _ | exact (List.mem_append_right _ (.head _)) | apply List.Mem.tail)), hw.hblk (by repeat (first | exact .head _ | exact (List.mem_append_right _ (.head _)) | apply List.Mem.tail)), hw.hblk (by repeat (first | exact .head _ | exact (List.mem_append_right _ (.head _)) | apply List.Mem.tail)), hw.hrow (by repeat (first | exact .head _ | exact (List.mem_append_right _ (.head _)) | apply List.Mem.tail))⟩) ?_
          refine JR_v (i := 4) rfl (by kernel_rfl) (by kernel_rfl) rfl (by kernel_rfl) (by kernel_rfl) (panic_Then (panic_block (panic_Then (panic_then (panic_block (panic_Then panic_body)))))) (by decide) (vo_loadH rfl (fun w h => h.1) (PartAt.whole (l := conC (conOf ch.old)) Try.underlying91 rfl sz91)) (fun w hw => ⟨hw.hblk (by repeat (first | exact .head _ | exact (List.mem_append_right _ (.head _)) | apply List.Mem.tail)), hw.hblk (by repeat (first | exact .head _ | exact (List.mem_append_right _ (.head _)) | apply List.Mem.tail)), hw.hblk (by repeat (first | exact .head _ | exact (List.mem_append_right _ (.head _)) | apply List.Mem.tail)), hw.hrow (by repeat (first | exact .head _ | exact (List.mem_append_right _ (.head _)) | apply List.Mem.tail))⟩) ?_
          refine JR_v (i := 5) rfl (by kernel_rfl) (by kernel_rfl) rfl (by kernel_rfl) (by kernel_rfl) (panic_Then (panic_block (panic_Then (panic_then (panic_block (panic_Then panic_body)))))) (by decide) (vo_lookupSH (k := conOf ch.old) (kf := conV) key91 rfl rfl Try.underlying89 zr94 (fun w h => h.2.2.1) hm) (fun w hw => ⟨hw.hblk (by repeat (first | exact .head _ | exact (List.mem_append_right _ (.head _)) | apply List.Mem.tail)), hw.hblk (by repeat (first | exact .head _ | exact (List.mem_append_right _ (.head _)) | apply List.Mem.tail)), hw.hblk (by repeat (first | exact .head _ | exact (List.mem_append_right _ (.head _)) | apply List.Mem.tail)), hw.hrow (by repeat (first | exact .head _ | exact (List.mem_append_right _ (.head _)) | apply List.Mem.tail))⟩) ?_
          rw [hq]
          have hjl : jj < ks.length := (List.getElem?_eq_some_iff.1 hp).1
          have hcell : (ks.map txtV).toArray[0 + (jj : Int).toNat * 1]? = some (.string p) := by rw [List.getElem?_toArray, show 0 + (jj : Int).toNat * 1 = jj by omega]; simp [hp, txtV]
          refine JR_v (i := 6) rfl (by kernel_rfl) (by kernel_rfl) rfl (by kernel_rfl) (by kernel_rfl) (panic_Then (panic_block (panic_Then (panic_then (panic_block (panic_Then panic_body)))))) (by decide) (vo_move rfl) (fun w hw => ⟨hw.hblk (by repeat (first | exact .head _ | exact (List.mem_append_right _ (.head _)) | apply List.Mem.tail)), hw.hblk (by repeat (first | exact .head _ | exact (List.mem_append_right _ (.head _)) | apply List.Mem.tail)), hw.hblk (by repeat (first | exact .head _ | exact (List.mem_append_right _ (.head _)) | apply List.Mem.tail)), hw.hrow (by repeat (first | exact .head _ | exact (List.mem_append_right _ (.head _)) | apply List.Mem.tail))⟩) ?_
          refine JR_v (i := 7) rfl (by kernel_rfl) (by kernel_rfl) rfl (by kernel_rfl) (by kernel_rfl) (panic_Then (panic_block (panic_Then (panic_then (panic_block (panic_Then panic_body)))))) (by decide) (vo_indexAddr rfl rfl Try.underlying94 sz9 (by omega) (by omega)) (fun w hw => ⟨hw.hblk (by repeat (first | exact .head _ | exact (List.mem_append_right _ (.head _)) | apply List.Mem.tail)), hw.hblk (by repeat (first | exact .head _ | exact (List.mem_append_right _ (.head _)) | apply List.Mem.tail)), hw.hblk (by repeat (first | exact .head _ | exact (List.mem_append_right _ (.head _)) | apply List.Mem.tail)), hw.hrow (by repeat (first | exact .head _ | exact (List.mem_append_right _ (.head _)) | apply List.Mem.tail))⟩) ?_
          refine JR_v (i := 8) rfl (by kernel_rfl) (by kernel_rfl) rfl (by kernel_rfl) (by kernel_rfl) (panic_Then (panic_block (panic_Then (panic_then (panic_block (panic_Then panic_body)))))) (by decide) (vo_loadRowH rfl (fun w h => h.2.2.2) (.cell Try.underlying9 rfl hcell)) (fun w hw => ⟨hw.hblk (by repeat (first | exact .head _ | exact (List.mem_append_right _ (.head _)) | apply List.Mem.tail)), hw.hblk (by repeat (first | exact .head _ | exact (List.mem_append_right _ (.head _)) | apply List.Mem.tail)), hw.hblk (by repeat (first | exact .head _ | exact (List.mem_append_right _ (.head _)) | apply List.Mem.tail)), hw.hrow (by repeat (first | exact .head _ | exact (List.mem_append_right _ (.head _)) | apply List.Mem.tail))⟩) ?_
          refine JR_v (i := 9) rfl (by kernel_rfl) (by kernel_rfl) rfl (by kernel_rfl) (by kernel_rfl) (panic_Then (panic_block (panic_Then (panic_then (panic_block (panic_Then panic_body)))))) (by decide) (vo_build rfl (by first | exact bl48 _ _)) (fun w hw => ⟨hw.hblk (by repeat (first | exact .head _ | exact (List.mem_append_right _ (.head _)) | apply List.Mem.tail)), hw.hblk (by repeat (first | exact .head _ | exact (List.mem_append_right _ (.head _)) | apply List.Mem.tail)), hw.hblk (by repeat (first | exact .head _ | exact (List.mem_append_right _ (.head _)) | apply List.Mem.tail)), hw.hrow (by repeat (first | exact .head _ | exact (List.mem_append_right _ (.head _)) | apply List.Mem.tail))⟩) ?_
          refine JR_split [10] (by kernel_rfl) rfl (all1 ?_)
          refine JK_op (β := Nat) (fun b => .slice (some ⟨b, 0, none⟩) 1 1) _ rfl rfl (by decide) trivial (do_bslice1 rfl Try.underlying42 (by first | exact zr48) sz48 (by exact Nat.le_of_ble_eq_true rfl) (by exact Nat.ne_of_gt (Nat.le_of_ble_eq_true rfl))) (fun b w hw => ⟨hw.hblk (by repeat (first | exact .head _ | exact (List.mem_append_right _ (.head _)) | apply List.Mem.tail)), hw.hblk (by repeat (first | exact .head _ | exact (List.mem_append_right _ (.head _)) | apply List.Mem.tail)), hw.hblk (by repeat (first | exact .head _ | exact (List.mem_append_right _ (.head _)) | apply List.Mem.tail)), hw.hrow (by repeat (first | exact .head _ | exact (List.mem_append_right _ (.head _)) | apply List.Mem.tail))⟩) (fun b79 => ?_)
          refine JR_split [11] (by kernel_rfl) rfl (all1 ?_)
          refine JK_op (β := Value) (fun v => v) _ rfl rfl (by decide) trivial (do_appendB rfl rfl Try.underlying42 ap48 (by rfl) (by decide) (by first | exact .frz ‹_› | exact .own (by repeat (first | exact .head _ | refine .tail _ ?_))) (by repeat (first | exact .head _ | apply TurnF.tail)) (by rfl) (by first | exact one_of_all rfl | assumption) (by omega) (by decide)) (fun v w hw => ⟨hw.hblk (by repeat (first | exact .head _ | exact (List.mem_append_right _ (.head _)) | apply List.Mem.tail)), hw.hblk (by repeat (first | exact .head _ | exact (List.mem_append_right _ (.head _)) | apply List.Mem.tail)), hw.hblk (by repeat (first | exact .head _ | exact (List.mem_append_right _ (.head _)) | apply List.Mem.tail)), hw.hrow (by repeat (first | exact .head _ | exact (List.mem_append_right _ (.head _)) | apply List.Mem.tail))⟩) (fun v80 => ?_)
          refine JR_v (i := 12) rfl (by kernel_rfl) (by kernel_rfl) rfl (by kernel_rfl) (by kernel_rfl) (panic_Then (panic_block (panic_Then (panic_then (panic_block (panic_Then panic_body)))))) (by decide) (vo_assign rfl) (fun w hw => ⟨hw.hblk (by repeat (first | exact .head _ | exact (List.mem_append_right _ (.head _)) | apply List.Mem.tail)), hw.hblk (by repeat (first | exact .head _ | exact (List.mem_append_right _ (.head _)) | apply List.Mem.tail)), hw.hblk (by repeat (first | exact .head _ | exact (List.mem_append_right _ (.head _)) | apply List.Mem.tail)), hw.hrow (by repeat (first | exact .head _ | exact (List.mem_append_right _ (.head _)) | apply List.Mem.tail))⟩) ?_
          refine JR_done (by kernel_rfl) ?_
          refine JX_then ?_
          refine JC_draw (F := fun w1 => w1.heap[b11]? = some (.cells (conC (conOf ch.old)).toArray 91 (0, 0)) ∧ w1.heap[b14]? = some o) 9 (by kernel_rfl) (fun w hw => Mem.drew hw) ?_
          refine JR_v (i := 0) rfl (by kernel_rfl) (by kernel_rfl) rfl (by kernel_rfl) (by kernel_rfl) (panic_block (panic_Then (panic_then (panic_block (panic_Then panic_body))))) (by decide) (vo_move rfl) (fun w hw => ⟨hw.hblk (by repeat (first | exact .head _ | exact (List.mem_append_right _ (.head _)) | apply List.Mem.tail)), hw.hblk (by repeat (first | exact .head _ | exact (List.mem_append_right _ (.head _)) | apply List.Mem.tail))⟩) ?_
          refine JR_v (i := 1) rfl (by kernel_rfl) (by kernel_rfl) rfl (by kernel_rfl) (by kernel_rfl) (panic_block (panic_Then (panic_then (panic_block (panic_Then panic_body))))) (by decide) (vo_loadH rfl (fun w h => h.1) (PartAt.whole (l := conC (conOf ch.old)) Try.underlying91 rfl sz91)) (fun w hw => ⟨hw.hblk (by repeat (first | exact .head _ | exact (List.mem_append_right _ (.head _)) | apply List.Mem.tail)), hw.hblk (by repeat (first | exact .head _ | exact (List.mem_append_right _ (.head _)) | apply List.Mem.tail))⟩) ?_
          refine JR_v (i := 2) rfl (by kernel_rfl) (by kernel_rfl) rfl (by kernel_rfl) (by kernel_rfl) (panic_block (panic_Then (panic_then (panic_block (panic_Then panic_body))))) (by decide) (vo_move rfl) (fun w hw => ⟨hw.hblk (by repeat (first | exact .head _ | exact (List.mem_append_right _ (.head _)) | apply List.Mem.tail)), hw.hblk (by repeat (first | exact .head _ | exact (List.mem_append_right _ (.head _)) | apply List.Mem.tail))⟩) ?_
          refine JR_v (i := 3) rfl (by kernel_rfl) (by kernel_rfl) rfl (by kernel_rfl) (by kernel_rfl) (panic_block (panic_Then (panic_then (panic_block (panic_Then panic_body))))) (by decide) (vo_loadH rfl (fun w h => h.1) (PartAt.whole (l := conC (conOf ch.old)) Try.underlying91 rfl sz91)) (fun w hw => ⟨hw.hblk (by repeat (first | exact .head _ | exact (List.mem_append_right _ (.head _)) | apply List.Mem.tail)), hw.hblk (by repeat (first | exact .head _ | exact (List.mem_append_right _ (.head _)) | apply List.Mem.tail))⟩) ?_
          refine JR_v (i := 4) rfl (by kernel_rfl) (by kernel_rfl) rfl (by kernel_rfl) (by kernel_rfl) (panic_block (panic_Then (panic_then (panic_block (panic_Then panic_body))))) (by decide) (vo_lookupSH (k := conOf ch.old) (kf := conV) key91 rfl rfl Try.underlying89 zr94 (fun w h => h.2) hm) (fun w hw => ⟨hw.hblk (by repeat (first | exact .head _ | exact (List.mem_append_right _ (.head _)) | apply List.Mem.tail)), hw.hblk (by repeat (first | exact .head _ | exact (List.mem_append_right _ (.head _)) | apply List.Mem.tail))⟩) ?_
          rw [hq]
          refine JR_v (i := 5) rfl (by kernel_rfl) (by kernel_rfl) rfl (by kernel_rfl) (by kernel_rfl) (panic_block (panic_Then (panic_then (panic_block (panic_Then panic_body))))) (by decide) (vo_move rfl) (fun w hw => ⟨hw.hblk (by repeat (first | exact .head _ | exact (List.mem_append_right _ (.head _)) | apply List.Mem.tail)), hw.hblk (by repeat (first | exact .head _ | exact (List.mem_append_right _ (.head _)) | apply List.Mem.tail))⟩) ?_
          refine JR_v (i := 6) rfl (by kernel_rfl) (by kernel_rfl) rfl (by kernel_rfl) (by kernel_rfl) (panic_block (panic_Then (panic_then (panic_block (panic_Then panic_body))))) (by decide) (vo_move rfl) (fun w hw => ⟨hw.hblk (by repeat (first | exact .head _ | exact (List.mem_append_right _ (.head _)) | apply List.Mem.tail)), hw.hblk (by repeat (first | exact .head _ | exact (List.mem_append_right _ (.head _)) | apply List.Mem.tail))⟩) ?_
          refine JR_v (i := 7) rfl (by kernel_rfl) (by kernel_rfl) rfl (by kernel_rfl) (by kernel_rfl) (panic_block (panic_Then (panic_then (panic_block (panic_Then panic_body))))) (by decide) (vo_add rfl rfl (by omega) (by omega)) (fun w hw => ⟨hw.hblk (by repeat (first | exact .head _ | exact (List.mem_append_right _ (.head _)) | apply List.Mem.tail)), hw.hblk (by repeat (first | exact .head _ | exact (List.mem_append_right _ (.head _)) | apply List.Mem.tail))⟩) ?_
          refine JR_split [8] (by kernel_rfl) rfl (all1 ?_)
          refine JK_mem ?_ (fun w hw => hw.perm (perm_mid5 _ _ _ _ _ _ _ _))
          refine JK_mcall [_] _ rfl rfl trivial rfl en38 (by decide) (fun w1 hw => delete_spec g7 cap7 ks.length jj (ks.map txtV) (fun u hu => by obtain ⟨s, _, rfl⟩ := List.mem_map.1 hu; rfl) hjl (by have := free_len l i (conOf ch.old); have h8 := hg (conOf ch.old); rw [gG_mid hne] at h8; rw [h8, List.length_map]; omega) w1 hw.holds) (fun v L' w hR hw => ⟨hw.hblk (List.mem_append_right _ (by repeat (first | exact .head _ | apply List.Mem.tail))), hw.hblk (List.mem_append_right _ (by repeat (first | exact .head _ | apply List.Mem.tail)))⟩) ?_
          rintro _ L' ⟨rfl, rfl⟩
          simp only [List.cons_append, List.nil_append]
          refine JR_mapUpdateS (k := conOf ch.old) (kf := conV) key91 rfl (by kernel_rfl) (by kernel_rfl) rfl rfl rfl rfl Try.underlying89 hm (by repeat (first | exact .head _ | apply TurnF.tail)) (fun o2 hm2 => ?_)
          refine JX_block ?_
          refine JX_then ?_
          refine JC_region ?_
          refine JL_v (vo_add rfl rfl (by omega) (by omega)) nofun (by decide) ?_
          refine JL_v (vo_move rfl) nofun (by decide) ?_
          refine JL_nil ?_
          rw [gM_mid, (ag_mid (gM_ne hne)).2, ← gM_mid (ks := ks.eraseIdx jj)] at hm2
          refine JX_loop ⟨i + 1, _, o2, v80, hil, hm2, hg2⟩ (by show l.length - (i + 1) < l.length - i; omega) (by repeat (first | exact trivial | refine ⟨rfl, ?_⟩ | refine ⟨trivial, ?_⟩)) (fun w hw => ?_)
          dsimp only
          have hel : (ks.eraseIdx jj).length = ks.length - 1 := by rw [List.length_eraseIdx, if_pos hjl]
          rw [gR_mid, hst, hel, ← map_erase]
          have h1 := (hw.sub (.cons_cons _ (.cons _ (.cons _ (.cons _ (List.Sublist.refl _)))))).perm (perm_mid2 _ _ _ _ _)
          simpa [List.flatMap_append, Value.cells] using h1
    · refine JC_exit ?_
      refine JX_then_exit ?_
      refine JX_thenK_exit ?_
      refine JX_block_exit ?_
      refine JX_then ?_
      refine JC_seq ?_
      refine JC_region ?_
      refine JL_v (vo_move rfl) nofun (by decide) ?_
      refine JL_v (vo_assign rfl) nofun (by decide) ?_
      refine JL_nil ?_
      refine JX_then ?_
      refine JC_ret ?_
      refine ret1 rfl rfl ?_
      intro w1 hM
      have hie : i = l.length := by simp at hc43; omega
      subst hie
      exact OC_end hM (.head _) ⟨rfl, rfl⟩

end Go.Eng

set_option linter.unusedVariables false
set_option linter.unusedSimpArgs false
namespace Go.Eng
open Go Go.RowKit Go.Proofs
section
variable {w0 : World} {E Z0 Z : Nat → Prop} {wz w : World} {L : List Res}
/-- the first of a row's items, as a list of their own -/
theorem Mem.rview {α : Type} {f : α → List Value} {sz : Nat} (hf : ∀ x, (f x).length = sz) (h : Mem w0 E Z0 Z wz L w) {g cap n : Nat} {e : TypeId} {l sp : List α} (hm : Res.row (.slice (some ⟨g, 0, none⟩) n cap) e sz n ((l ++ sp).flatMap f) ∈ L) {c : Nat} (hc : l.length ≤ c) (hc2 : c ≤ 9223372036854775807) : RItems (fun b => b < w.heap.size) w sz f l (.slice (some ⟨g, 0, none⟩) l.length c) := by
  obtain ⟨hl, h1⟩ := h.own _ hm
  rcases h1 with ⟨h1, _⟩ | ⟨g', cap', cur, h1, _, hg, hnc, hcm, hcs, htk⟩
  · cases h1
  · cases h1
    refine ⟨_, c, rfl, hc, hc2, .inr ⟨g, 0, cur, e, (0, 0), rfl, ⟨(Array.getElem?_eq_some_iff.1 hg).1, hg⟩, fun i x hi j u hu => ?_⟩⟩
    have h2 := flat_get hf (l := l ++ sp) (i := i) (by rw [List.getElem?_append_left (List.getElem?_eq_some_iff.1 hi).1]; exact hi) hu
    have h3 := (List.getElem?_eq_some_iff.1 h2).1
    rw [Nat.zero_add, ← Array.getElem?_toList, ← h2, ← htk, List.getElem?_take, if_pos (by omega)]
theorem Mem.ritemsN {α : Type} {f : α → List Value} {sz : Nat} (hf : ∀ x, (f x).length = sz) (h : Mem w0 E Z0 Z wz L w) {v : Value} {e : TypeId} {n : Nat} {l : List α} (hn : l.length = n) (hm : Res.row v e sz n (l.flatMap f) ∈ L) : RItems (fun b => b < w.heap.size) w sz f l v := by
  subst hn
  exact h.ritems hf hm
theorem Mem.fbNow (h : Mem w0 E Z0 Z wz L w) {b : Nat} {o : Obj} (hm : Res.blk b o ∈ L) : FB (fun b => b < w.heap.size) w b o := by
  have : w.heap[b]? = some o := h.own _ hm
  exact ⟨(Array.getElem?_eq_some_iff.1 this).1, this⟩
end
theorem laid_mid {A m B seg : List Value} {o : Nat} (h : o + seg.length ≤ m.length) : laid (A ++ m ++ B) (A.length + o) seg = A ++ laid m o seg ++ B := by
  unfold laid
  rw [List.append_assoc A, List.take_append, List.take_of_length_le (l := A) (by omega), show A.length + o - A.length = o by omega, List.take_append_of_le_length (l₁ := m) (by omega), Nat.add_assoc, List.drop_append, List.drop_of_length_le (l := A) (by omega), show A.length + (o + seg.length) - A.length = o + seg.length by omega, List.drop_append_of_le_length (l₁ := m) (by omega)]
  simp
/-- one of many items is laid over -/
theorem laid_item {α : Type} {f : α → List Value} {sz : Nat} (hf : ∀ x, (f x).length = sz) {l sp : List α} {i o : Nat} {x y : α} {seg : List Value} (hi : l[i]? = some x) (ho : o + seg.length ≤ sz) (hy : laid (f x) o seg = f y) : laid ((l ++ sp).flatMap f) (i * sz + o) seg = ((l.set i y) ++ sp).flatMap f := by
  obtain ⟨hlt, rfl⟩ := List.getElem?_eq_some_iff.1 hi
  have e1 : l ++ sp = l.take i ++ l[i] :: (l.drop (i + 1) ++ sp) := by
    rw [← List.cons_append, ← List.drop_eq_getElem_cons hlt, ← List.append_assoc, List.take_append_drop]
  have e2 : l.set i y ++ sp = l.take i ++ y :: (l.drop (i + 1) ++ sp) := by
    rw [List.set_eq_take_append_cons_drop, if_pos hlt, List.append_assoc, List.cons_append]
  rw [e1, e2, List.flatMap_append, List.flatMap_append, List.flatMap_cons, List.flatMap_cons, ← List.append_assoc, ← List.append_assoc]
  have hA : ((l.take i).flatMap f).length = i * sz := by rw [flat_length hf, List.length_take, Nat.min_eq_left (by omega)]
  rw [← hA, laid_mid (by rw [hf]; exact ho), hy]
theorem ch_path (c : Chg) (p : ByteArray) : laid (chC c) 0 [.string p] = chC ⟨p, c.old, c.new⟩ := rfl
theorem ch_old (c : Chg) (v : Val) : laid (chC c) 1 (valC v) = chC ⟨c.path, v, c.new⟩ := by
  unfold laid chC
  rw [valC_length, show (1 : Nat) + 35 = 36 from rfl]
  simp only [List.take_succ_cons, List.take_zero, List.drop_succ_cons]
  rw [List.drop_append_of_le_length (by rw [valC_length]; omega), List.drop_of_length_le (by rw [valC_length]; omega)]
  simp
theorem ch_new (c : Chg) (v : Val) : laid (chC c) 36 (valC v) = chC ⟨c.path, c.old, v⟩ := by
  unfold laid chC
  simp only [List.take_succ_cons, List.drop_succ_cons]
  rw [List.take_append_of_le_length (by rw [valC_length]; omega), List.take_of_length_le (by rw [valC_length]; omega), valC_length, List.drop_of_length_le (by simp [valC_length])]
  simp
theorem parts_bound : ∀ (l : List Chg), (l.length : Int) ≤ partsL l ∧ ∀ c ∈ l, (c.path.size : Int) ≤ partsL l
  | [] => by simp [partsL]
  | c :: l => by
    have ih := parts_bound l
    have h0 := partsL_nonneg l
    refine ⟨by simp only [partsL, List.length_cons]; omega, fun d hd => ?_⟩
    rcases List.mem_cons.1 hd with rfl | hd
    · simp only [partsL]; omega
    · have := ih.2 d hd; simp only [partsL]; omega
section
variable {P : Program} {N : Nat} {ops : Array Oper} {Q : Post} {t : Fm} {M F : World → Prop} {m fuel : Nat} {listed : Array Bool}
theorem JK_val {i d : Nat} {op : Op} {ty : TypeId} {pos : String} {aft : Array Edge} {v : Value} (hi : ops[i]? = some ⟨some d, op, ty, pos, aft, none⟩) (hd : d < N) (hv : ValOf P N [] t M ⟨some d, op, ty, pos, aft, none⟩ v) (hF : ∀ w, M w → F w)
    (h : JR P N ops Q F m fuel (listed.setIfInBounds i true) ((d, v) :: t) M) : JK P N ops Q F m fuel listed t M i :=
  JK_op (β := Unit) (fun _ => v) (fun _ => M) hi rfl hd trivial (fun a w ha hw => ⟨(), w, hv a w ha hw, hw⟩) (fun _ w hw => hF w hw) (fun _ => h)
end
end Go.Eng

set_option linter.unusedVariables false
set_option linter.unusedSimpArgs false
namespace Go.Eng
open Go Go.RowKit Go.Proofs
theorem en10 : Enters Try.prog 10 := ⟨_, Try.func10, by kernel_rfl, by kernel_rfl⟩
theorem en11 : Enters Try.prog 11 := ⟨_, Try.func11, by kernel_rfl, by kernel_rfl⟩
theorem en12 : Enters Try.prog 12 := ⟨_, Try.func12, by kernel_rfl, by kernel_rfl⟩
theorem en6 : Enters Try.prog 6 := ⟨_, Try.func6, by kernel_rfl, by kernel_rfl⟩
theorem en7 : Enters Try.prog 7 := ⟨_, Try.func7, by kernel_rfl, by kernel_rfl⟩
theorem en8 : Enters Try.prog 8 := ⟨_, Try.func8, by kernel_rfl, by kernel_rfl⟩
theorem en9 : Enters Try.prog 9 := ⟨_, Try.func9, by kernel_rfl, by kernel_rfl⟩

set_option maxRecDepth 8000 in
set_option maxHeartbeats 1000000 in
theorem law3_spec (l : List Chg) (hs : ∀ c ∈ l, c.path.size ≤ 9223372036854775807) (v : Value) (w : World) (hr : RItems (fun b => b < w.heap.size) w 71 chC l v) : SCalls Try.prog 3 #[v] w (fun u => u = .bool true) := by
  obtain ⟨A, c, rfl, hlen⟩ := hr.slice
  refine enter (N := 97) Try.func3 rfl Try.ntmps3 (Nat.le_of_ble_eq_true rfl) [(0, .slice A l.length c)] (by repeat (first | exact trivial | refine ⟨rfl, ?_⟩)) (Mem.start w (fun _ => False) (fun b => b < w.heap.size) (fun _ h => h)) ?_
  refine JC_seq ?_
  refine JC_region ?_
  refine JL_v (vo_assign rfl) nofun (by decide) ?_
  refine JL_nil ?_
  refine JX_then ?_
  refine JC_seq ?_
  refine JC_seq ?_
  refine JC_region ?_
  refine JL_v (vo_move rfl) nofun (by decide) ?_
  refine st_scall rfl en6 (by decide) (fun w hw => few_spec l _ hs w (hr.ext hw.ext_all)) ?_
  rintro _ rfl
  refine JL_v (vo_not rfl) nofun (by decide) ?_
  refine JL_nil ?_
  refine JX_then ?_
  refine JC_cond _ rfl (fun hc12 => ?_) (fun hc12 => ?_)
  · 
    refine JC_seq ?_
    refine JC_region ?_
    refine JL_v (vo_assign rfl) nofun (by decide) ?_
    refine JL_nil ?_
    refine JX_then ?_
    refine JC_ret ?_
    refine JX_then_ret ?_
    refine ret1 rfl rfl ?_
    intro w1 hM; exact SC_end hM rfl
  · have hparts : partsL l ≤ 6000 := by simpa using hc12
    have hpb := parts_bound l
    have hll : l.length ≤ 6000 := by have := hpb.1; omega
    have hps : ∀ c ∈ l, c.path.size ≤ 6000 := fun c hc => by have := hpb.2 c hc; omega
    refine JC_skip ?_
    refine JX_then ?_
    refine JC_seq ?_
    refine JC_region ?_
    refine JL_v (vo_build rfl (by first | exact bl40)) nofun (by decide) ?_
    refine st_box rfl (by decide) (fun b14 => ?_)
    refine JL_v (vo_assign rfl) nofun (by decide) ?_
    refine JL_nil ?_
    refine JX_then ?_
    refine JC_seq ?_
    refine JC_region ?_
    refine JL_nilrow 3 1 ?_
    refine JL_nilrow 22 1 ?_
    refine JL_perm (L' := [.blk b14 (roomO nilS nilS), .row nilS 22 1 0 [], .row nilS 3 1 0 []]) (((List.Perm.swap _ _ _).cons _).trans (List.Perm.swap _ _ _)) ?_
    refine JL_v (vo_move rfl) nofun (by decide) ?_
    refine JL_v (vo_move rfl) nofun (by decide) ?_
    refine st_mcall [.blk b14 (roomO nilS nilS), .row nilS 22 1 0 [], .row nilS 3 1 0 []] [] rfl rfl en7 (by decide) (fun w1 hw => lent_spec b14 nilS nilS 0 0 [] [] l _ (by omega) (by omega) (by omega) w1 hw.holds (hr.ext hw.ext_ZL)) ?_
    rintro _ L' ⟨g, cap, v6', v7', rfl, hgc, hgm, rfl⟩
    rw [List.append_nil]
    refine JL_v (vo_assign rfl) nofun (by decide) ?_
    refine JL_nil ?_
    refine JX_then ?_
    refine JC_seq ?_
    refine JC_region ?_
    refine JL_v (vo_move rfl) nofun (by decide) ?_
    refine st_ocall rfl en8 (by decide) (fun w1 hw => refmoves_spec l (by omega) (fun c hc => by have := hps c hc; omega) _ w1 (hr.ext hw.ext_all)) ?_
    rintro v19 _ _ ⟨rfl, rfl⟩
    refine JL_v (vo_assign rfl) nofun (by decide) ?_
    refine JL_nil ?_
    refine JX_then ?_
    refine JC_seq ?_
    refine JC_region ?_
    refine JL_v (vo_move rfl) nofun (by decide) ?_
    refine st_ocall rfl en9 (by decide) (fun w1 hw => moves_spec l (by omega) (fun c hc => by have := hps c hc; omega) _ w1 (hw.rview chC_length (by repeat (first | exact .head _ | apply List.Mem.tail)) (by omega) (by omega))) ?_
    rintro v21 _ _ ⟨rfl, rfl⟩
    refine JL_v (vo_assign rfl) nofun (by decide) ?_
    refine JL_nil ?_
    refine JX_then ?_
    refine JC_seq ?_
    refine JC_seq ?_
    refine JC_region ?_
    refine JL_v (vo_move rfl) nofun (by decide) ?_
    refine JL_v (vo_move rfl) nofun (by decide) ?_
    refine st_scall rfl en10 (by decide) (fun w1 hw => SCalls.mono (samemoves_spec (movesOf l) (movesOf l) _ _ w1 (hw.ritems mvC_length (by repeat (first | exact .head _ | apply List.Mem.tail))) (hw.ritems mvC_length (by repeat (first | exact .head _ | apply List.Mem.tail)))) (fun u hu => (hu.trans (congrArg Value.bool (decide_eq_true rfl)) : u = .bool true))) ?_
    rintro _ rfl
    refine JL_v (vo_not rfl) nofun (by decide) ?_
    refine JL_v (vo_move rfl) nofun (by decide) ?_
    refine JL_case 26 rfl (fun hg26 => absurd hg26 (by simp)) (fun hg26 => ?_)
    refine JL_yes rfl rfl ?_
    refine JL_v (vo_move rfl) nofun (by decide) ?_
    refine JL_yes rfl rfl ?_
    refine JL_v (vo_move rfl) nofun (by decide) ?_
    refine JL_yes rfl rfl ?_
    refine st_scall rfl en11 (by decide) (fun w1 hw => SCalls.mono (same_spec l l _ _ w1 (hw.rview chC_length (by repeat (first | exact .head _ | apply List.Mem.tail)) (by omega) (by omega)) (hr.ext hw.ext_all)) (fun u hu => (hu.trans (congrArg Value.bool (decide_eq_true rfl)) : u = .bool true))) ?_
    rintro _ rfl
    refine JL_yes rfl rfl ?_
    refine JL_v (vo_not rfl) nofun (by decide) ?_
    refine JL_v (vo_pick rfl rfl) nofun (by decide) ?_
    refine JL_v (vo_move rfl) nofun (by decide) ?_
    refine JL_case 32 rfl (fun hg32 => absurd hg32 (by simp)) (fun hg32 => ?_)
    refine JL_yes rfl rfl ?_
    refine JL_v (vo_move rfl) nofun (by decide) ?_
    refine JL_yes rfl rfl ?_
    refine st_scall rfl en12 (by decide) (fun w1 hw => hold_spec b14 v6' v7' [(l, (.slice (some ⟨g, 0, none⟩) (l.length + 40) cap))] w1 (hw.fbNow (by repeat (first | exact .head _ | apply List.Mem.tail))) (hw.rvals (e := 22) (n := 0 + 1) (xs := [] ++ [(.slice (some ⟨g, 0, none⟩) (l.length + 40) cap)]) (by repeat (first | exact .head _ | apply List.Mem.tail))) (hw.rvals (e := 3) (n := 0 + 1) (xs := [] ++ [.int .i64 l.length]) (by repeat (first | exact .head _ | apply List.Mem.tail))) (fun e he => by
      obtain rfl := List.mem_singleton.1 he
      exact ⟨by dsimp only; omega, hw.ritemsN (n := l.length + 40) (e := 53) chC_length (by simp [sparesC_length]) (by repeat (first | exact .head _ | apply List.Mem.tail))⟩)) ?_
    rintro _ rfl
    refine JL_yes rfl rfl ?_
    refine JL_v (vo_not rfl) nofun (by decide) ?_
    refine JL_v (vo_pick rfl rfl) nofun (by decide) ?_
    refine JL_nil ?_
    refine JX_then ?_
    refine JC_cond _ rfl (fun hc36 => ?_) (fun hc36 => ?_)
    · exact absurd hc36 (by simp)
    · refine JC_skip ?_
      refine JX_then ?_
      refine JC_seq ?_
      refine JC_seq ?_
      refine JC_region ?_
      have hmll : (movesOf l).length ≤ 6000 := Nat.le_trans (moves_len l l.length) hll
      refine JL_rowSlice (v := v21) (e := 48) (sz := 2) (n := (movesOf l).length) (xs := (movesOf l).flatMap mvC) (by repeat (first | exact .head _ | apply List.Mem.tail)) (fun AL cL hv21 => ?_)
      subst hv21
      refine JL_v (vo_assign rfl) nofun (by decide) ?_
      refine JL_nil ?_
      refine JX_then ?_
      refine JC_block ?_
      generalize hnL : (movesOf l).length = nL at *
      refine JC_loop (α := { x : Nat × List Value // x.1 ≤ nL ∧ x.2.length = nL * 2 }) (fun x => [(0, .slice A l.length c), (3, .pointer (some ⟨b14, 0, none⟩)), (4, .slice (some ⟨g, 0, none⟩) l.length (l.length + 40)), (5, v19), (6, .slice AL nL cL), (7, .int .i64 x.1.1)]) (fun x => Mem w (fun _ => False) (fun b => b < w.heap.size) (fun b => b < w.heap.size) w  [.row (.slice AL nL cL) 48 2 nL x.1.2, .row v19 48 2 nL ((movesOf l).flatMap mvC), .row (.slice (some ⟨g, 0, none⟩) (l.length + 40) cap) 53 71 (l.length + 40) ((l ++ sparesC 40).flatMap chC), .blk b14 (roomO v6' v7'), .row v6' 22 1 (0 + 1) ([] ++ [(.slice (some ⟨g, 0, none⟩) (l.length + 40) cap)]), .row v7' 3 1 (0 + 1) ([] ++ [.int .i64 l.length])]) (fun x => nL - x.1.1) ⟨(0, (movesOf l).flatMap mvC), by simp, by show ((movesOf l).flatMap mvC).length = nL * 2; rw [flat_length mvC_length, hnL]⟩ (by repeat (first | exact trivial | refine ⟨rfl, ?_⟩ | refine ⟨trivial, ?_⟩)) (fun w hw => hw) ?_
      rintro ⟨⟨i, xs⟩, hin, hxl⟩
      dsimp only at hin hxl ⊢
      refine JC_seq ?_
      refine JC_seq ?_
      refine JC_region ?_
      refine JL_v (vo_move rfl) nofun (by decide) ?_
      refine JL_v (vo_move rfl) nofun (by decide) ?_
      refine JL_v (vo_len rfl Try.underlying42) nofun (by decide) ?_
      refine JL_v (vo_cmp rfl rfl rfl) nofun (by decide) ?_
      refine JL_nil ?_
      refine JX_then ?_
      refine JC_cond _ rfl (fun hc40 => ?_) (fun hc40 => ?_)
      · have hil : i < nL := by simp at hc40; omega
        refine JC_rowSome3 (v := .slice AL nL cL) (e := 48) (sz := 2) (n := nL) (xs := xs) (by repeat (first | exact .head _ | apply List.Mem.tail)) (by omega) (fun g9 cap9 h9 _ _ => ?_)
        cases h9
        refine JC_skip ?_
        refine JX_then ?_
        refine JC_seq ?_
        refine JC_block ?_
        refine JC_region ?_
        refine JL_v (vo_move rfl) nofun (by decide) ?_
        refine JL_v (vo_move rfl) nofun (by decide) ?_
        refine JL_v (vo_build rfl (by first | exact bl48 _ _)) nofun (by decide) ?_
        refine JL_v (vo_indexAddr rfl rfl Try.underlying42 sz48 (by omega) (by omega)) nofun (by decide) ?_
        refine st_storeRow rfl rfl sz48 (by exact one_of_all rfl) (by show 0 + (i : Int).toNat * 2 + 2 ≤ nL * 2; omega) (by repeat (first | exact .head _ _ _ | apply Turn.tail)) ?_
        refine JL_nil ?_
        refine JX_block ?_
        refine JX_then ?_
        refine JC_region ?_
        refine JL_v (vo_move rfl) nofun (by decide) ?_
        refine JL_v (vo_add rfl rfl (by omega) (by omega)) nofun (by decide) ?_
        refine JL_v (vo_assign rfl) nofun (by decide) ?_
        refine JL_nil ?_
        refine JX_loop ⟨(i + 1, _), hil, ?_⟩ (by show nL - (i + 1) < nL - i; omega) (by repeat (first | exact trivial | refine ⟨rfl, ?_⟩ | refine ⟨trivial, ?_⟩)) (fun w hw => hw)
        refine (laid_length (by show 0 + (i : Int).toNat * 2 + 2 ≤ _; omega)).trans hxl
      · refine JC_exit ?_
        refine JX_then_exit ?_
        refine JX_thenK_exit ?_
        refine JX_block_exit ?_
        refine JX_then ?_
        refine JC_seq ?_
        refine JC_region ?_
        refine JL_v (vo_move rfl) nofun (by decide) ?_
        refine st_ocall rfl en9 (by decide) (fun w1 hw => moves_spec l (by omega) (fun c hc => by have := hps c hc; omega) _ w1 (hw.rview chC_length (by repeat (first | exact .head _ | apply List.Mem.tail)) (by omega) (by omega))) ?_
        rintro v48 _ _ ⟨rfl, rfl⟩
        rw [hnL]
        refine JL_v (vo_assign rfl) nofun (by decide) ?_
        refine JL_nil ?_
        refine JX_then ?_
        refine JC_seq ?_
        refine JC_seq ?_
        refine JC_region ?_
        refine JL_mem (M' := Mem w (fun _ => False) (fun b => b < w.heap.size) (fun b => b < w.heap.size) w  [.row v48 48 2 nL ((movesOf l).flatMap mvC), .row v19 48 2 nL ((movesOf l).flatMap mvC), .row (.slice (some ⟨g, 0, none⟩) (l.length + 40) cap) 53 71 (l.length + 40) ((l ++ sparesC 40).flatMap chC), .blk b14 (roomO v6' v7'), .row v6' 22 1 (0 + 1) ([] ++ [(.slice (some ⟨g, 0, none⟩) (l.length + 40) cap)]), .row v7' 3 1 (0 + 1) ([] ++ [.int .i64 l.length])]) ?_ (fun w hw => hw.sub (.cons_cons _ (.cons _ (List.Sublist.refl _))))
        refine JL_v (vo_assign rfl) nofun (by decide) ?_
        refine JL_nil ?_
        refine JX_then ?_
        refine JC_block ?_
        refine JC_loop (α := { x : Nat × List Chg // x.1 ≤ l.length ∧ x.2.length = l.length ∧ ∀ c ∈ x.2, c.path.size ≤ 6000 + x.1 }) (fun x => [(3, .pointer (some ⟨b14, 0, none⟩)), (4, .slice (some ⟨g, 0, none⟩) l.length (l.length + 40)), (5, v19), (8, v48), (9, .int .i64 x.1.1)]) (fun x => Mem w (fun _ => False) (fun b => b < w.heap.size) (fun b => b < w.heap.size) w  [.row v48 48 2 nL ((movesOf l).flatMap mvC), .row v19 48 2 nL ((movesOf l).flatMap mvC), .row (.slice (some ⟨g, 0, none⟩) (l.length + 40) cap) 53 71 (l.length + 40) ((x.1.2 ++ sparesC 40).flatMap chC), .blk b14 (roomO v6' v7'), .row v6' 22 1 (0 + 1) ([] ++ [(.slice (some ⟨g, 0, none⟩) (l.length + 40) cap)]), .row v7' 3 1 (0 + 1) ([] ++ [.int .i64 l.length])]) (fun x => l.length - x.1.1) ⟨(0, l), by simp, rfl, by simpa using hps⟩ (by repeat (first | exact trivial | refine ⟨rfl, ?_⟩ | refine ⟨trivial, ?_⟩)) (fun w hw => hw) ?_
        rintro ⟨⟨i, m⟩, hi, hm, hmb⟩
        dsimp only at hi hm hmb ⊢
        refine JC_seq ?_
        refine JC_seq ?_
        refine JC_region ?_
        refine JL_v (vo_move rfl) nofun (by decide) ?_
        refine JL_v (vo_move rfl) nofun (by decide) ?_
        refine JL_v (vo_len rfl Try.underlying22) nofun (by decide) ?_
        refine JL_v (vo_cmp rfl rfl rfl) nofun (by decide) ?_
        refine JL_nil ?_
        refine JX_then ?_
        refine JC_cond _ rfl (fun hc52 => ?_) (fun hc52 => ?_)
        · have hil : i < l.length := by simp at hc52; omega
          obtain ⟨ch, hch⟩ : ∃ ch, m[i]? = some ch := ⟨_, List.getElem?_eq_getElem (by omega)⟩
          have hcb := hmb ch (List.mem_of_getElem? hch)
          have hmn : i < m.length := by omega
          have hsx : (⟨#[120]⟩ : ByteArray).size = 1 := rfl
          have hsegp : SegAt ((m ++ sparesC 40).flatMap chC).toArray (0 + (i : Int).toNat * 71) (chC ch) := fun j u hj => by
            rw [List.getElem?_toArray, show 0 + (i : Int).toNat * 71 = i * 71 by omega]
            exact flat_get chC_length (by rw [List.getElem?_append_left hmn]; exact hch) hj
          refine JC_skip ?_
          refine JX_then ?_
          refine JC_seq ?_
          refine JC_block ?_
          refine JC_seq ?_
          refine JC_region ?_
          refine JL_v (vo_move rfl) nofun (by decide) ?_
          refine JL_v (vo_move rfl) nofun (by decide) ?_
          refine JL_v (vo_move rfl) nofun (by decide) ?_
          refine JL_v (vo_move rfl) nofun (by decide) ?_
          refine JL_v (vo_indexAddr rfl rfl Try.underlying22 sz53 (by omega) (by omega)) nofun (by decide) ?_
          refine JL_v (vo_fieldAddr rfl fo53_0) nofun (by decide) ?_
          refine JL_v (vo_loadRow rfl (by repeat (first | exact .head _ | apply List.Mem.tail)) (pc_path hsegp)) nofun (by decide) ?_
          refine JL_v (vo_concat rfl rfl (by first | omega | (simp only [ByteArray.size_append, size47]; omega))) nofun (by decide) ?_
          refine JL_v (vo_indexAddr rfl rfl Try.underlying22 sz53 (by omega) (by omega)) nofun (by decide) ?_
          refine JL_v (vo_fieldAddr rfl fo53_0) nofun (by decide) ?_
          refine st_storeRow rfl rfl sz9 (by exact one_of_all rfl) (by show 0 + (i : Int).toNat * 71 + 0 + 1 ≤ (l.length + 40) * 71; omega) (by repeat (first | exact .head _ _ _ | apply Turn.tail)) ?_
          have hl1 : laid ((m ++ sparesC 40).flatMap chC) (0 + (i : Int).toNat * 71 + 0) (Value.cells (.string (ch.path ++ ⟨#[120]⟩))).toList = ((m.set i ⟨ch.path ++ ⟨#[120]⟩, ch.old, ch.new⟩) ++ sparesC 40).flatMap chC := by
            rw [show 0 + (i : Int).toNat * 71 + 0 = i * 71 + 0 by omega]
            exact laid_item chC_length hch (by show 0 + 1 ≤ 71; omega) (ch_path ch _)
          rw [hl1]
          generalize hm1 : m.set i ⟨ch.path ++ ⟨#[120]⟩, ch.old, ch.new⟩ = m1
          have hm1g : m1[i]? = some ⟨ch.path ++ ⟨#[120]⟩, ch.old, ch.new⟩ := by rw [← hm1, List.getElem?_set_self hmn]
          have hm1n : i < m1.length := by rw [← hm1, List.length_set]; exact hmn
          have hseg1 : SegAt ((m1 ++ sparesC 40).flatMap chC).toArray (0 + (i : Int).toNat * 71) (chC ⟨ch.path ++ ⟨#[120]⟩, ch.old, ch.new⟩) := fun j u hj => by
            rw [List.getElem?_toArray, show 0 + (i : Int).toNat * 71 = i * 71 by omega]
            exact flat_get chC_length (by rw [List.getElem?_append_left hm1n]; exact hm1g) hj
          refine JL_nil ?_
          refine JX_then ?_
          refine JC_draw (F := fun _ => True) 19 (by kernel_rfl) (fun w hw => Mem.drew hw) ?_
          refine JR_v (i := 0) rfl (by kernel_rfl) (by kernel_rfl) rfl (by kernel_rfl) (by kernel_rfl) (panic_block (panic_Then (panic_then (panic_block (panic_Then panic_body))))) (by decide) (vo_move rfl) (fun w hw => trivial) ?_
          refine JR_v (i := 1) rfl (by kernel_rfl) (by kernel_rfl) rfl (by kernel_rfl) (by kernel_rfl) (panic_block (panic_Then (panic_then (panic_block (panic_Then panic_body))))) (by decide) (vo_move rfl) (fun w hw => trivial) ?_
          refine JR_v (i := 2) rfl (by kernel_rfl) (by kernel_rfl) rfl (by kernel_rfl) (by kernel_rfl) (panic_block (panic_Then (panic_then (panic_block (panic_Then panic_body))))) (by decide) (vo_move rfl) (fun w hw => trivial) ?_
          refine JR_v (i := 3) rfl (by kernel_rfl) (by kernel_rfl) rfl (by kernel_rfl) (by kernel_rfl) (panic_block (panic_Then (panic_then (panic_block (panic_Then panic_body))))) (by decide) (vo_move rfl) (fun w hw => trivial) ?_
          refine JR_v (i := 4) rfl (by kernel_rfl) (by kernel_rfl) rfl (by kernel_rfl) (by kernel_rfl) (panic_block (panic_Then (panic_then (panic_block (panic_Then panic_body))))) (by decide) (vo_move rfl) (fun w hw => trivial) ?_
          refine JR_v (i := 5) rfl (by kernel_rfl) (by kernel_rfl) rfl (by kernel_rfl) (by kernel_rfl) (panic_block (panic_Then (panic_then (panic_block (panic_Then panic_body))))) (by decide) (vo_move rfl) (fun w hw => trivial) ?_
          refine JR_v (i := 6) rfl (by kernel_rfl) (by kernel_rfl) rfl (by kernel_rfl) (by kernel_rfl) (panic_block (panic_Then (panic_then (panic_block (panic_Then panic_body))))) (by decide) (vo_indexAddr rfl rfl Try.underlying22 sz53 (by omega) (by omega)) (fun w hw => trivial) ?_
          refine JR_v (i := 7) rfl (by kernel_rfl) (by kernel_rfl) rfl (by kernel_rfl) (by kernel_rfl) (panic_block (panic_Then (panic_then (panic_block (panic_Then panic_body))))) (by decide) (vo_fieldAddr rfl fo53_2) (fun w hw => trivial) ?_
          refine JR_v (i := 9) rfl (by kernel_rfl) (by kernel_rfl) rfl (by kernel_rfl) (by kernel_rfl) (panic_block (panic_Then (panic_then (panic_block (panic_Then panic_body))))) (by decide) (vo_move rfl) (fun w hw => trivial) ?_
          refine JR_v (i := 10) rfl (by kernel_rfl) (by kernel_rfl) rfl (by kernel_rfl) (by kernel_rfl) (panic_block (panic_Then (panic_then (panic_block (panic_Then panic_body))))) (by decide) (vo_move rfl) (fun w hw => trivial) ?_
          refine JR_v (i := 11) rfl (by kernel_rfl) (by kernel_rfl) rfl (by kernel_rfl) (by kernel_rfl) (panic_block (panic_Then (panic_then (panic_block (panic_Then panic_body))))) (by decide) (vo_indexAddr rfl rfl Try.underlying22 sz53 (by omega) (by omega)) (fun w hw => trivial) ?_
          refine JR_v (i := 12) rfl (by kernel_rfl) (by kernel_rfl) rfl (by kernel_rfl) (by kernel_rfl) (panic_block (panic_Then (panic_then (panic_block (panic_Then panic_body))))) (by decide) (vo_fieldAddr rfl fo53_1) (fun w hw => trivial) ?_
          refine JR_split [8, 13] (by kernel_rfl) rfl (all2 ?_ ?_)
          · refine JK_val rfl (by decide) (vo_loadRow rfl (by repeat (first | exact .head _ | apply List.Mem.tail)) (pc_new hseg1)) (fun _ _ => trivial) ?_
            refine JR_split [13] (by kernel_rfl) rfl (all1 ?_)
            refine JK_val rfl (by decide) (vo_loadRow rfl (by repeat (first | exact .head _ | apply List.Mem.tail)) (pc_old hseg1)) (fun _ _ => trivial) ?_
            refine JR_v (i := 14) rfl (by kernel_rfl) (by kernel_rfl) rfl (by kernel_rfl) (by kernel_rfl) (panic_block (panic_Then (panic_then (panic_block (panic_Then panic_body))))) (by decide) (vo_indexAddr rfl rfl Try.underlying22 sz53 (by omega) (by omega)) (fun w hw => trivial) ?_
            refine JR_v (i := 15) rfl (by kernel_rfl) (by kernel_rfl) rfl (by kernel_rfl) (by kernel_rfl) (panic_block (panic_Then (panic_then (panic_block (panic_Then panic_body))))) (by decide) (vo_fieldAddr rfl fo53_1) (fun w hw => trivial) ?_
            refine JR_split [16] (by kernel_rfl) rfl (all1 ?_)
            refine JK_do _ rfl rfl trivial (do_storeRow rfl rfl sz51 (by exact one_of_all rfl) (by show 0 + (i : Int).toNat * 71 + 1 + 35 ≤ (l.length + 40) * 71; omega) (by repeat (first | exact .head _ _ _ | apply Turn.tail))) (fun _ _ => trivial) ?_
            have hl2 : laid ((m1 ++ sparesC 40).flatMap chC) (0 + (i : Int).toNat * 71 + 1) (Value.cells (.agg (valC ch.new).toArray)).toList = ((m1.set i ⟨ch.path ++ ⟨#[120]⟩, ch.new, ch.new⟩) ++ sparesC 40).flatMap chC := by
              rw [show 0 + (i : Int).toNat * 71 + 1 = i * 71 + 1 by omega]
              exact laid_item chC_length hm1g (by show 1 + 35 ≤ 71; omega) (ch_old _ _)
            refine JR_mem ?_ (fun w hw => (by rw [hl2] at hw; exact hw))
            have hm2g : (m1.set i ⟨ch.path ++ ⟨#[120]⟩, ch.new, ch.new⟩)[i]? = some ⟨ch.path ++ ⟨#[120]⟩, ch.new, ch.new⟩ := by rw [List.getElem?_set_self hm1n]
            have hl3 : laid (((m1.set i ⟨ch.path ++ ⟨#[120]⟩, ch.new, ch.new⟩) ++ sparesC 40).flatMap chC) (0 + (i : Int).toNat * 71 + 36) (Value.cells (.agg (valC ch.old).toArray)).toList = (((m1.set i ⟨ch.path ++ ⟨#[120]⟩, ch.new, ch.new⟩).set i ⟨ch.path ++ ⟨#[120]⟩, ch.new, ch.old⟩) ++ sparesC 40).flatMap chC := by
              rw [show 0 + (i : Int).toNat * 71 + 36 = i * 71 + 36 by omega]
              exact laid_item chC_length hm2g (by show 36 + 35 ≤ 71; omega) (ch_new _ _)
            refine JR_v (i := 17) rfl (by kernel_rfl) (by kernel_rfl) rfl (by kernel_rfl) (by kernel_rfl) (panic_block (panic_Then (panic_then (panic_block (panic_Then panic_body))))) (by decide) (vo_indexAddr rfl rfl Try.underlying22 sz53 (by omega) (by omega)) (fun w hw => trivial) ?_
            refine JR_v (i := 18) rfl (by kernel_rfl) (by kernel_rfl) rfl (by kernel_rfl) (by kernel_rfl) (panic_block (panic_Then (panic_then (panic_block (panic_Then panic_body))))) (by decide) (vo_fieldAddr rfl fo53_2) (fun w hw => trivial) ?_
            refine JR_last rfl rfl (fun a ha => rfl) (by kernel_rfl) (by kernel_rfl) _ (do_storeRow rfl rfl sz51 (by exact one_of_all rfl) (by show 0 + (i : Int).toNat * 71 + 36 + 35 ≤ (l.length + 40) * 71; omega) (by repeat (first | exact .head _ _ _ | apply Turn.tail))) (by exact Nat.le_of_ble_eq_true rfl) ?_
            refine JX_block ?_
            refine JX_then ?_
            refine JC_region ?_
            refine JL_v (vo_move rfl) nofun (by decide) ?_
            refine JL_v (vo_add rfl rfl (by omega) (by omega)) nofun (by decide) ?_
            refine JL_v (vo_assign rfl) nofun (by decide) ?_
            refine JL_nil ?_
            refine JX_loop ⟨(i + 1, (m1.set i ⟨ch.path ++ ⟨#[120]⟩, ch.new, ch.new⟩).set i ⟨ch.path ++ ⟨#[120]⟩, ch.new, ch.old⟩), hil, by rw [List.length_set, List.length_set, ← hm1, List.length_set]; exact hm, fun c hc => ?_⟩ (by show l.length - (i + 1) < l.length - i; omega) (by repeat (first | exact trivial | refine ⟨rfl, ?_⟩ | refine ⟨trivial, ?_⟩)) (fun w hw => by rw [hl3] at hw; exact hw)
            rw [List.set_set, ← hm1, List.set_set] at hc
            rcases List.mem_or_eq_of_mem_set hc with hc | rfl
            · have := hmb c hc; dsimp only; omega
            · dsimp only
              rw [ByteArray.size_append]
              have : (⟨#[120]⟩ : ByteArray).size = 1 := rfl
              omega
          · refine JK_val rfl (by decide) (vo_loadRow rfl (by repeat (first | exact .head _ | apply List.Mem.tail)) (pc_old hseg1)) (fun _ _ => trivial) ?_
            refine JR_split [8] (by kernel_rfl) rfl (all1 ?_)
            refine JK_val rfl (by decide) (vo_loadRow rfl (by repeat (first | exact .head _ | apply List.Mem.tail)) (pc_new hseg1)) (fun _ _ => trivial) ?_
            refine JR_v (i := 14) rfl (by kernel_rfl) (by kernel_rfl) rfl (by kernel_rfl) (by kernel_rfl) (panic_block (panic_Then (panic_then (panic_block (panic_Then panic_body))))) (by decide) (vo_indexAddr rfl rfl Try.underlying22 sz53 (by omega) (by omega)) (fun w hw => trivial) ?_
            refine JR_v (i := 15) rfl (by kernel_rfl) (by kernel_rfl) rfl (by kernel_rfl) (by kernel_rfl) (panic_block (panic_Then (panic_then (panic_block (panic_Then panic_body))))) (by decide) (vo_fieldAddr rfl fo53_1) (fun w hw => trivial) ?_
            refine JR_split [16] (by kernel_rfl) rfl (all1 ?_)
            refine JK_do _ rfl rfl trivial (do_storeRow rfl rfl sz51 (by exact one_of_all rfl) (by show 0 + (i : Int).toNat * 71 + 1 + 35 ≤ (l.length + 40) * 71; omega) (by repeat (first | exact .head _ _ _ | apply Turn.tail))) (fun _ _ => trivial) ?_
            have hl2 : laid ((m1 ++ sparesC 40).flatMap chC) (0 + (i : Int).toNat * 71 + 1) (Value.cells (.agg (valC ch.new).toArray)).toList = ((m1.set i ⟨ch.path ++ ⟨#[120]⟩, ch.new, ch.new⟩) ++ sparesC 40).flatMap chC := by
              rw [show 0 + (i : Int).toNat * 71 + 1 = i * 71 + 1 by omega]
              exact laid_item chC_length hm1g (by show 1 + 35 ≤ 71; omega) (ch_old _ _)
            refine JR_mem ?_ (fun w hw => (by rw [hl2] at hw; exact hw))
            have hm2g : (m1.set i ⟨ch.path ++ ⟨#[120]⟩, ch.new, ch.new⟩)[i]? = some ⟨ch.path ++ ⟨#[120]⟩, ch.new, ch.new⟩ := by rw [List.getElem?_set_self hm1n]
            have hl3 : laid (((m1.set i ⟨ch.path ++ ⟨#[120]⟩, ch.new, ch.new⟩) ++ sparesC 40).flatMap chC) (0 + (i : Int).toNat * 71 + 36) (Value.cells (.agg (valC ch.old).toArray)).toList = (((m1.set i ⟨ch.path ++ ⟨#[120]⟩, ch.new, ch.new⟩).set i ⟨ch.path ++ ⟨#[120]⟩, ch.new, ch.old⟩) ++ sparesC 40).flatMap chC := by
              rw [show 0 + (i : Int).toNat * 71 + 36 = i * 71 + 36 by omega]
              exact laid_item chC_length hm2g (by show 36 + 35 ≤ 71; omega) (ch_new _ _)
            refine JR_v (i := 17) rfl (by kernel_rfl) (by kernel_rfl) rfl (by kernel_rfl) (by kernel_rfl) (panic_block (panic_Then (panic_then (panic_block (panic_Then panic_body))))) (by decide) (vo_indexAddr rfl rfl Try.underlying22 sz53 (by omega) (by omega)) (fun w hw => trivial) ?_
            refine JR_v (i := 18) rfl (by kernel_rfl) (by kernel_rfl) rfl (by kernel_rfl) (by kernel_rfl) (panic_block (panic_Then (panic_then (panic_block (panic_Then panic_body))))) (by decide) (vo_fieldAddr rfl fo53_2) (fun w hw => trivial) ?_
            refine JR_last rfl rfl (fun a ha => rfl) (by kernel_rfl) (by kernel_rfl) _ (do_storeRow rfl rfl sz51 (by exact one_of_all rfl) (by show 0 + (i : Int).toNat * 71 + 36 + 35 ≤ (l.length + 40) * 71; omega) (by repeat (first | exact .head _ _ _ | apply Turn.tail))) (by exact Nat.le_of_ble_eq_true rfl) ?_
            refine JX_block ?_
            refine JX_then ?_
            refine JC_region ?_
            refine JL_v (vo_move rfl) nofun (by decide) ?_
            refine JL_v (vo_add rfl rfl (by omega) (by omega)) nofun (by decide) ?_
            refine JL_v (vo_assign rfl) nofun (by decide) ?_
            refine JL_nil ?_
            refine JX_loop ⟨(i + 1, (m1.set i ⟨ch.path ++ ⟨#[120]⟩, ch.new, ch.new⟩).set i ⟨ch.path ++ ⟨#[120]⟩, ch.new, ch.old⟩), hil, by rw [List.length_set, List.length_set, ← hm1, List.length_set]; exact hm, fun c hc => ?_⟩ (by show l.length - (i + 1) < l.length - i; omega) (by repeat (first | exact trivial | refine ⟨rfl, ?_⟩ | refine ⟨trivial, ?_⟩)) (fun w hw => by rw [hl3] at hw; exact hw)
            rw [List.set_set, ← hm1, List.set_set] at hc
            rcases List.mem_or_eq_of_mem_set hc with hc | rfl
            · have := hmb c hc; dsimp only; omega
            · dsimp only
              rw [ByteArray.size_append]
              have : (⟨#[120]⟩ : ByteArray).size = 1 := rfl
              omega
        · refine JC_exit ?_
          refine JX_then_exit ?_
          refine JX_thenK_exit ?_
          refine JX_block_exit ?_
          refine JX_then ?_
          refine JC_seq ?_
          refine JC_region ?_
          have hie : i = l.length := by simp at hc52; omega
          have hml := moves_len m m.length
          refine JL_v (vo_move rfl) nofun (by decide) ?_
          refine JL_v (vo_move rfl) nofun (by decide) ?_
          refine st_scall rfl en10 (by decide) (fun w1 hw => SCalls.mono (samemoves_spec (movesOf l) (movesOf l) _ _ w1 (hw.ritemsN mvC_length hnL (by repeat (first | exact .head _ | apply List.Mem.tail))) (hw.ritemsN mvC_length hnL (by repeat (first | exact .head _ | apply List.Mem.tail)))) (fun u hu => (hu.trans (congrArg Value.bool (decide_eq_true rfl)) : u = .bool true))) ?_
          rintro _ rfl
          refine JL_v (vo_move rfl) nofun (by decide) ?_
          refine JL_case 86 rfl (fun hg86 => ?_) (fun hg86 => absurd hg86 (by simp))
          refine JL_yes rfl rfl ?_
          refine JL_v (vo_move rfl) nofun (by decide) ?_
          refine JL_yes rfl rfl ?_
          refine st_ocall rfl en9 (by decide) (fun w1 hw => moves_spec m (by omega) (fun c hc => by have := hmb c hc; omega) _ w1 (by have h9 := hw.rview (l := m) (sp := sparesC 40) (n := l.length + 40) (e := 53) (cap := cap) (c := l.length + 40) chC_length (by repeat (first | exact .head _ | apply List.Mem.tail)) (by omega) (by omega); rw [hm] at h9; exact h9)) ?_
          rintro v88 _ _ ⟨rfl, rfl⟩
          refine JL_yes rfl rfl ?_
          refine JL_v (vo_move rfl) nofun (by decide) ?_
          refine JL_yes rfl rfl ?_
          refine st_ocall rfl en8 (by decide) (fun w1 hw => refmoves_spec m (by omega) (fun c hc => by have := hmb c hc; omega) _ w1 (by have h9 := hw.rview (l := m) (sp := sparesC 40) (n := l.length + 40) (e := 53) (cap := cap) (c := l.length + 40) chC_length (by repeat (first | exact .head _ | apply List.Mem.tail)) (by omega) (by omega); rw [hm] at h9; exact h9)) ?_
          rintro v90 _ _ ⟨rfl, rfl⟩
          refine JL_yes rfl rfl ?_
          refine st_scall rfl en10 (by decide) (fun w1 hw => SCalls.mono (samemoves_spec (movesOf m) (movesOf m) _ _ w1 (hw.ritems mvC_length (by repeat (first | exact .head _ | apply List.Mem.tail))) (hw.ritems mvC_length (by repeat (first | exact .head _ | apply List.Mem.tail)))) (fun u hu => (hu.trans (congrArg Value.bool (decide_eq_true rfl)) : u = .bool true))) ?_
          rintro _ rfl
          refine JL_v (vo_pick rfl rfl) nofun (by decide) ?_
          refine JL_v (vo_move rfl) nofun (by decide) ?_
          refine JL_case 93 rfl (fun hg93 => ?_) (fun hg93 => absurd hg93 (by simp))
          refine JL_yes rfl rfl ?_
          refine JL_v (vo_move rfl) nofun (by decide) ?_
          refine JL_yes rfl rfl ?_
          refine st_scall rfl en12 (by decide) (fun w1 hw => hold_spec b14 v6' v7' [(m, (.slice (some ⟨g, 0, none⟩) (l.length + 40) cap))] w1 (hw.fbNow (by repeat (first | exact .head _ | apply List.Mem.tail))) (hw.rvals (e := 22) (n := 0 + 1) (xs := [] ++ [(.slice (some ⟨g, 0, none⟩) (l.length + 40) cap)]) (by repeat (first | exact .head _ | apply List.Mem.tail))) (by have h9 := hw.rvals (e := 3) (n := 0 + 1) (xs := [] ++ [.int .i64 l.length]) (by repeat (first | exact .head _ | apply List.Mem.tail)); rw [← hm] at h9; exact h9) (fun e he => by
            obtain rfl := List.mem_singleton.1 he
            exact ⟨by dsimp only; omega, hw.ritemsN (n := l.length + 40) (e := 53) chC_length (by simp [sparesC_length, hm]) (by repeat (first | exact .head _ | apply List.Mem.tail))⟩)) ?_
          rintro _ rfl
          refine JL_v (vo_pick rfl rfl) nofun (by decide) ?_
          refine JL_v (vo_assign rfl) nofun (by decide) ?_
          refine JL_nil ?_
          refine JX_then ?_
          refine JC_ret ?_
          refine ret1 rfl rfl ?_
          intro w1 hM; exact SC_end hM rfl

end Go.Eng
