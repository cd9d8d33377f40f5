/-
  Part of the proofs over this seat: S9 G11 S10 G12. Own work; imports the kit.
-/
import Derived.OpenShut
import Derived.Lib.SmallJoins
import Derived.Test.YtdeelajgigglgaaSumWalk2
import Derived.Test.YtdeelajgigglgaaEng3
set_option linter.unusedVariables false
set_option linter.unusedSimpArgs false
namespace Go.Eng
open Go Go.RowKit Go.Proofs
theorem ap3 : (Try.prog.info? 3).map (fun i => (i.zero, i.size, i.bytes)) = some (some (.int .i64 0), 1, 8) := by kernel_rfl
theorem en54 : Enters Try.prog 54 := ⟨_, Try.func54, by kernel_rfl, by kernel_rfl⟩
theorem en56 : Enters Try.prog 56 := ⟨_, Try.func56, by kernel_rfl, by kernel_rfl⟩
theorem en57 : Enters Try.prog 57 := ⟨_, Try.func57, by kernel_rfl, by kernel_rfl⟩
theorem en59 : Enters Try.prog 59 := ⟨_, Try.func59, by kernel_rfl, by kernel_rfl⟩
theorem sz54 : (Try.prog.info? 54).map (·.size) = some 1 := by kernel_rfl
theorem sz99 : (Try.prog.info? 99).map (·.size) = some 1 := by kernel_rfl
theorem zr3 : (Try.prog.info? 3).bind (·.zero) = some (.int .i64 0) := by kernel_rfl
theorem zr54 : (Try.prog.info? 54).bind (·.zero) = some (.slice none 0 0) := by kernel_rfl
theorem zr99 : (Try.prog.info? 99).bind (·.zero) = some (.nilFunc) := by kernel_rfl

set_option maxRecDepth 8000 in
set_option maxHeartbeats 1000000 in
theorem find_spec (old b : List UInt8) (hl1 : old.length ≤ 1000000) (hl2 : b.length ≤ 1000000) (v1 v2 : Value) (w : World) (hr1 : RVals (fun b => b < w.heap.size) w (bytesC old) v1) (hr2 : RVals (fun b => b < w.heap.size) w (bytesC b) v2) : OCalls Try.prog 14 #[v1, v2] w 60 2 (fun n xs => n = (findF old b 0).length ∧ xs = (findF old b 0).flatMap fdC) := by
  obtain ⟨A1, c1, rfl, hn1, hc1⟩ := bytes_slice hr1
  obtain ⟨A2, c2, rfl, hn2, hc2⟩ := bytes_slice hr2
  refine enter (N := 89) Try.func14 rfl Try.ntmps14 (Nat.le_of_ble_eq_true rfl) [(0, .slice A1 old.length c1), (1, .slice A2 b.length c2)] (by repeat (first | exact trivial | refine ⟨rfl, ?_⟩)) (Mem.start w (fun _ => False) (fun b => b < w.heap.size) (fun _ h => h)) ?_
  refine JC_seq ?_
  refine JC_region ?_
  refine st_box rfl (by decide) (fun b2 => ?_)
  refine JL_v (vo_assign rfl) nofun (by decide) ?_
  refine JL_nil ?_
  refine JX_then ?_
  refine JC_seq ?_
  refine JC_region ?_
  refine st_makeMap (d := .int .u32) (kf := fun a => Value.int .u32 a) (by decide) (fun b15 o15 hm15 => ?_)
  refine JL_v (vo_assign rfl) nofun (by decide) ?_
  refine JL_nil ?_
  refine JX_then ?_
  refine JC_seq ?_
  refine JC_region ?_
  refine JL_v (vo_makeFunc rfl rfl) nofun (by decide) ?_
  refine st_alloc zr99 (by decide) (fun b6 => ?_)
  refine st_store rfl rfl sz99 (by first | exact one_of_all rfl | assumption) (by repeat (first | exact .head _ _ _ | apply Turn.tail)) (by exact Nat.le_of_ble_eq_true rfl) (by rfl) ?_
  refine JL_nil ?_
  refine JX_then ?_
  refine JC_seq ?_
  refine JC_seq ?_
  refine JC_region ?_
  refine JL_freezeBlk (.head _ _) (fun Za wza ea hfb6a => ?_)
  refine JL_freezeBlk (.tail _ (.head _ _)) (fun Zk wzk ek hfb2 => ?_)
  have hfb6 := ek.fb _ _ hfb6a
  have he := ea.trans ek
  have hr1k := hr1.ext he
  have hr2k := hr2.ext he
  refine JL_v (vo_load rfl (by first | exact .frz ‹_› | exact .own (by repeat (first | exact .head _ | refine .tail _ ?_))) (by first | exact .cell Try.underlying54 rfl rfl | exact .cell Try.underlying3 rfl hcell1 | exact .cell Try.underlying5 rfl hcell2)) nofun (by decide) ?_
  refine JL_v (vo_len rfl Try.underlying54) nofun (by decide) ?_
  refine JL_v (vo_quo rfl rfl (by omega) (by omega) (by omega)) nofun (by decide) ?_
  refine JL_v (vo_move rfl) nofun (by decide) ?_
  refine JL_nil ?_
  refine JX_then ?_
  refine JC_block ?_
  refine JC_loop (α := At14 old) (fun x => [(1, .slice A2 b.length c2), (2, .pointer (some ⟨b2, 0, none⟩)), (5, .map (some b15)), (6, .pointer (some ⟨b6, 0, none⟩)), (19, .int .i64 ((old.length : Int) / 512)), (20, .int .i64 x.k)]) (fun x => Mem w (fun _ => False) (fun b => b < w.heap.size)  Zk wzk (.blk b15 x.o :: grpR x.st)) (fun x => old.length / 512 - x.k) ⟨0, [], o15, by omega, hm15, by intro x; simp [grpG, ofSum]⟩ (by repeat (first | exact trivial | refine ⟨rfl, ?_⟩ | refine ⟨trivial, ?_⟩)) (fun w hw => by simpa [grpR, rowsR] using hw) ?_
  rintro ⟨k, st, o, hk, hm, hg⟩
  dsimp only
  refine JC_seq ?_
  refine JC_region ?_
  refine JL_v (vo_cmp rfl rfl rfl) nofun (by decide) ?_
  refine JL_nil ?_
  refine JX_then ?_
  refine JC_seq ?_
  refine JC_cond _ rfl (fun hc21 => ?_) (fun hc21 => ?_)
  · have hk1 : k < old.length / 512 := by simp at hc21; omega
    have hk5 : (k + 1) * 512 ≤ old.length := by omega
    have hps : RVals Zk wzk (bytesC (piece old (k * 512))) (Go.sliced A1 ((k : Int) * 512).toNat (((k : Int) + 1) * 512).toNat c1 1) := by
      have := bytes_sliced (lo := (k : Int) * 512) (hi := ((k : Int) + 1) * 512) hr1k (by omega) (by omega) (by omega)
      rw [show (((k : Int) + 1) * 512).toNat - ((k : Int) * 512).toNat = 512 by omega, show ((k : Int) * 512).toNat = k * 512 by omega] at this
      rw [show ((k : Int) * 512).toNat = k * 512 by omega]
      exact this
    have hpl : (piece old (k * 512)).length = 512 := piece_length (by omega)
    refine JC_skip ?_
    refine JX_then ?_
    refine JC_seq ?_
    refine JC_block ?_
    refine JC_seq ?_
    refine JC_region ?_
    refine JL_v (vo_move rfl) nofun (by decide) ?_
    refine JL_v (vo_assign rfl) nofun (by decide) ?_
    refine JL_nil ?_
    refine JX_then ?_
    refine JC_seq ?_
    refine JC_region ?_
    refine JL_v (vo_load rfl (by first | exact .frz ‹_› | exact .own (by repeat (first | exact .head _ | refine .tail _ ?_))) (by first | exact .cell Try.underlying99 rfl rfl | exact .cell Try.underlying3 rfl hcell1 | exact .cell Try.underlying5 rfl hcell2)) nofun (by decide) ?_
    refine JL_v (vo_move rfl) nofun (by decide) ?_
    refine st_scallF rfl rfl en53 (by decide) (fun w1 hw => whole_spec old A1 c1 k (by omega) (by omega) hn1 hc1 b2 w1 (hw.ext_all.fb _ _ hfb2)) ?_
    rintro _ rfl
    refine st_mcall [] _ rfl rfl en54 (by decide) (fun w1 hw => new_spec (piece old (k * 512)) _ (by omega) w1 (hps.ext hw.ext_all)) ?_
    rintro _ L' ⟨br, sp, rfl, rfl⟩
    refine st_scall rfl en55 (by decide) (fun w1 hw => sum_spec br _ _ _ _ w1 (hw.own _ (.head _))) ?_
    rintro _ rfl
    refine JL_v (vo_assign rfl) nofun (by decide) ?_
    refine JL_nil ?_
    refine JX_then ?_
    refine JC_region ?_
    refine JL_v (vo_move rfl) nofun (by decide) ?_
    refine JL_v (vo_move rfl) nofun (by decide) ?_
    refine JL_v (vo_move rfl) nofun (by decide) ?_
    refine JL_v (vo_move rfl) nofun (by decide) ?_
    refine JL_v (vo_lookup (k := wsum (piece old (k * 512))) (fun a b h => by cases h; rfl) rfl rfl Try.underlying98 Try.underlying100 rfl zr26 (.own (by repeat (first | exact .head _ | refine .tail _ ?_))) hm) nofun (by decide) ?_
    rcases grp_split st (wsum (piece old (k * 512))) with ⟨s1, ⟨x, u, ks⟩, s2, rfl, hex, hne⟩ | hne
    · have hex' : x = wsum (piece old (k * 512)) := hex
      subst hex'
      have hks : (natsC ks).length ≤ 1000000 := by
        have h1 := hg (wsum (piece old (k * 512)))
        rw [grpG_mid hne] at h1
        rw [natsC_length, h1]
        exact Nat.le_trans (List.length_filter_le _ _) (by simp; omega)
      rw [grpM_mid] at hm
      rw [grpM_mid, (aget_mid (grpM_ne hne)).1, grpR_mid]
      dsimp only [Option.getD]
      refine JL_v (vo_move rfl) nofun (by decide) ?_
      refine st_bslice1 rfl Try.underlying26 (by first | exact zr3) sz3 (by exact Nat.le_of_ble_eq_true rfl) (by exact Nat.ne_of_gt (Nat.le_of_ble_eq_true rfl)) (by decide) (fun b34 => ?_)
      refine st_appendB rfl rfl Try.underlying26 ap3 (by rfl) (by decide) (by first | exact .own (by repeat (first | exact .head _ | refine .tail _ ?_))) (by repeat (first | exact .head _ | exact TurnF.mid _ _ | apply TurnF.tail)) (by rfl) (by exact one_of_all rfl) (by omega) (by decide) (by decide) (fun v35 => ?_)
      refine st_mapUpdate (k := wsum (piece old (k * 512))) (fun a b h => by cases h; rfl) rfl rfl rfl Try.underlying98 Try.underlying100 rfl hm (by repeat (first | exact .head _ | apply TurnF.tail)) (fun o' hm' => ?_)
      refine JL_nil ?_
      refine JX_block ?_
      refine JX_then ?_
      refine JC_region ?_
      refine JL_v (vo_add rfl rfl (by omega) (by omega)) nofun (by decide) ?_
      refine JL_v (vo_move rfl) nofun (by decide) ?_
      refine JL_nil ?_
      rw [(aget_mid (grpM_ne hne)).2] at hm'
      refine JX_loop ⟨k + 1, s1 ++ (wsum (piece old (k * 512)), v35, ks ++ [k]) :: s2, o', hk1, by rw [grpM_mid]; exact hm', grp_mid rfl hg hne v35⟩ (by show old.length / 512 - (k + 1) < old.length / 512 - k; omega) (by repeat (first | exact trivial | refine ⟨rfl, ?_⟩ | refine ⟨trivial, ?_⟩)) (fun w hw => ?_)
      dsimp only
      rw [grpR_mid, natsC_snoc, List.length_append]
      exact hw.sub (.cons _ (.cons _ (.cons _ (List.Sublist.refl _))))
    · rw [(aget_none (grpM_ne hne)).1]
      dsimp only [Option.getD]
      refine JL_nilrow 3 1 ?_
      refine JL_v (vo_move rfl) nofun (by decide) ?_
      refine st_bslice1 rfl Try.underlying26 (by first | exact zr3) sz3 (by exact Nat.le_of_ble_eq_true rfl) (by exact Nat.ne_of_gt (Nat.le_of_ble_eq_true rfl)) (by decide) (fun b34 => ?_)
      refine st_appendB rfl rfl Try.underlying26 ap3 (by rfl) (by decide) (by first | exact .own (by repeat (first | exact .head _ | refine .tail _ ?_))) (by repeat (first | exact .head _ | exact TurnF.mid _ _ | apply TurnF.tail)) (by rfl) (by exact one_of_all rfl) (by omega) (by decide) (by decide) (fun v35 => ?_)
      refine st_mapUpdate (k := wsum (piece old (k * 512))) (fun a b h => by cases h; rfl) rfl rfl rfl Try.underlying98 Try.underlying100 rfl hm (by repeat (first | exact .head _ | apply TurnF.tail)) (fun o' hm' => ?_)
      refine JL_nil ?_
      refine JX_block ?_
      refine JX_then ?_
      refine JC_region ?_
      refine JL_v (vo_add rfl rfl (by omega) (by omega)) nofun (by decide) ?_
      refine JL_v (vo_move rfl) nofun (by decide) ?_
      refine JL_nil ?_
      rw [(aget_none (grpM_ne hne)).2] at hm'
      refine JX_loop ⟨k + 1, st ++ [(wsum (piece old (k * 512)), v35, [k])], o', hk1, by simpa [grpM] using hm', grp_snoc rfl hg hne v35⟩ (by show old.length / 512 - (k + 1) < old.length / 512 - k; omega) (by repeat (first | exact trivial | refine ⟨rfl, ?_⟩ | refine ⟨trivial, ?_⟩)) (fun w hw => ?_)
      have h1 := (hw.sub (.cons _ (.cons_cons _ (.cons _ (.cons _ (List.Sublist.refl _)))))).perm (List.perm_append_singleton _ _).symm
      simpa [grpR, rowsR, natsC, intsC, Value.cells] using h1
  · have hkN : k = old.length / 512 := by simp at hc21; omega
    subst hkN
    refine JC_exit ?_
    refine JX_then_exit ?_
    refine JX_thenK_exit ?_
    refine JX_block_exit ?_
    refine JX_then ?_
    refine JC_seq ?_
    refine JC_region ?_
    refine JL_freezeBlk (.head _ _) (fun Z3 wz3 e3 hfbm0 => ?_)
    rw [show grpR st = rowsR 3 (st.map fun e => (e.2.1, natsC e.2.2)) ++ [] from (List.append_nil _).symm]
    refine JL_freezeRows _ (fun Z4 wz4 e4 hrows => ?_)
    have h34 := e3.trans e4
    have hr1q := hr1k.ext h34
    have hr2q := hr2k.ext h34
    have hfb2q := h34.fb _ _ hfb2
    have hfb6q := h34.fb _ _ hfb6
    have hfbm := e4.fb _ _ hfbm0
    refine JL_nilrow 60 2 ?_
    refine JL_v (vo_assign rfl) nofun (by decide) ?_
    refine JL_nil ?_
    refine JX_then ?_
    refine JC_seq ?_
    refine JC_region ?_
    refine JL_v (vo_assign rfl) nofun (by decide) ?_
    refine JL_nil ?_
    refine JX_then ?_
    refine JC_seq ?_
    refine JC_block ?_
    refine JC_loop (α := { x : Nat × List (Int × Int) × Value // x.1 ≤ b.length ∧ x.2.1.length ≤ x.1 ∧ x.2.1 ++ findF old b x.1 = findF old b 0 }) (fun x => [(1, .slice A2 b.length c2), (5, .map (some b15)), (6, .pointer (some ⟨b6, 0, none⟩)), (9, x.1.2.2), (10, .int .i64 x.1.1)]) (fun x => Mem w (fun _ => False) (fun b => b < w.heap.size)  Z4 wz4 [.row x.1.2.2 60 2 x.1.2.1.length (x.1.2.1.flatMap fdC)]) (fun x => b.length - x.1.1) ⟨(0, [], _), by simp, by simp, by simp⟩ (by repeat (first | exact trivial | refine ⟨rfl, ?_⟩ | refine ⟨trivial, ?_⟩)) (fun w hw => hw) ?_
    rintro ⟨⟨i0, out, vl⟩, hib, hoi, hinv⟩
    dsimp only at hib hoi hinv ⊢
    refine JC_seq ?_
    refine JC_seq ?_
    refine JC_region ?_
    refine JL_v (vo_move rfl) nofun (by decide) ?_
    refine JL_v (vo_add rfl rfl (by omega) (by omega)) nofun (by decide) ?_
    refine JL_v (vo_move rfl) nofun (by decide) ?_
    refine JL_v (vo_len rfl Try.underlying54) nofun (by decide) ?_
    refine JL_v (vo_cmp rfl rfl rfl) nofun (by decide) ?_
    refine JL_nil ?_
    refine JX_then ?_
    refine JC_cond _ rfl (fun hc41 => ?_) (fun hc41 => ?_)
    · have hi5 : i0 + 512 ≤ b.length := by simp at hc41; omega
      have hpl : (piece b i0).length = 512 := piece_length hi5
      have hpb : RVals Z4 wz4 (bytesC (piece b i0)) (Go.sliced A2 (i0 : Int).toNat ((i0 : Int) + 512).toNat c2 1) := by
        have := bytes_sliced (lo := (i0 : Int)) (hi := (i0 : Int) + 512) hr2q (by omega) (by omega) (by omega)
        rw [show ((i0 : Int) + 512).toNat - (i0 : Int).toNat = 512 by omega, show (i0 : Int).toNat = i0 by omega] at this
        rw [show (i0 : Int).toNat = i0 by omega]
        exact this
      refine JC_skip ?_
      refine JX_then ?_
      refine JC_block ?_
      refine JC_seq ?_
      refine JC_region ?_
      refine JL_v (vo_move rfl) nofun (by decide) ?_
      refine JL_v (vo_move rfl) nofun (by decide) ?_
      refine JL_v (vo_move rfl) nofun (by decide) ?_
      refine JL_v (vo_add rfl rfl (by omega) (by omega)) nofun (by decide) ?_
      refine JL_v (vo_sliceLH rfl rfl rfl Try.underlying54 sz5 (by omega) (by omega) (by omega)) nofun (by decide) ?_
      refine st_mcall [] _ rfl rfl en54 (by decide) (fun w1 hw => new_spec (piece b i0) _ (by omega) w1 (hpb.ext hw.ext_all)) ?_
      rintro _ L' ⟨br, sp, rfl, rfl⟩
      refine JL_rowSome (v := sp) (e := 5) (sz := 1) (n := (piece b i0).length) (.tail _ (.head _)) (by omega) (fun g9 cap9 h9 => ?_)
      subst h9
      refine JL_v (vo_assign rfl) nofun (by decide) ?_
      refine JL_nil ?_
      refine JX_then ?_
      refine JC_block ?_
      refine JC_loop (α := In14 old b out i0) (fun x => [(1, .slice A2 b.length c2), (5, .map (some b15)), (6, .pointer (some ⟨b6, 0, none⟩)), (9, vl), (10, .int .i64 x.i), (11, .pointer (some ⟨br, 0, none⟩))]) (fun x => Mem w (fun _ => False) (fun b => b < w.heap.size)  Z4 wz4 (Rol br g9 cap9 x.ring x.p ++ [.row vl 60 2 out.length (out.flatMap fdC)])) (fun x => b.length - x.i) ⟨i0, Nat.le_refl _, piece b i0, 0, hi5, hpl, by omega, by simp [win], hinv, hoi⟩ (by repeat (first | exact trivial | refine ⟨rfl, ?_⟩ | refine ⟨trivial, ?_⟩)) (fun w hw => by simpa [Rol, win] using hw) ?_
      rintro x
      have hx5 := x.h5
      have hge := x.hge
      have hxp := x.hp
      have hxr := x.hr
      have hxo := x.ho
      have hsumx := x.sum
      unfold Rol
      simp only [List.cons_append, List.nil_append]
      refine JC_block ?_
      refine JC_seq ?_
      refine JC_region ?_
      refine JL_v (vo_move rfl) nofun (by decide) ?_
      refine JL_v (vo_move rfl) nofun (by decide) ?_
      refine JL_v (vo_move rfl) nofun (by decide) ?_
      refine JL_v (vo_add rfl rfl (by omega) (by omega)) nofun (by decide) ?_
      refine JL_v (vo_sliceLH rfl rfl rfl Try.underlying54 sz5 (by omega) (by omega) (by omega)) nofun (by decide) ?_
      refine st_alloc zr54 (by decide) (fun b12 => ?_)
      refine st_store rfl rfl sz54 (by first | exact one_of_all rfl | assumption) (by repeat (first | exact .head _ _ _ | apply Turn.tail)) (by exact Nat.le_of_ble_eq_true rfl) (by rfl) ?_
      refine JL_nil ?_
      refine JX_then ?_
      refine JC_seq ?_
      refine JC_region ?_
      refine JL_v (vo_move rfl) nofun (by decide) ?_
      refine JL_v (vo_move rfl) nofun (by decide) ?_
      refine st_scall rfl en55 (by decide) (fun w1 hw => sum_spec br _ _ _ _ w1 (hw.own _ (.tail _ (.head _)))) ?_
      rintro _ rfl
      rw [hsumx]
      refine JL_v (vo_lookup (k := wsum (piece b x.i)) (fun a b h => by cases h; rfl) rfl rfl Try.underlying98 Try.underlying100 rfl zr26 (.frz hfbm) hm) nofun (by decide) ?_
      refine JL_v (vo_assign rfl) nofun (by decide) ?_
      refine JL_nil ?_
      refine JX_then ?_
      refine JC_seq ?_
      refine JC_seq ?_
      refine JC_region ?_
      have hlook := grp_look hrows (wsum (piece b x.i))
      rw [hg] at hlook
      generalize hvL : (aget (grpM st) (wsum (piece b x.i))).getD (.slice none 0 0) = vL at hlook ⊢
      obtain ⟨AL, cL, rfl, hnL⟩ := hlook.slice
      rw [natsC_length] at hnL
      have hksl : (ofSum old (old.length / 512) (wsum (piece b x.i))).length ≤ 1000000 := Nat.le_trans (List.length_filter_le _ _) (by simp; omega)
      have hpx : RVals Z4 wz4 (bytesC (piece b x.i)) (Go.sliced A2 (x.i : Int).toNat ((x.i : Int) + 512).toNat c2 1) := by
        have := bytes_sliced (lo := (x.i : Int)) (hi := (x.i : Int) + 512) hr2q (by omega) (by omega) (by omega)
        rw [show ((x.i : Int) + 512).toNat - (x.i : Int).toNat = 512 by omega, show (x.i : Int).toNat = x.i by omega] at this
        rw [show (x.i : Int).toNat = x.i by omega]
        exact this
      have hidx := idxI_find (fun k => decide ((old.drop (k * 512).toNat).take 512 = piece b x.i)) (ofSum old (old.length / 512) (wsum (piece b x.i))) 0 (by omega)
      have hpa := pieceAt_ofSum old (piece b x.i)
      have hfi := x.hinv
      rw [findF, dif_pos hx5] at hfi
      have hq : (fun (k : Nat) => (fun (k : Int) => decide ((old.drop (k * 512).toNat).take 512 = piece b x.i)) (Int.ofNat k)) = fun k => decide (piece old (k * 512) = piece b x.i) := by
        funext k
        show decide ((old.drop ((k : Int) * 512).toNat).take 512 = piece b x.i) = _
        rw [show ((k : Int) * 512).toNat = k * 512 by omega]; rfl
      rw [hq, ← hpa] at hidx
      refine JL_v (vo_move rfl) nofun (by decide) ?_
      refine JL_v (vo_makeFunc rfl rfl) nofun (by decide) ?_
      refine st_scall rfl en56 (by decide) (fun w1 hw => index_spec ((ofSum old (old.length / 512) (wsum (piece b x.i))).map Int.ofNat) _ 57 en57 _ (fun k => decide ((old.drop (k * 512).toNat).take 512 = piece b x.i)) (by simpa using hksl) w1 (by have := hlook.ext hw.ext_all; simpa [natsC] using this) (fun k hk w2 he => ?_)) ?_
      · obtain ⟨k', hk', rfl⟩ := List.mem_map.1 hk
        have hk3 : k' < old.length / 512 := by simpa using (List.mem_filter.1 hk').1
        have h12 : FB (fun b => b < w1.heap.size) w1 b12 (.cells #[Go.sliced A2 (x.i : Int).toNat ((x.i : Int) + 512).toNat c2 1] 54 (0, 0)) := ⟨Res.foot_lt (hw.own _ (.head _)) rfl, hw.own _ (.head _)⟩
        exact here_spec old (piece b x.i) A1 c1 (Int.ofNat k') (Int.natCast_nonneg _) (by show ((k' : Int) + 1) * 512 ≤ _; omega) hn1 hc1 b2 b6 b12 _ w2 ((hw.ext_all.trans he).fb _ _ hfb2q) ((hw.ext_all.trans he).fb _ _ hfb6q) (he.fb _ _ h12) (hr1q.ext (hw.ext_all.trans he)) (hpx.ext (hw.ext_all.trans he))
      rintro _ rfl
      refine JL_v (vo_assign rfl) nofun (by decide) ?_
      refine JL_nil ?_
      refine JX_then ?_
      refine JC_seq ?_
      refine JC_region ?_
      refine JL_v (vo_move rfl) nofun (by decide) ?_
      refine JL_v (vo_cmp rfl rfl rfl) nofun (by decide) ?_
      refine JL_nil ?_
      refine JX_then ?_
      refine JC_cond _ rfl (fun hc61 => ?_) (fun hc61 => ?_)
      · rcases hidx with ⟨h1, _⟩ | ⟨j, k, h1, h2, h3⟩
        · rw [h1] at hc61; simp at hc61
        rw [h3] at hfi
        dsimp only at hfi
        rw [h1]
        have hjl := (List.getElem?_eq_some_iff.1 h2).1
        have hnc : (natsC (ofSum old (old.length / 512) (wsum (piece b x.i))))[j]? = some (.int .i64 k) := by simp [natsC, intsC, h2]
        obtain ⟨bL, oL, cL', csL, teL, frL, hvL', hfbL, hcellL⟩ := hlook.at_ hnc
        cases hvL'
        rw [natsC_length]
        have hcell1 : csL[oL + (0 + (j : Int)).toNat * 1]? = some (.int .i64 k) := by rw [show (0 + (j : Int)).toNat * 1 = j by omega]; exact hcellL
        refine JC_seq ?_
        refine JC_region ?_
        refine JL_v (vo_move rfl) nofun (by decide) ?_
        refine JL_v (vo_move rfl) nofun (by decide) ?_
        refine JL_v (vo_move rfl) nofun (by decide) ?_
        refine JL_v (vo_move rfl) nofun (by decide) ?_
        skip
        refine JL_v (vo_indexAddr rfl rfl Try.underlying26 sz3 (by omega) (by omega)) nofun (by decide) ?_
        refine JL_v (vo_load rfl (by first | exact .frz ‹_› | exact .own (by repeat (first | exact .head _ | refine .tail _ ?_))) (by first | exact .cell Try.underlying3 rfl rfl | exact .cell Try.underlying3 rfl hcell1 | exact .cell Try.underlying5 rfl hcell2)) nofun (by decide) ?_
        refine JL_v (vo_build rfl (by first | exact bl60 _ _)) nofun (by decide) ?_
        refine st_bslice1 rfl Try.underlying55 (by first | exact zr60) sz60 (by exact Nat.le_of_ble_eq_true rfl) (by exact Nat.ne_of_gt (Nat.le_of_ble_eq_true rfl)) (by decide) (fun b69 => ?_)
        refine st_appendB rfl rfl Try.underlying55 ap60 (by rfl) (by decide) (by first | exact .frz ‹_› | exact .own (by repeat (first | exact .head _ | refine .tail _ ?_))) (by repeat (first | exact .head _ | apply TurnF.tail)) (by rfl) (by first | exact one_of_all rfl | assumption) (by omega) (by decide) (by decide) (fun v70 => ?_)
        refine JL_v (vo_assign rfl) nofun (by decide) ?_
        refine JL_nil ?_
        refine JX_then ?_
        refine JC_seq ?_
        refine JC_region ?_
        refine JL_v (vo_move rfl) nofun (by decide) ?_
        refine JL_v (vo_add rfl rfl (by omega) (by omega)) nofun (by decide) ?_
        refine JL_v (vo_assign rfl) nofun (by decide) ?_
        refine JL_nil ?_
        refine JX_then ?_
        refine JC_exit ?_
        refine JX_then_exit ?_
        refine JX_block_other rfl ?_
        refine JX_thenK_exit ?_
        refine JX_block_exit ?_
        refine JX_block ?_
        refine JX_loop ⟨(x.i + 512, out ++ [((x.i : Int), (k : Int))], v70), hx5, by simp; omega, by simpa using hfi⟩ (by show b.length - (x.i + 512) < b.length - i0; omega) (by repeat (first | exact trivial | refine ⟨rfl, ?_⟩ | refine ⟨trivial, ?_⟩)) (fun w hw => ?_)
        have := hw.sub (.cons _ (.cons _ (.cons _ (.cons _ (List.Sublist.refl _)))))
        simpa [List.flatMap_append, Value.cells] using this
      · have hnone : pieceAt old (piece b x.i) = none := by
          rcases hidx with ⟨_, h1⟩ | ⟨j, k, h1, h2, h3⟩
          · exact h1
          · rw [h1] at hc61; simp at hc61
        rw [hnone] at hfi
        dsimp only at hfi
        refine JC_skip ?_
        refine JX_then ?_
        refine JC_seq ?_
        refine JC_region ?_
        refine JL_v (vo_move rfl) nofun (by decide) ?_
        refine JL_v (vo_add rfl rfl (by omega) (by omega)) nofun (by decide) ?_
        refine JL_v (vo_assign rfl) nofun (by decide) ?_
        refine JL_nil ?_
        refine JX_then ?_
        refine JC_seq ?_
        refine JC_seq ?_
        refine JC_region ?_
        refine JL_v (vo_move rfl) nofun (by decide) ?_
        refine JL_v (vo_add rfl rfl (by omega) (by omega)) nofun (by decide) ?_
        refine JL_v (vo_move rfl) nofun (by decide) ?_
        refine JL_v (vo_len rfl Try.underlying54) nofun (by decide) ?_
        refine JL_v (vo_cmp rfl rfl rfl) nofun (by decide) ?_
        refine JL_nil ?_
        refine JX_then ?_
        refine JC_cond _ rfl (fun hc79 => ?_) (fun hc79 => ?_)
        · refine JC_exit ?_
          refine JX_then_exit ?_
          refine JX_block_other rfl ?_
          refine JX_thenK_exit ?_
          refine JX_block_exit ?_
          refine JX_block ?_
          refine JX_loop ⟨(x.i + 1, out, vl), by show x.i + 1 ≤ b.length; omega, by show out.length ≤ x.i + 1; omega, by simpa using hfi⟩ (by show b.length - (x.i + 1) < b.length - i0; omega) (by repeat (first | exact trivial | refine ⟨rfl, ?_⟩ | refine ⟨trivial, ?_⟩)) (fun w hw => hw.sub (.cons _ (.cons _ (.cons _ (List.Sublist.refl _)))))
        · refine JC_skip ?_
          refine JX_then ?_
          refine JC_region ?_
          have hx6 : x.i + 1 + 512 ≤ b.length := by simp at hc79; omega
          obtain ⟨cx, hcx⟩ : ∃ cx, b[x.i + 512]? = some cx := ⟨_, List.getElem?_eq_getElem (by omega)⟩
          obtain ⟨bB, oB, cB', csB, teB, frB, hvB, hfbB, hcellB⟩ := bytes_at hr2q hcx
          cases hvB
          have hcell2 : csB[oB + ((x.i : Int) + 1 + 512 - 1).toNat * 1]? = some (.int .u8 cx.toNat) := by rw [show ((x.i : Int) + 1 + 512 - 1).toNat * 1 = x.i + 512 by omega]; exact hcellB
          obtain ⟨yx, hyx⟩ : ∃ yx, x.ring[x.p]? = some yx := ⟨_, List.getElem?_eq_getElem (by omega)⟩
          obtain ⟨rr, hw1, hw2⟩ := win_step hyx cx
          have hwn : win (x.ring.set x.p cx) ((x.p + 1) % x.ring.length) = piece b (x.i + 1) := by
            have h1 := x.hw
            rw [hw1] at h1
            rw [hw2, piece_next hx6 h1.symm hcx]
          refine JL_v (vo_move rfl) nofun (by decide) ?_
          refine JL_v (vo_move rfl) nofun (by decide) ?_
          refine JL_v (vo_move rfl) nofun (by decide) ?_
          refine JL_v (vo_add rfl rfl (by omega) (by omega)) nofun (by decide) ?_
          refine JL_v (vo_sub rfl rfl (by omega) (by omega)) nofun (by decide) ?_
          refine JL_v (vo_indexAddr rfl rfl Try.underlying54 sz5 (by omega) (by omega)) nofun (by decide) ?_
          refine JL_v (vo_load rfl (by first | exact .frz ‹_› | exact .own (by repeat (first | exact .head _ | refine .tail _ ?_))) (by first | exact .cell Try.underlying5 rfl rfl | exact .cell Try.underlying3 rfl hcell1 | exact .cell Try.underlying5 rfl hcell2)) nofun (by decide) ?_
          refine JL_mem (M' := Mem w (fun _ => False) (fun b => b < w.heap.size)  Z4 wz4 (Rol br g9 cap9 x.ring x.p ++ [.row vl 60 2 out.length (out.flatMap fdC)])) ?_ (fun w hw => hw.sub (.cons _ (List.Sublist.refl _)))
          refine st_mcall (Rol br g9 cap9 x.ring x.p) [_] rfl rfl en59 (by decide) (fun w1 hw => next_spec x.ring x.p (by omega) (by omega) cx br g9 cap9 w1 hw.holds) ?_
          rintro _ L' ⟨rfl, rfl⟩
          refine JL_nil ?_
          refine JX_block ?_
          refine JX_loop ⟨x.i + 1, by omega, x.ring.set x.p cx, (x.p + 1) % x.ring.length, by omega, by simp [hxr], by rw [hxr]; omega, hwn, hfi, by omega⟩ (by show b.length - (x.i + 1) < b.length - x.i; omega) (by repeat (first | exact trivial | refine ⟨rfl, ?_⟩ | refine ⟨trivial, ?_⟩)) (fun w hw => hw)
    · refine JC_exit ?_
      refine JX_then_exit ?_
      refine JX_thenK_exit ?_
      refine JX_block_exit ?_
      refine JX_then ?_
      refine JC_seq ?_
      refine JC_region ?_
      refine JL_v (vo_move rfl) nofun (by decide) ?_
      refine JL_v (vo_assign rfl) nofun (by decide) ?_
      refine JL_nil ?_
      refine JX_then ?_
      refine JC_ret ?_
      refine ret1 rfl rfl ?_
      intro w1 hM
      have hend : findF old b i0 = [] := by rw [findF, dif_neg (by simp at hc41; omega)]
      rw [hend, List.append_nil] at hinv
      exact OC_end hM (.head _) ⟨by rw [← hinv], by rw [← hinv]⟩

end Go.Eng

set_option linter.unusedVariables false
set_option linter.unusedSimpArgs false
namespace Go.Eng
open Go Go.RowKit Go.Proofs
/-- what is found, one behind the other -/
def Chain (old b : List UInt8) : Nat → List (Int × Int) → Prop
  | at_, [] => at_ ≤ b.length
  | at_, x :: l => ∃ p k : Nat, x = ((p : Int), (k : Int)) ∧ at_ ≤ p ∧ p + 512 ≤ b.length ∧ (k + 1) * 512 ≤ old.length ∧ piece old (k * 512) = piece b p ∧ Chain old b (p + 512) l
theorem Chain.weak {old b : List UInt8} {i j : Nat} (h : i ≤ j) : ∀ {l}, Chain old b j l → Chain old b i l
  | [], hc => Nat.le_trans h hc
  | x :: l, ⟨p, k, h1, h2, h3⟩ => ⟨p, k, h1, Nat.le_trans h h2, h3⟩
theorem chain_find (old b : List UInt8) : ∀ (n i : Nat), b.length - i = n → i ≤ b.length → Chain old b i (findF old b i) := by
  intro n
  induction n using Nat.strongRecOn with
  | _ n ih =>
    intro i hn hi
    rw [findF]
    split
    · rename_i h5
      cases hp : pieceAt old (piece b i) with
      | none => exact (ih (b.length - (i + 1)) (by omega) (i + 1) rfl (by omega)).weak (by omega)
      | some k =>
        have h1 := hp
        unfold pieceAt at h1
        rw [List.find?_range_eq_some] at h1
        obtain ⟨h2, h3, _⟩ := h1
        simp at h2 h3
        exact ⟨i, k, rfl, Nat.le_refl _, h5, by omega, h2, ih (b.length - (i + 512)) (by omega) (i + 512) rfl (by omega)⟩
    · exact hi
theorem Chain.le {old b : List UInt8} {i : Nat} : ∀ {l}, Chain old b i l → i ≤ b.length
  | [], h => h
  | _ :: _, ⟨p, k, _, h1, h2, _⟩ => by omega
theorem take_piece (b : List UInt8) (p : Nat) : b.take p ++ piece b p = b.take (p + 512) := by
  unfold piece
  rw [List.take_add]
theorem take_mid (b : List UInt8) {i p : Nat} (h : i ≤ p) : b.take i ++ (b.drop i).take (p - i) = b.take p := by
  rw [← List.take_add]; congr 1; omega
theorem chain_len {old b : List UInt8} : ∀ {l : List (Int × Int)} {i : Nat}, Chain old b i l → l.length ≤ b.length - i
  | [], _, _ => by simp
  | x :: l, i, ⟨p, k, _, h1, h2, _, _, hc⟩ => by
    have := chain_len hc
    simp only [List.length_cons]; omega
section
variable {P : Program} {r : Option Nat} {N : Nat} {ds : List Deferred} {Q : Post} {t : Fm}
variable {w0 : World} {E Z0 Z : Nat → Prop} {wz : World} {L : List Res}
theorem JC_rowSome {v : Value} {e : TypeId} {sz n : Nat} {xs : List Value} {c : Code} (hm : Res.row v e sz n xs ∈ L) (hn : 0 < n) (h : ∀ g cap, v = .slice (some ⟨g, 0, none⟩) n cap → JC P r N ds c Q t (Mem w0 E Z0 Z wz L)) : JC P r N ds c Q t (Mem w0 E Z0 Z wz L) := fun a w ha hw => by
  rcases (hw.own _ hm).2 with ⟨rfl, h0⟩ | ⟨g, cap, cur, rfl, _⟩
  · omega
  · exact h _ _ rfl a w ha hw
end
end Go.Eng

set_option linter.unusedVariables false
set_option linter.unusedSimpArgs false
namespace Go.Eng
open Go Go.RowKit Go.Proofs
theorem en13 : Enters Try.prog 13 := ⟨_, Try.func13, by kernel_rfl, by kernel_rfl⟩
theorem en14 : Enters Try.prog 14 := ⟨_, Try.func14, by kernel_rfl, by kernel_rfl⟩
theorem en15 : Enters Try.prog 15 := ⟨_, Try.func15, by kernel_rfl, by kernel_rfl⟩
theorem en16 : Enters Try.prog 16 := ⟨_, Try.func16, by kernel_rfl, by kernel_rfl⟩
theorem fo60_0 : fieldOff Try.prog 60 0 = some 0 := by kernel_rfl
theorem fo60_1 : fieldOff Try.prog 60 1 = some 1 := by kernel_rfl

set_option maxRecDepth 8000 in
set_option maxHeartbeats 1000000 in
theorem law4_spec (old b : List UInt8) (v1 v2 : Value) (w : World) (hr1 : RVals (fun b => b < w.heap.size) w (bytesC old) v1) (hr2 : RVals (fun b => b < w.heap.size) w (bytesC b) v2) : SCalls Try.prog 4 #[v1, v2] w (fun u => u = .bool true) := by
  obtain ⟨A1, c1, rfl, hn1, hc1⟩ := bytes_slice hr1
  obtain ⟨A2, c2, rfl, hn2, hc2⟩ := bytes_slice hr2
  refine enter (N := 181) Try.func4 rfl Try.ntmps4 (Nat.le_of_ble_eq_true rfl) [(0, .slice A1 old.length c1), (1, .slice A2 b.length c2)] (by repeat (first | exact trivial | refine ⟨rfl, ?_⟩)) (Mem.start w (fun _ => False) (fun b => b < w.heap.size) (fun _ h => h)) ?_
  refine JC_seq ?_
  refine JC_region ?_
  refine JL_v (vo_assign rfl) nofun (by decide) ?_
  refine JL_nil ?_
  refine JX_then ?_
  refine JC_seq ?_
  refine JC_seq ?_
  refine JC_region ?_
  refine JL_v (vo_move rfl) nofun (by decide) ?_
  refine JL_v (vo_len rfl Try.underlying54) nofun (by decide) ?_
  refine JL_v (vo_cmp rfl rfl rfl) nofun (by decide) ?_
  refine JL_v (vo_move rfl) nofun (by decide) ?_
  refine JL_case 18 rfl (fun hg18 => ?_) (fun hg18 => ?_)
  · skip
    refine JL_no rfl rfl (by decide) ?_
    refine JL_no rfl rfl (by decide) ?_
    refine JL_no rfl rfl (by decide) ?_
    refine JL_v (vo_pick rfl rfl) nofun (by decide) ?_
    refine JL_nil ?_
    refine JX_then ?_
    refine JC_cond true rfl (fun _ => ?_) (fun h => Bool.noConfusion h)
    refine JC_seq ?_
    refine JC_region ?_
    refine JL_v (vo_assign rfl) nofun (by decide) ?_
    refine JL_nil ?_
    refine JX_then ?_
    refine JC_ret ?_
    refine JX_then_ret ?_
    refine ret1 rfl rfl ?_
    intro w1 hM; exact SC_end hM rfl
  · refine JL_yes rfl rfl ?_
    refine JL_v (vo_move rfl) nofun (by decide) ?_
    refine JL_yes rfl rfl ?_
    refine JL_v (vo_len rfl Try.underlying54) nofun (by decide) ?_
    refine JL_yes rfl rfl ?_
    refine JL_v (vo_cmp rfl rfl rfl) nofun (by decide) ?_
    refine JL_v (vo_pick rfl rfl) nofun (by decide) ?_
    refine JL_nil ?_
    refine JX_then ?_
    refine JC_cond _ rfl (fun hc22 => ?_) (fun hc22 => ?_)
    · refine JC_seq ?_
      refine JC_region ?_
      refine JL_v (vo_assign rfl) nofun (by decide) ?_
      refine JL_nil ?_
      refine JX_then ?_
      refine JC_ret ?_
      refine JX_then_ret ?_
      refine ret1 rfl rfl ?_
      intro w1 hM; exact SC_end hM rfl
    · refine JC_skip ?_
      refine JX_then ?_
      refine JC_seq ?_
      refine JC_region ?_
      have hlo : old.length ≤ 20000 := by simp_all <;> omega
      have hlb : b.length ≤ 20000 := by simp_all <;> omega
      refine JL_nilrow 5 1 ?_
      refine JL_v (vo_move rfl) nofun (by decide) ?_
      refine st_appendR rfl rfl hr1 Try.underlying54 ap5 rfl (by repeat (first | exact .head _ | apply TurnF.tail)) (bytesC_one _) (by simp only [bytesC_length]; omega) (by decide) (by decide) (fun v24 => ?_)
      simp only [bytesC_length, Nat.zero_add, List.nil_append]
      refine JL_nilrow 5 1 ?_
      refine JL_v (vo_move rfl) nofun (by decide) ?_
      refine st_appendR rfl rfl hr2 Try.underlying54 ap5 rfl (by repeat (first | exact .head _ | apply TurnF.tail)) (bytesC_one _) (by simp only [bytesC_length]; omega) (by decide) (by decide) (fun v26 => ?_)
      simp only [bytesC_length, Nat.zero_add, List.nil_append]
      refine JL_v (vo_assign rfl) nofun (by decide) ?_
      refine JL_v (vo_assign rfl) nofun (by decide) ?_
      refine JL_nil ?_
      refine JX_then ?_
      refine JC_seq ?_
      refine JC_region ?_
      refine JL_v (vo_move rfl) nofun (by decide) ?_
      refine JL_v (vo_move rfl) nofun (by decide) ?_
      refine st_ocall rfl en13 (by decide) (fun w1 hw => reffind_spec old b (by omega) (by omega) _ _ w1 (hr1.ext hw.ext_all) (hr2.ext hw.ext_all)) ?_
      rintro v29 _ _ ⟨rfl, rfl⟩
      refine JL_v (vo_assign rfl) nofun (by decide) ?_
      refine JL_nil ?_
      refine JX_then ?_
      refine JC_seq ?_
      refine JC_region ?_
      refine JL_v (vo_move rfl) nofun (by decide) ?_
      refine JL_v (vo_move rfl) nofun (by decide) ?_
      refine st_ocall rfl en14 (by decide) (fun w1 hw => find_spec old b (by omega) (by omega) _ _ w1 ((hw.rvals (e := 5) (by repeat (first | exact .head _ | apply List.Mem.tail)))) ((hw.rvals (e := 5) (by repeat (first | exact .head _ | apply List.Mem.tail))))) ?_
      rintro v32 _ _ ⟨rfl, rfl⟩
      refine JL_v (vo_move rfl) nofun (by decide) ?_
      refine JL_v (vo_move rfl) nofun (by decide) ?_
      refine st_ocall rfl en14 (by decide) (fun w1 hw => find_spec old b (by omega) (by omega) _ _ w1 ((hw.rvals (e := 5) (by repeat (first | exact .head _ | apply List.Mem.tail)))) ((hw.rvals (e := 5) (by repeat (first | exact .head _ | apply List.Mem.tail))))) ?_
      rintro v35 _ _ ⟨rfl, rfl⟩
      refine JL_v (vo_assign rfl) nofun (by decide) ?_
      refine JL_v (vo_assign rfl) nofun (by decide) ?_
      refine JL_nil ?_
      refine JX_then ?_
      refine JC_seq ?_
      refine JC_seq ?_
      refine JC_region ?_
      refine JL_v (vo_move rfl) nofun (by decide) ?_
      refine JL_v (vo_move rfl) nofun (by decide) ?_
      refine st_scall rfl en15 (by decide) (fun w1 hw => SCalls.mono (samefound_spec (findF old b 0) (findF old b 0) _ _ w1 (hw.ritems fdC_length (by repeat (first | exact .head _ | apply List.Mem.tail))) (hw.ritems fdC_length (by repeat (first | exact .head _ | apply List.Mem.tail)))) (fun u hu => (hu.trans (congrArg Value.bool (decide_eq_true rfl)) : u = .bool true))) ?_
      rintro _ rfl
      refine JL_v (vo_not rfl) nofun (by decide) ?_
      refine JL_v (vo_move rfl) nofun (by decide) ?_
      refine JL_case 40 rfl (fun hg40 => absurd hg40 (by simp)) (fun hg40 => ?_)
      refine JL_yes rfl rfl ?_
      refine JL_v (vo_move rfl) nofun (by decide) ?_
      refine JL_yes rfl rfl ?_
      refine JL_v (vo_move rfl) nofun (by decide) ?_
      refine JL_yes rfl rfl ?_
      refine st_scall rfl en15 (by decide) (fun w1 hw => SCalls.mono (samefound_spec (findF old b 0) (findF old b 0) _ _ w1 (hw.ritems fdC_length (by repeat (first | exact .head _ | apply List.Mem.tail))) (hw.ritems fdC_length (by repeat (first | exact .head _ | apply List.Mem.tail)))) (fun u hu => (hu.trans (congrArg Value.bool (decide_eq_true rfl)) : u = .bool true))) ?_
      rintro _ rfl
      refine JL_yes rfl rfl ?_
      refine JL_v (vo_not rfl) nofun (by decide) ?_
      refine JL_v (vo_pick rfl rfl) nofun (by decide) ?_
      refine JL_v (vo_move rfl) nofun (by decide) ?_
      refine JL_case 46 rfl (fun hg46 => absurd hg46 (by simp)) (fun hg46 => ?_)
      refine JL_yes rfl rfl ?_
      refine JL_v (vo_move rfl) nofun (by decide) ?_
      refine JL_yes rfl rfl ?_
      refine JL_v (vo_move rfl) nofun (by decide) ?_
      refine JL_yes rfl rfl ?_
      refine st_scall rfl en16 (by decide) (fun w1 hw => SCalls.mono (same_spec old old _ _ w1 (hw.rvals (e := 5) (by repeat (first | exact .head _ | apply List.Mem.tail))) (hr1.ext hw.ext_all)) (fun u hu => (hu.trans (congrArg Value.bool (decide_eq_true rfl)) : u = .bool true))) ?_
      rintro _ rfl
      refine JL_yes rfl rfl ?_
      refine JL_v (vo_not rfl) nofun (by decide) ?_
      refine JL_v (vo_pick rfl rfl) nofun (by decide) ?_
      refine JL_v (vo_move rfl) nofun (by decide) ?_
      refine JL_case 52 rfl (fun hg52 => absurd hg52 (by simp)) (fun hg52 => ?_)
      refine JL_yes rfl rfl ?_
      refine JL_v (vo_move rfl) nofun (by decide) ?_
      refine JL_yes rfl rfl ?_
      refine JL_v (vo_move rfl) nofun (by decide) ?_
      refine JL_yes rfl rfl ?_
      refine st_scall rfl en16 (by decide) (fun w1 hw => SCalls.mono (same_spec b b _ _ w1 (hw.rvals (e := 5) (by repeat (first | exact .head _ | apply List.Mem.tail))) (hr2.ext hw.ext_all)) (fun u hu => (hu.trans (congrArg Value.bool (decide_eq_true rfl)) : u = .bool true))) ?_
      rintro _ rfl
      refine JL_yes rfl rfl ?_
      refine JL_v (vo_not rfl) nofun (by decide) ?_
      refine JL_v (vo_pick rfl rfl) nofun (by decide) ?_
      refine JL_nil ?_
      refine JX_then ?_
      refine JC_cond _ rfl (fun hc57 => ?_) (fun hc57 => ?_)
      · exact absurd hc57 (by simp)
      · refine JC_skip ?_
        refine JX_then ?_
        refine JC_seq ?_
        refine JC_region ?_
        refine JL_v (vo_assign rfl) nofun (by decide) ?_
        refine JL_nil ?_
        refine JX_then ?_
        refine JC_seq ?_
        refine JC_region ?_
        refine JL_rowSlice (v := v32) (e := 60) (sz := 2) (n := (findF old b 0).length) (xs := (findF old b 0).flatMap fdC) (by repeat (first | exact .head _ | apply List.Mem.tail)) (fun AL cL hv32 => ?_)
        subst hv32
        refine JL_nilrow 5 1 ?_
        refine JL_v (vo_assign rfl) nofun (by decide) ?_
        refine JL_nil ?_
        refine JX_then ?_
        refine JC_seq ?_
        refine JC_seq ?_
        refine JC_region ?_
        refine JL_v (vo_assign rfl) nofun (by decide) ?_
        refine JL_nil ?_
        refine JX_then ?_
        refine JC_block ?_
        have hfl0 : (findF old b 0).length ≤ 20000 := by have := chain_len (chain_find old b _ 0 rfl (by omega)); omega
        generalize hnL : (findF old b 0).length = nL at *
        refine JC_loop (α := { x : Nat × Nat × Value // x.1 ≤ nL ∧ Chain old b x.2.1 ((findF old b 0).drop x.1) }) (fun x => [(0, .slice A1 old.length c1), (1, .slice A2 b.length c2), (5, v24), (6, v26), (7, v29), (8, .slice AL nL cL), (9, v35), (10, .int .i64 x.1.2.1), (11, x.1.2.2), (12, .int .i64 x.1.1)]) (fun x => Mem w (fun _ => False) (fun b => b < w.heap.size) (fun b => b < w.heap.size) w  [.row x.1.2.2 5 1 x.1.2.1 (bytesC (b.take x.1.2.1)), .row v35 60 2 nL ((findF old b 0).flatMap fdC), .row (.slice AL nL cL) 60 2 nL ((findF old b 0).flatMap fdC), .row v29 60 2 nL ((findF old b 0).flatMap fdC), .row v26 5 1 b.length (bytesC b), .row v24 5 1 old.length (bytesC old)]) (fun x => nL - x.1.1) ⟨(0, 0, _), by simp, by simpa using chain_find old b _ 0 rfl (by omega)⟩ (by repeat (first | exact trivial | refine ⟨rfl, ?_⟩ | refine ⟨trivial, ?_⟩)) (fun w hw => hw) ?_
        rintro ⟨⟨i, at_, v11⟩, hin, hch⟩
        dsimp only at hin hch ⊢
        refine JC_seq ?_
        refine JC_seq ?_
        refine JC_region ?_
        refine JL_v (vo_move rfl) nofun (by decide) ?_
        refine JL_v (vo_move rfl) nofun (by decide) ?_
        refine JL_v (vo_len rfl Try.underlying55) nofun (by decide) ?_
        refine JL_v (vo_cmp rfl rfl rfl) nofun (by decide) ?_
        refine JL_nil ?_
        refine JX_then ?_
        refine JC_cond _ rfl (fun hc61 => ?_) (fun hc61 => ?_)
        · have hil : i < nL := by simp at hc61; omega
          obtain ⟨⟨p0, k0⟩, hfx⟩ : ∃ x, (findF old b 0)[i]? = some x := ⟨_, List.getElem?_eq_getElem (by omega)⟩
          rw [drop_of_get hfx] at hch
          obtain ⟨p, k, hpk, hap, hpb, hko, heq, hch2⟩ := hch
          cases hpk
          refine JC_rowSome (v := .slice AL nL cL) (e := 60) (sz := 2) (n := nL) (xs := (findF old b 0).flatMap fdC) (by repeat (first | exact .head _ | apply List.Mem.tail)) (by omega) (fun g9 cap9 h9 => ?_)
          cases h9
          have hl0 : ((findF old b 0).flatMap fdC).toArray[0 + (i : Int).toNat * 2 + 0]? = some (.int .i64 (p : Int)) := by rw [List.getElem?_toArray, show 0 + (i : Int).toNat * 2 + 0 = i * 2 + 0 by omega]; exact flat_get fdC_length hfx rfl
          have hl1 : ((findF old b 0).flatMap fdC).toArray[0 + (i : Int).toNat * 2 + 1]? = some (.int .i64 (k : Int)) := by rw [List.getElem?_toArray, show 0 + (i : Int).toNat * 2 + 1 = i * 2 + 1 by omega]; exact flat_get fdC_length hfx rfl
          refine JC_skip ?_
          refine JX_then ?_
          refine JC_seq ?_
          refine JC_block ?_
          refine JC_seq ?_
          refine JC_seq ?_
          refine JC_region ?_
          refine JL_v (vo_move rfl) nofun (by decide) ?_
          refine JL_v (vo_move rfl) nofun (by decide) ?_
          refine JL_v (vo_indexAddr rfl rfl Try.underlying55 sz60 (by omega) (by omega)) nofun (by decide) ?_
          refine JL_v (vo_fieldAddr rfl fo60_0) nofun (by decide) ?_
          refine JL_v (vo_loadRow rfl (by repeat (first | exact .head _ | apply List.Mem.tail)) (.cell Try.underlying3 rfl hl0)) nofun (by decide) ?_
          refine JL_v (vo_move rfl) nofun (by decide) ?_
          refine JL_v (vo_cmp rfl rfl rfl) nofun (by decide) ?_
          refine JL_v (vo_move rfl) nofun (by decide) ?_
          refine JL_case 71 rfl (fun hg71 => absurd hg71 (by simp only [decide_eq_true_eq]; omega)) (fun hg71 => ?_)
          refine JL_yes rfl rfl ?_
          refine JL_v (vo_move rfl) nofun (by decide) ?_
          refine JL_yes rfl rfl ?_
          refine JL_v (vo_move rfl) nofun (by decide) ?_
          refine JL_yes rfl rfl ?_
          refine JL_v (vo_indexAddr rfl rfl Try.underlying55 sz60 (by omega) (by omega)) nofun (by decide) ?_
          refine JL_yes rfl rfl ?_
          refine JL_v (vo_fieldAddr rfl fo60_1) nofun (by decide) ?_
          refine JL_yes rfl rfl ?_
          refine JL_v (vo_loadRow rfl (by repeat (first | exact .head _ | apply List.Mem.tail)) (.cell Try.underlying3 rfl hl1)) nofun (by decide) ?_
          refine JL_yes rfl rfl ?_
          refine JL_v (vo_cmp rfl rfl rfl) nofun (by decide) ?_
          refine JL_v (vo_pick rfl rfl) nofun (by decide) ?_
          refine JL_v (vo_move rfl) nofun (by decide) ?_
          refine JL_case 79 rfl (fun hg79 => absurd hg79 (by simp only [decide_eq_true_eq]; omega)) (fun hg79 => ?_)
          refine JL_yes rfl rfl ?_
          refine JL_v (vo_move rfl) nofun (by decide) ?_
          refine JL_yes rfl rfl ?_
          refine JL_v (vo_move rfl) nofun (by decide) ?_
          refine JL_yes rfl rfl ?_
          refine JL_v (vo_indexAddr rfl rfl Try.underlying55 sz60 (by omega) (by omega)) nofun (by decide) ?_
          refine JL_yes rfl rfl ?_
          refine JL_v (vo_fieldAddr rfl fo60_1) nofun (by decide) ?_
          refine JL_yes rfl rfl ?_
          refine JL_v (vo_loadRow rfl (by repeat (first | exact .head _ | apply List.Mem.tail)) (.cell Try.underlying3 rfl hl1)) nofun (by decide) ?_
          refine JL_yes rfl rfl ?_
          refine JL_v (vo_add rfl rfl (by omega) (by omega)) nofun (by decide) ?_
          refine JL_yes rfl rfl ?_
          refine JL_v (vo_mul rfl rfl (by omega) (by omega)) nofun (by decide) ?_
          refine JL_yes rfl rfl ?_
          refine JL_v (vo_move rfl) nofun (by decide) ?_
          refine JL_yes rfl rfl ?_
          refine JL_v (vo_len rfl Try.underlying54) nofun (by decide) ?_
          refine JL_yes rfl rfl ?_
          refine JL_v (vo_cmp rfl rfl rfl) nofun (by decide) ?_
          refine JL_v (vo_pick rfl rfl) nofun (by decide) ?_
          refine JL_v (vo_move rfl) nofun (by decide) ?_
          refine JL_case 91 rfl (fun hg91 => absurd hg91 (by simp only [decide_eq_true_eq]; omega)) (fun hg91 => ?_)
          refine JL_yes rfl rfl ?_
          refine JL_v (vo_move rfl) nofun (by decide) ?_
          refine JL_yes rfl rfl ?_
          refine JL_v (vo_move rfl) nofun (by decide) ?_
          refine JL_yes rfl rfl ?_
          refine JL_v (vo_indexAddr rfl rfl Try.underlying55 sz60 (by omega) (by omega)) nofun (by decide) ?_
          refine JL_yes rfl rfl ?_
          refine JL_v (vo_fieldAddr rfl fo60_0) nofun (by decide) ?_
          refine JL_yes rfl rfl ?_
          refine JL_v (vo_loadRow rfl (by repeat (first | exact .head _ | apply List.Mem.tail)) (.cell Try.underlying3 rfl hl0)) nofun (by decide) ?_
          refine JL_yes rfl rfl ?_
          refine JL_v (vo_add rfl rfl (by omega) (by omega)) nofun (by decide) ?_
          refine JL_yes rfl rfl ?_
          refine JL_v (vo_move rfl) nofun (by decide) ?_
          refine JL_yes rfl rfl ?_
          refine JL_v (vo_len rfl Try.underlying54) nofun (by decide) ?_
          refine JL_yes rfl rfl ?_
          refine JL_v (vo_cmp rfl rfl rfl) nofun (by decide) ?_
          refine JL_v (vo_pick rfl rfl) nofun (by decide) ?_
          refine JL_nil ?_
          refine JX_then ?_
          refine JC_cond _ rfl (fun hc101 => ?_) (fun hc101 => ?_)
          · exfalso; simp at hc101; omega
          · refine JC_skip ?_
            refine JX_then ?_
            refine JC_seq ?_
            refine JC_region ?_
            refine JL_v (vo_move rfl) nofun (by decide) ?_
            refine JL_v (vo_move rfl) nofun (by decide) ?_
            refine JL_v (vo_move rfl) nofun (by decide) ?_
            refine JL_v (vo_move rfl) nofun (by decide) ?_
            refine JL_v (vo_move rfl) nofun (by decide) ?_
            refine JL_v (vo_indexAddr rfl rfl Try.underlying55 sz60 (by omega) (by omega)) nofun (by decide) ?_
            refine JL_v (vo_fieldAddr rfl fo60_0) nofun (by decide) ?_
            refine JL_v (vo_loadRow rfl (by repeat (first | exact .head _ | apply List.Mem.tail)) (.cell Try.underlying3 rfl hl0)) nofun (by decide) ?_
            refine JL_v (vo_sliceLH rfl rfl rfl Try.underlying54 sz5 (by omega) (by omega) (by omega)) nofun (by decide) ?_
            have hseg1 : RVals (fun b => b < w.heap.size) w (bytesC ((b.drop at_).take (p - at_))) (Go.sliced A2 (at_ : Int).toNat (p : Int).toNat c2 1) := bytes_sliced (lo := (at_ : Int)) (hi := (p : Int)) hr2 (by omega) (by omega) (by omega)
            have hlen1 : at_ + (bytesC ((b.drop at_).take (p - at_))).length = p := by rw [bytesC_length]; simp; omega
            refine st_appendR rfl rfl hseg1 Try.underlying54 ap5 rfl (by repeat (first | exact .head _ | apply TurnF.tail)) (bytesC_one _) (by omega) (by decide) (by decide) (fun v111 => ?_)
            rw [hlen1, ← bytesC_append, take_mid b hap]
            refine JL_v (vo_assign rfl) nofun (by decide) ?_
            refine JL_nil ?_
            refine JX_then ?_
            refine JC_seq ?_
            refine JC_draw (F := fun w1 => ∃ q : Value × Nat × List Value, Mem w (fun _ => False) (fun b => b < w.heap.size) (fun b => b < w.heap.size) w  [.row q.1 5 1 q.2.1 q.2.2, .row v35 60 2 nL ((findF old b 0).flatMap fdC), .row (.slice (some ⟨g9, 0, none⟩) nL cL) 60 2 nL ((findF old b 0).flatMap fdC), .row v29 60 2 nL ((findF old b 0).flatMap fdC), .row v26 5 1 b.length (bytesC b), .row v24 5 1 old.length (bytesC old)] w1) 18 (by kernel_rfl) (fun w hw => Mem.drew hw) ?_
            refine JR_v (i := 0) rfl (by kernel_rfl) (by kernel_rfl) rfl (by kernel_rfl) (by kernel_rfl) (panic_Then (panic_block (panic_Then (panic_then (panic_block (panic_Then panic_body)))))) (by decide) (vo_ex (fun _ => vo_move rfl)) (fun w hw => ⟨(_, _, _), hw⟩) ?_
            refine JR_v (i := 1) rfl (by kernel_rfl) (by kernel_rfl) rfl (by kernel_rfl) (by kernel_rfl) (panic_Then (panic_block (panic_Then (panic_then (panic_block (panic_Then panic_body)))))) (by decide) (vo_ex (fun _ => vo_move rfl)) (fun w hw => ⟨(_, _, _), hw⟩) ?_
            refine JR_v (i := 2) rfl (by kernel_rfl) (by kernel_rfl) rfl (by kernel_rfl) (by kernel_rfl) (panic_Then (panic_block (panic_Then (panic_then (panic_block (panic_Then panic_body)))))) (by decide) (vo_ex (fun _ => vo_move rfl)) (fun w hw => ⟨(_, _, _), hw⟩) ?_
            refine JR_v (i := 3) rfl (by kernel_rfl) (by kernel_rfl) rfl (by kernel_rfl) (by kernel_rfl) (panic_Then (panic_block (panic_Then (panic_then (panic_block (panic_Then panic_body)))))) (by decide) (vo_ex (fun _ => vo_move rfl)) (fun w hw => ⟨(_, _, _), hw⟩) ?_
            refine JR_v (i := 4) rfl (by kernel_rfl) (by kernel_rfl) rfl (by kernel_rfl) (by kernel_rfl) (panic_Then (panic_block (panic_Then (panic_then (panic_block (panic_Then panic_body)))))) (by decide) (vo_ex (fun _ => vo_indexAddr rfl rfl Try.underlying55 sz60 (by omega) (by omega))) (fun w hw => ⟨(_, _, _), hw⟩) ?_
            refine JR_v (i := 5) rfl (by kernel_rfl) (by kernel_rfl) rfl (by kernel_rfl) (by kernel_rfl) (panic_Then (panic_block (panic_Then (panic_then (panic_block (panic_Then panic_body)))))) (by decide) (vo_ex (fun _ => vo_fieldAddr rfl fo60_1)) (fun w hw => ⟨(_, _, _), hw⟩) ?_
            refine JR_v (i := 6) rfl (by kernel_rfl) (by kernel_rfl) rfl (by kernel_rfl) (by kernel_rfl) (panic_Then (panic_block (panic_Then (panic_then (panic_block (panic_Then panic_body)))))) (by decide) (vo_ex (fun _ => vo_loadRow rfl (by repeat (first | exact .head _ | apply List.Mem.tail)) (.cell Try.underlying3 rfl hl1))) (fun w hw => ⟨(_, _, _), hw⟩) ?_
            refine JR_v (i := 7) rfl (by kernel_rfl) (by kernel_rfl) rfl (by kernel_rfl) (by kernel_rfl) (panic_Then (panic_block (panic_Then (panic_then (panic_block (panic_Then panic_body)))))) (by decide) (vo_ex (fun _ => vo_mul rfl rfl (by omega) (by omega))) (fun w hw => ⟨(_, _, _), hw⟩) ?_
            refine JR_v (i := 8) rfl (by kernel_rfl) (by kernel_rfl) rfl (by kernel_rfl) (by kernel_rfl) (panic_Then (panic_block (panic_Then (panic_then (panic_block (panic_Then panic_body)))))) (by decide) (vo_ex (fun _ => vo_move rfl)) (fun w hw => ⟨(_, _, _), hw⟩) ?_
            refine JR_v (i := 9) rfl (by kernel_rfl) (by kernel_rfl) rfl (by kernel_rfl) (by kernel_rfl) (panic_Then (panic_block (panic_Then (panic_then (panic_block (panic_Then panic_body)))))) (by decide) (vo_ex (fun _ => vo_move rfl)) (fun w hw => ⟨(_, _, _), hw⟩) ?_
            refine JR_v (i := 10) rfl (by kernel_rfl) (by kernel_rfl) rfl (by kernel_rfl) (by kernel_rfl) (panic_Then (panic_block (panic_Then (panic_then (panic_block (panic_Then panic_body)))))) (by decide) (vo_ex (fun _ => vo_indexAddr rfl rfl Try.underlying55 sz60 (by omega) (by omega))) (fun w hw => ⟨(_, _, _), hw⟩) ?_
            refine JR_v (i := 11) rfl (by kernel_rfl) (by kernel_rfl) rfl (by kernel_rfl) (by kernel_rfl) (panic_Then (panic_block (panic_Then (panic_then (panic_block (panic_Then panic_body)))))) (by decide) (vo_ex (fun _ => vo_fieldAddr rfl fo60_1)) (fun w hw => ⟨(_, _, _), hw⟩) ?_
            refine JR_v (i := 12) rfl (by kernel_rfl) (by kernel_rfl) rfl (by kernel_rfl) (by kernel_rfl) (panic_Then (panic_block (panic_Then (panic_then (panic_block (panic_Then panic_body)))))) (by decide) (vo_ex (fun _ => vo_loadRow rfl (by repeat (first | exact .head _ | apply List.Mem.tail)) (.cell Try.underlying3 rfl hl1))) (fun w hw => ⟨(_, _, _), hw⟩) ?_
            refine JR_v (i := 13) rfl (by kernel_rfl) (by kernel_rfl) rfl (by kernel_rfl) (by kernel_rfl) (panic_Then (panic_block (panic_Then (panic_then (panic_block (panic_Then panic_body)))))) (by decide) (vo_ex (fun _ => vo_add rfl rfl (by omega) (by omega))) (fun w hw => ⟨(_, _, _), hw⟩) ?_
            refine JR_v (i := 14) rfl (by kernel_rfl) (by kernel_rfl) rfl (by kernel_rfl) (by kernel_rfl) (panic_Then (panic_block (panic_Then (panic_then (panic_block (panic_Then panic_body)))))) (by decide) (vo_ex (fun _ => vo_mul rfl rfl (by omega) (by omega))) (fun w hw => ⟨(_, _, _), hw⟩) ?_
            refine JR_v (i := 15) rfl (by kernel_rfl) (by kernel_rfl) rfl (by kernel_rfl) (by kernel_rfl) (panic_Then (panic_block (panic_Then (panic_then (panic_block (panic_Then panic_body)))))) (by decide) (vo_ex (fun _ => vo_sliceLH rfl rfl rfl Try.underlying54 sz5 (by omega) (by omega) (by omega))) (fun w hw => ⟨(_, _, _), hw⟩) ?_
            refine JR_split [16] (by kernel_rfl) rfl (all1 ?_)
            have hseg2 : RVals (fun b => b < w.heap.size) w (bytesC (piece old (k * 512))) (Go.sliced A1 ((k : Int) * 512).toNat (((k : Int) + 1) * 512).toNat c1 1) := by
              have := bytes_sliced (lo := (k : Int) * 512) (hi := ((k : Int) + 1) * 512) hr1 (by omega) (by omega) (by omega)
              rw [show (((k : Int) + 1) * 512).toNat - ((k : Int) * 512).toNat = 512 by omega, show ((k : Int) * 512).toNat = k * 512 by omega] at this
              rw [show ((k : Int) * 512).toNat = k * 512 by omega]
              exact this
            have hlen2 : p + (bytesC (piece old (k * 512))).length = p + 512 := by rw [bytesC_length, piece_length (by omega)]
            refine JK_op (β := Value) (fun v' => v') (fun v' => Mem w (fun _ => False) (fun b => b < w.heap.size) (fun b => b < w.heap.size) w  [.row v' 5 1 (p + (bytesC (piece old (k * 512))).length) (bytesC (b.take p) ++ bytesC (piece old (k * 512))), .row v35 60 2 nL ((findF old b 0).flatMap fdC), .row (.slice (some ⟨g9, 0, none⟩) nL cL) 60 2 nL ((findF old b 0).flatMap fdC), .row v29 60 2 nL ((findF old b 0).flatMap fdC), .row v26 5 1 b.length (bytesC b), .row v24 5 1 old.length (bytesC old)]) rfl rfl (by decide) trivial (do_appendR rfl rfl hseg2 Try.underlying54 ap5 rfl (by repeat (first | exact .head _ | apply TurnF.tail)) (bytesC_one _) (by omega) (by decide)) (fun v' w' hw => ⟨(_, _, _), hw⟩) (fun v128 => ?_)
            rw [hlen2, ← bytesC_append, heq, take_piece]
            refine JR_v (i := 17) rfl (by kernel_rfl) (by kernel_rfl) rfl (by kernel_rfl) (by kernel_rfl) (panic_Then (panic_block (panic_Then (panic_then (panic_block (panic_Then panic_body)))))) (by decide) (vo_ex (fun _ => vo_assign rfl)) (fun w hw => ⟨(_, _, _), hw⟩) ?_
            refine JR_done (by kernel_rfl) ?_
            refine JX_then ?_
            refine JC_region ?_
            refine JL_v (vo_move rfl) nofun (by decide) ?_
            refine JL_v (vo_move rfl) nofun (by decide) ?_
            refine JL_v (vo_indexAddr rfl rfl Try.underlying55 sz60 (by omega) (by omega)) nofun (by decide) ?_
            refine JL_v (vo_fieldAddr rfl fo60_0) nofun (by decide) ?_
            refine JL_v (vo_loadRow rfl (by repeat (first | exact .head _ | apply List.Mem.tail)) (.cell Try.underlying3 rfl hl0)) nofun (by decide) ?_
            refine JL_v (vo_add rfl rfl (by omega) (by omega)) nofun (by decide) ?_
            refine JL_v (vo_assign rfl) nofun (by decide) ?_
            refine JL_nil ?_
            refine JX_block ?_
            refine JX_then ?_
            refine JC_region ?_
            refine JL_v (vo_move rfl) nofun (by decide) ?_
            refine JL_v (vo_add rfl rfl (by omega) (by omega)) nofun (by decide) ?_
            refine JL_v (vo_assign rfl) nofun (by decide) ?_
            refine JL_nil ?_
            refine JX_loop ⟨(i + 1, p + 512, v128), hil, hch2⟩ (by show nL - (i + 1) < nL - i; omega) (by repeat (first | exact trivial | refine ⟨rfl, ?_⟩ | refine ⟨trivial, ?_⟩)) (fun w hw => hw)
        · refine JC_exit ?_
          refine JX_then_exit ?_
          refine JX_thenK_exit ?_
          refine JX_block_exit ?_
          refine JX_then ?_
          refine JC_seq ?_
          refine JC_region ?_
          have hab := hch.le
          refine JL_v (vo_move rfl) nofun (by decide) ?_
          refine JL_v (vo_move rfl) nofun (by decide) ?_
          refine JL_v (vo_move rfl) nofun (by decide) ?_
          refine JL_v (vo_sliceL rfl rfl Try.underlying54 sz5 (by omega) (by omega)) nofun (by decide) ?_
          have hseg3 : RVals (fun b => b < w.heap.size) w (bytesC ((b.drop at_).take (b.length - at_))) (Go.sliced A2 (at_ : Int).toNat b.length c2 1) := bytes_sliced (lo := (at_ : Int)) (hi := (b.length : Int)) hr2 (by omega) (by omega) (by omega)
          have hlen3 : at_ + (bytesC ((b.drop at_).take (b.length - at_))).length = b.length := by rw [bytesC_length]; simp; omega
          refine st_appendR rfl rfl hseg3 Try.underlying54 ap5 rfl (by repeat (first | exact .head _ | apply TurnF.tail)) (bytesC_one _) (by omega) (by decide) (by decide) (fun v139 => ?_)
          rw [hlen3, ← bytesC_append, take_mid b hab, List.take_length]
          refine JL_v (vo_assign rfl) nofun (by decide) ?_
          refine JL_nil ?_
          refine JX_then ?_
          refine JC_seq ?_
          refine JC_seq ?_
          refine JC_region ?_
          refine JL_v (vo_assign rfl) nofun (by decide) ?_
          refine JL_nil ?_
          refine JX_then ?_
          refine JC_block ?_
          refine JC_loop (α := { x : Nat × List Value // x.1 ≤ nL ∧ x.2.length = nL * 2 }) (fun x => [(0, .slice A1 old.length c1), (1, .slice A2 b.length c2), (5, v24), (6, v26), (7, v29), (8, .slice AL nL cL), (9, v35), (11, v139), (13, .int .i64 x.1.1)]) (fun x => Mem w (fun _ => False) (fun b => b < w.heap.size) (fun b => b < w.heap.size) w  [.row v139 5 1 b.length (bytesC b), .row v35 60 2 nL ((findF old b 0).flatMap fdC), .row (.slice AL nL cL) 60 2 nL (x.1.2), .row v29 60 2 nL ((findF old b 0).flatMap fdC), .row v26 5 1 b.length (bytesC b), .row v24 5 1 old.length (bytesC old)]) (fun x => nL - x.1.1) ⟨(0, (findF old b 0).flatMap fdC), by simp, by show ((findF old b 0).flatMap fdC).length = nL * 2; rw [flat_length fdC_length, hnL]⟩ (by repeat (first | exact trivial | refine ⟨rfl, ?_⟩ | refine ⟨trivial, ?_⟩)) (fun w hw => hw) ?_
          rintro ⟨⟨i, xs⟩, hin, hxl⟩
          dsimp only at hin hxl ⊢
          refine JC_seq ?_
          refine JC_seq ?_
          refine JC_region ?_
          refine JL_v (vo_move rfl) nofun (by decide) ?_
          refine JL_v (vo_move rfl) nofun (by decide) ?_
          refine JL_v (vo_len rfl Try.underlying55) nofun (by decide) ?_
          refine JL_v (vo_cmp rfl rfl rfl) nofun (by decide) ?_
          refine JL_nil ?_
          refine JX_then ?_
          refine JC_cond _ rfl (fun hc143 => ?_) (fun hc143 => ?_)
          · have hil : i < nL := by simp at hc143; omega
            refine JC_rowSome (v := .slice AL nL cL) (e := 60) (sz := 2) (n := nL) (xs := xs) (by repeat (first | exact .head _ | apply List.Mem.tail)) (by omega) (fun g9 cap9 h9 => ?_)
            cases h9
            refine JC_skip ?_
            refine JX_then ?_
            refine JC_seq ?_
            refine JC_block ?_
            refine JC_region ?_
            refine JL_v (vo_move rfl) nofun (by decide) ?_
            refine JL_v (vo_move rfl) nofun (by decide) ?_
            refine JL_v (vo_build rfl (by first | exact bl60 _ _)) nofun (by decide) ?_
            refine JL_v (vo_indexAddr rfl rfl Try.underlying55 sz60 (by omega) (by omega)) nofun (by decide) ?_
            refine st_storeRow rfl rfl sz60 (by exact one_of_all rfl) (by show 0 + (i : Int).toNat * 2 + 2 ≤ nL * 2; omega) (by repeat (first | exact .head _ _ _ | apply Turn.tail)) ?_
            refine JL_nil ?_
            refine JX_block ?_
            refine JX_then ?_
            refine JC_region ?_
            refine JL_v (vo_move rfl) nofun (by decide) ?_
            refine JL_v (vo_add rfl rfl (by omega) (by omega)) nofun (by decide) ?_
            refine JL_v (vo_assign rfl) nofun (by decide) ?_
            refine JL_nil ?_
            refine JX_loop ⟨(i + 1, laid xs (0 + (i : Int).toNat * 2) (fdC (-1, -1))), hil, ?_⟩ (by show nL - (i + 1) < nL - i; omega) (by repeat (first | exact trivial | refine ⟨rfl, ?_⟩ | refine ⟨trivial, ?_⟩)) (fun w hw => hw)
            show (laid xs (0 + (i : Int).toNat * 2) (fdC (-1, -1))).length = nL * 2
            rw [laid_length]
            · exact hxl
            · show 0 + (i : Int).toNat * 2 + 2 ≤ _; omega
          · refine JC_exit ?_
            refine JX_then_exit ?_
            refine JX_thenK_exit ?_
            refine JX_block_exit ?_
            refine JX_then ?_
            refine JC_seq ?_
            refine JC_seq ?_
            refine JC_region ?_
            refine JL_v (vo_move rfl) nofun (by decide) ?_
            refine JL_v (vo_move rfl) nofun (by decide) ?_
            refine st_scall rfl en16 (by decide) (fun w1 hw => SCalls.mono (same_spec b b _ _ w1 (hw.rvals (e := 5) (by repeat (first | exact .head _ | apply List.Mem.tail))) (hr2.ext hw.ext_all)) (fun u hu => (hu.trans (congrArg Value.bool (decide_eq_true rfl)) : u = .bool true))) ?_
            rintro _ rfl
            refine JL_v (vo_not rfl) nofun (by decide) ?_
            refine JL_v (vo_move rfl) nofun (by decide) ?_
            refine JL_case 154 rfl (fun hg154 => absurd hg154 (by simp)) (fun hg154 => ?_)
            refine JL_yes rfl rfl ?_
            refine JL_v (vo_move rfl) nofun (by decide) ?_
            refine JL_yes rfl rfl ?_
            refine JL_v (vo_move rfl) nofun (by decide) ?_
            refine JL_yes rfl rfl ?_
            refine st_scall rfl en15 (by decide) (fun w1 hw => SCalls.mono (samefound_spec (findF old b 0) (findF old b 0) _ _ w1 (hw.ritems fdC_length (by rw [hnL]; repeat (first | exact .head _ | apply List.Mem.tail))) (hw.ritems fdC_length (by rw [hnL]; repeat (first | exact .head _ | apply List.Mem.tail)))) (fun u hu => (hu.trans (congrArg Value.bool (decide_eq_true rfl)) : u = .bool true))) ?_
            rintro _ rfl
            refine JL_yes rfl rfl ?_
            refine JL_v (vo_not rfl) nofun (by decide) ?_
            refine JL_v (vo_pick rfl rfl) nofun (by decide) ?_
            refine JL_nil ?_
            refine JX_then ?_
            refine JC_cond _ rfl (fun hc159 => ?_) (fun hc159 => ?_)
            · exact absurd hc159 (by simp)
            · refine JC_skip ?_
              refine JX_then ?_
              refine JC_seq ?_
              refine JC_seq ?_
              refine JC_region ?_
              refine JL_rowSlice (v := v26) (e := 5) (sz := 1) (n := b.length) (xs := bytesC b) (by repeat (first | exact .head _ | apply List.Mem.tail)) (fun A26 c26 hv26 => ?_)
              subst hv26
              refine JL_v (vo_assign rfl) nofun (by decide) ?_
              refine JL_nil ?_
              refine JX_then ?_
              refine JC_block ?_
              refine JC_loop (α := { x : Nat × List UInt8 // x.1 ≤ b.length ∧ x.2.length = b.length }) (fun x => [(5, v24), (6, .slice A26 b.length c26), (14, .int .i64 x.1.1)]) (fun x => Mem w (fun _ => False) (fun b => b < w.heap.size) (fun b => b < w.heap.size) w  [.row (.slice A26 b.length c26) 5 1 b.length (bytesC x.1.2), .row v24 5 1 old.length (bytesC old)]) (fun x => b.length - x.1.1) ⟨(0, b), by simp, rfl⟩ (by repeat (first | exact trivial | refine ⟨rfl, ?_⟩ | refine ⟨trivial, ?_⟩)) (fun w hw => hw.sub (.cons _ (.cons _ (.cons _ (.cons _ (List.Sublist.refl _)))))) ?_
              rintro ⟨⟨i, two⟩, hin, htl⟩
              dsimp only at hin htl ⊢
              refine JC_seq ?_
              refine JC_seq ?_
              refine JC_region ?_
              refine JL_v (vo_move rfl) nofun (by decide) ?_
              refine JL_v (vo_move rfl) nofun (by decide) ?_
              refine JL_v (vo_len rfl Try.underlying54) nofun (by decide) ?_
              refine JL_v (vo_cmp rfl rfl rfl) nofun (by decide) ?_
              refine JL_nil ?_
              refine JX_then ?_
              refine JC_cond _ rfl (fun hc163 => ?_) (fun hc163 => ?_)
              · have hil : i < b.length := by simp at hc163; omega
                obtain ⟨c, hc⟩ : ∃ c, two[i]? = some c := ⟨_, List.getElem?_eq_getElem (by omega)⟩
                refine JC_rowSome (v := .slice A26 b.length c26) (e := 5) (sz := 1) (n := b.length) (xs := bytesC two) (by repeat (first | exact .head _ | apply List.Mem.tail)) (by omega) (fun g9 cap9 h9 => ?_)
                cases h9
                have hl0 : (bytesC two).toArray[0 + (i : Int).toNat * 1]? = some (.int .u8 c.toNat) := by rw [List.getElem?_toArray, show 0 + (i : Int).toNat * 1 = i by omega]; exact bytesC_get hc
                have hwr : IntKind.u8.wrap ((c.toNat : Int) + 1) = (UInt8.ofNat (c.toNat + 1)).toNat := by simp [IntKind.wrap, IntKind.bits, IntKind.signed]
                refine JC_skip ?_
                refine JX_then ?_
                refine JC_seq ?_
                refine JC_block ?_
                refine JC_region ?_
                refine JL_v (vo_move rfl) nofun (by decide) ?_
                refine JL_v (vo_move rfl) nofun (by decide) ?_
                refine JL_v (vo_move rfl) nofun (by decide) ?_
                refine JL_v (vo_move rfl) nofun (by decide) ?_
                refine JL_v (vo_indexAddr rfl rfl Try.underlying54 sz5 (by omega) (by omega)) nofun (by decide) ?_
                refine JL_v (vo_loadRow rfl (by repeat (first | exact .head _ | apply List.Mem.tail)) (.cell Try.underlying5 rfl hl0)) nofun (by decide) ?_
                refine JL_v (vo_arith rfl rfl rfl) nofun (by decide) ?_
                refine JL_v (vo_indexAddr rfl rfl Try.underlying54 sz5 (by omega) (by omega)) nofun (by decide) ?_
                refine st_storeRow rfl rfl sz5 (by exact one_of_all rfl) (by show 0 + (i : Int).toNat * 1 + 1 ≤ b.length * 1; omega) (by repeat (first | exact .head _ _ _ | apply Turn.tail)) ?_
                refine JL_nil ?_
                refine JX_block ?_
                refine JX_then ?_
                refine JC_region ?_
                refine JL_v (vo_move rfl) nofun (by decide) ?_
                refine JL_v (vo_add rfl rfl (by omega) (by omega)) nofun (by decide) ?_
                refine JL_v (vo_assign rfl) nofun (by decide) ?_
                refine JL_nil ?_
                refine JX_loop ⟨(i + 1, two.set i (UInt8.ofNat (c.toNat + 1))), hil, by simp [htl]⟩ (by show b.length - (i + 1) < b.length - i; omega) (by repeat (first | exact trivial | refine ⟨rfl, ?_⟩ | refine ⟨trivial, ?_⟩)) (fun w hw => ?_)
                have h9 := laid_set two i (UInt8.ofNat (c.toNat + 1)) (by omega)
                rw [← hwr] at h9
                dsimp only
                rw [← h9]
                have : 0 + (i : Int).toNat * 1 = i := by omega
                rw [this] at hw
                exact hw
              · refine JC_exit ?_
                refine JX_then_exit ?_
                refine JX_thenK_exit ?_
                refine JX_block_exit ?_
                refine JX_then ?_
                refine JC_seq ?_
                refine JC_region ?_
                refine JL_v (vo_move rfl) nofun (by decide) ?_
                refine JL_v (vo_move rfl) nofun (by decide) ?_
                refine st_ocall rfl en14 (by decide) (fun w1 hw => find_spec old two (by omega) (by omega) _ _ w1 ((hw.rvals (e := 5) (by repeat (first | exact .head _ | apply List.Mem.tail)))) ((hw.rvals (e := 5) (by repeat (first | exact .head _ | apply List.Mem.tail))))) ?_
                rintro v176 _ _ ⟨rfl, rfl⟩
                refine JL_v (vo_move rfl) nofun (by decide) ?_
                refine JL_v (vo_move rfl) nofun (by decide) ?_
                refine st_ocall rfl en13 (by decide) (fun w1 hw => reffind_spec old two (by omega) (by omega) _ _ w1 (hw.rvals (e := 5) (by repeat (first | exact .head _ | apply List.Mem.tail))) (hw.rvals (e := 5) (by repeat (first | exact .head _ | apply List.Mem.tail)))) ?_
                rintro v179 _ _ ⟨rfl, rfl⟩
                refine st_scall rfl en15 (by decide) (fun w1 hw => SCalls.mono (samefound_spec (findF old two 0) (findF old two 0) _ _ w1 (hw.ritems fdC_length (by repeat (first | exact .head _ | apply List.Mem.tail))) (hw.ritems fdC_length (by repeat (first | exact .head _ | apply List.Mem.tail)))) (fun u hu => (hu.trans (congrArg Value.bool (decide_eq_true rfl)) : u = .bool true))) ?_
                rintro _ rfl
                refine JL_v (vo_assign rfl) nofun (by decide) ?_
                refine JL_nil ?_
                refine JX_then ?_
                refine JC_ret ?_
                refine ret1 rfl rfl ?_
                intro w1 hM; exact SC_end hM rfl

end Go.Eng

set_option linter.unusedVariables false
set_option linter.unusedSimpArgs false
namespace Go.Eng
open Go Go.RowKit Go.Proofs Go.Joins Go.ChangeShapes
section
variable {H : Type} {enc : TypeId × Value → H} {P : Program} {W : World} {spare : Nat → Bool} {held : Bool}
theorem take1_get {α : Type} {l : List α} {i : Nat} {x : α} (h : (l.drop i).take 1 = [x]) : l[i]? = some x := by
  have : ((l.drop i).take 1)[0]? = some x := by rw [h]; rfl
  simpa [List.getElem?_take, List.getElem?_drop] using this
theorem cell_at {a : Addr} {c : Array Value} {te : TypeId} {fr : Nat × Nat} (hs : a.spot = none) (h : W.heap[a.block]? = some (.cells c te fr)) (m j : Nat) : W.cell? ((a.add m).add j) = c[a.off + m + j]? := by
  obtain ⟨b, o, s⟩ := a
  simp only at hs h
  subst hs
  have : (Addr.add (Addr.add ⟨b, o, none⟩ m) j) = ⟨b, o + m + j, none⟩ := by
    unfold Addr.add
    split <;> split <;> simp_all <;> omega
  rw [this, cell_cells h]
/-- a slice of one-cell elements, each read by a rule -/
theorem trod_row {α : Type} (f : α → Value) {t e : TypeId} (ht : P.underlying t = some (.slice e)) (hc : P.cellsOf e = 1) (he : ∀ n (v : Value) (y : DataW H × List MemPlace), DataW.trod enc P W 0 spare held n e [v] = some y → ∃ x, v = f x)
    {n : Nat} {cs : List Value} {x : DataW H × List MemPlace} (h : DataW.trod enc P W 0 spare held n t cs = some x) : ∃ (l : List α) (v : Value), cs = [v] ∧ RVals (fun b => b < W.heap.size) W (l.map f) v := by
  rcases DataW.trod_slice ht h with ⟨rfl, rfl⟩ | ⟨a, len, cap, elems, rest, m, rfl, rfl, rfl, _, hlc, hcm, hel, hel2, _, _⟩
  · exact ⟨[], _, rfl, RVals.nil⟩
  · rw [hc] at hel2
    have key : ∀ i, ∃ q : Option α, i < len → ∃ x, q = some x ∧ W.cell? ((a.add (i * 1)).add 0) = some (f x) := by
      intro i
      by_cases hi : i < len
      · have h1 := hel2 i hi
        rw [List.getElem?_eq_getElem (by omega)] at h1
        obtain ⟨cs', hc', ht'⟩ := Option.bind_eq_some_iff.1 h1
        obtain ⟨_, hl, hcell⟩ := World.cells?_some hc'
        match cs', hl with
        | [v], _ =>
          obtain ⟨x, rfl⟩ := he _ _ _ ht'
          have h2 := hcell 0 (by omega)
          exact ⟨some x, fun _ => ⟨x, rfl, h2⟩⟩
      · exact ⟨none, fun h => absurd h hi⟩
    obtain ⟨q, hq⟩ := Classical.axiomOfChoice key
    by_cases h0 : len = 0
    · subst h0
      exact ⟨[], _, rfl, _, cap, rfl, by simp, by have : cap ≤ maxLen := hcm; simp only [maxLen] at this; omega, .inl (by simp)⟩
    obtain ⟨x0, hx0, hc0⟩ := hq 0 (by omega)
    have hsp : a.spot = none ∧ ∃ c te fr, W.heap[a.block]? = some (.cells c te fr) := by
      have h00 : W.cell? a = some (f x0) := by
        have : (a.add (0 * 1)).add 0 = a := by simp [Addr.add]
        rw [← this]; exact hc0
      unfold World.cell? at h00
      split at h00
      · rename_i c te fr hh
        split at h00
        · cases h00
        · rename_i hs
          exact ⟨by simpa using hs, c, te, fr, hh⟩
      · cases h00
    obtain ⟨hs, c, te, fr, hh⟩ := hsp
    have haa : a = ⟨a.block, a.off, none⟩ := by obtain ⟨b, o, s⟩ := a; simp only at hs; subst hs; rfl
    have hlt : a.block < W.heap.size := (Array.getElem?_eq_some_iff.1 hh).1
    have hll : ((List.range len).map fun i => (q i).getD x0).length = len := by simp
    refine ⟨(List.range len).map fun i => (q i).getD x0, _, rfl, some a, cap, by simp, by simpa using hlc, by have : cap ≤ maxLen := hcm; simp only [maxLen] at this; omega, .inr ⟨a.block, a.off, c, te, fr, by rw [← haa], ⟨hlt, hh⟩, fun i u hu => ?_⟩⟩
    rw [List.getElem?_map, List.getElem?_map] at hu
    obtain ⟨y, hy, rfl⟩ := Option.map_eq_some_iff.1 hu
    obtain ⟨j, hj, rfl⟩ := Option.map_eq_some_iff.1 hy
    obtain ⟨hi, hji⟩ := List.getElem?_eq_some_iff.1 hj
    simp at hi hji
    subst hji
    obtain ⟨x, hx, hcx⟩ := hq i hi
    rw [hx]
    have := cell_at hs hh (i * 1) 0
    rw [hcx] at this
    rw [show a.off + i = a.off + i * 1 + 0 by omega, ← this]
    rfl
theorem trod_bytes {t e : TypeId} (ht : P.underlying t = some (.slice e)) (hc : P.cellsOf e = 1) (he : P.underlying e = some (.int .u8)) {n : Nat} {cs : List Value} {x : DataW H × List MemPlace} (h : DataW.trod enc P W 0 spare held n t cs = some x) :
    ∃ l v, cs = [v] ∧ RVals (fun b => b < W.heap.size) W (bytesC l) v :=
  trod_row (fun b : UInt8 => .int .u8 b.toNat) ht hc (fun n v y hy => by
    obtain ⟨k, hk, _, hw⟩ := DataW.trod_int he hy
    have h9 : 0 ≤ k ∧ k ≤ 255 := by simpa [Lit.wf, IntKind.min, IntKind.max, IntKind.signed, IntKind.bits] using hw
    refine ⟨UInt8.ofNat k.toNat, ?_⟩
    have : v = .int .u8 k := by simpa using hk
    rw [this]
    congr 1
    simp
    omega) h
end
end Go.Eng
