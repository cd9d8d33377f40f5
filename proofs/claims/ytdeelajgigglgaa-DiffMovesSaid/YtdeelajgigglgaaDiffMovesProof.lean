/-
  Proved here: the statement DiffMovesSaid: for every list of changes 'twinelaw13.DiffMoves' returns true and the list reads as it did.
  Conditions: none beyond the given row's own.
-/
import Derived.Test.YtdeelajgigglgaaRows
import Derived.WalkKit
import Derived.ProofKit
import Derived.OpenShut
import Derived.JoinedOf
import Derived.Handed
import Derived.Carry
import Derived.Test.YtdeelajgigglgaaMovOpen
set_option linter.unusedVariables false
namespace Go.Proofs.Ytdeelajgigglgaa
open Go Go.Eng Go.ChangeShapes Go.WideShapes Go.ChangeAt Go.RowKit
namespace diffMovesP
theorem own : ownKnob Try.prog.godebug = none := by kernel_rfl
theorem laidOut : laidOutB Try.prog = true := by kernel_rfl
set_option maxRecDepth 100000 in
theorem contract (H : Type) (enc : TypeId × Value → H) (W : World) (base : Nat) (args : Array Value) (ds gs : List (DataW H)) (before : List MemPlace)
    (hval : ∀ (j : Nat) t v, Try.f3.params[j]? = some t → args[j]? = some v → Value.okWide Try.prog W .any base t v)
    (hW : DataW.Whole enc Try.prog Try.f3.params.toList Rows.diffMovesSpec.vars false W args.toList ds gs before) :
    Calls Try.prog 3 args W fun e W' => ∃ v, e = .returned v ∧ Rows.diffMovesSpec.post enc Try.prog Try.f3 false true false false W args v W' := by
  have hW' := hW
  obtain ⟨p, q, hA0, hV, rfl, hfz, hnd⟩ := hW
  have hA : DataW.TrodAll enc Try.prog W 0 (fun _ => true) true Try.f3.params.toList args.toList ds p := hA0
  rw [Try.params3] at hA hval
  obtain ⟨v0, vs0, d0, ds0, p0, q0, hargs, rfl, rfl, h0, r0⟩ := trodAll_cons hA
  obtain ⟨rfl, rfl, rfl⟩ := trodAll_nil r0
  obtain rfl : args = #[v0] := by cases args; simp_all
  obtain ⟨rfl, rfl⟩ := trodVars_none hV
  have h0k := h0
  have hlt0 : ∀ x ∈ p0, x.block < W.heap.size := fun x hx => hW'.lt x (by simp [hx])
  obtain ⟨A0, n0, c0, rfl⟩ := okWide_slice Try.underlying22 (hval 0 22 v0 rfl rfl)
  obtain ⟨fuel0, hf0⟩ := h0
  obtain ⟨l, u0, hu0, hr0, hs⟩ := trod_items chC chC_length (by decide) (fun c => c.path.size ≤ 9223372036854775807) Try.underlying22 co53 (fun n cs y h => trod_chg h) hf0
  obtain rfl : Value.slice A0 n0 c0 = u0 := by simpa [Value.cells] using hu0
  clear hA0
  simp only [List.append_nil] at hW'
  refine Calls.mono (law3_spec l hs _ W hr0) fun e W' ⟨v, he, hbl, hv⟩ => ?_
  subst hv
  refine ⟨_, he, ⟨_, _, _, [], p0 ++ [], [], hW', trodAll_cons_mk (shut_bool Try.underlying4 _) trodAll_mk0, trodAll_cons_mk (Below.trod laidOut (by kernel_rfl) (of_decide_eq_true (by kernel_rfl)) h0k hbl hlt0) trodAll_mk0, rfl, ?_, fun h => by cases h⟩⟩
  exact hbl.frame _
set_option maxRecDepth 100000 in
theorem lifted (os : Os) (started : os.Started) (H : Type) (enc : TypeId × Value → H) :
    ReturnsInHanded {} Try.checked os 3 .any ((OpenSpec.ofChange Rows.diffMovesSpec).pre6 enc Try.prog Try.f3 Rows.diffMovesRow.domain false) (Rows.diffMovesSpec.post enc Try.prog Try.f3 false true false false) := by
  refine returnsInHanded_of_change (C := Try.checked) (s := Rows.diffMovesSpec) own started (by kernel_rfl) Try.func3
    (ChangeSpec.witness6 false ⟨#[], #[.slice none 0 0], []⟩ 8 (by kernel_rfl) (by kernel_rfl) (by kernel_rfl) (by kernel_rfl)) ?_
  intro W base args ds gs before hval hW _ _
  exact contract H enc W base args ds gs before hval hW
theorem over : Rows.diffMovesRow.holds Try.pinned (OpenSpec.ofChange Rows.diffMovesSpec) :=
  OpenClaim.holds_of_wide 3 Try.f3 rfl rfl rfl rfl rfl rfl rfl ⟨rfl, rfl, rfl, rfl, rfl⟩ rfl rfl rfl rfl rfl (by kernel_rfl) Try.func3 (by kernel_rfl)
    (by unfold Func.isInstance; first | exact of_decide_eq_true (by kernel_rfl) | kernel_rfl) (by unfold Func.isWrapper; first | (rw [if_pos (by decide +kernel)]; kernel_rfl) | (rw [if_neg (by decide +kernel)]; exact ⟨rfl, rfl⟩))
    (fun os started H enc _ => lifted os started H enc)
end diffMovesP
theorem diffMoves_holds : Rows.DiffMovesSaid := diffMovesP.over
#print axioms diffMoves_holds
end Go.Proofs.Ytdeelajgigglgaa
