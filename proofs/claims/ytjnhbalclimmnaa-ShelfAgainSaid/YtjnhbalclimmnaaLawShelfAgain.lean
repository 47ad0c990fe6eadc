/- The row of the law ShelfAgain. -/
import Derived.Test.YtjnhbalclimmnaaRows
import Derived.Test.YtjnhbalclimmnaaPAx10
import Derived.Test.YtjnhbalclimmnaaN4
import Derived.Test.YtjnhbalclimmnaaR1
import Derived.WalkKit
import Derived.ProofKit
import Derived.OpenShut
import Derived.ShutString
import Derived.ChangeOld
import Derived.Below
import Derived.SizedLaws
namespace Go.Proofs.Ytjnhbalclimmnaa.shelfAgain
open Go.ChangeShapes Go.WideShapes Go.ChangeAt Go.RowKit Go.Proofs.Ytjnhbalclimmnaa.R
open Go.ChangeMaps (open_string shut_string)
set_option linter.unusedVariables false
theorem own : ownKnob Try.prog.godebug = none := by kernel_rfl
theorem laidOut : laidOutB Try.prog = true := by kernel_rfl
set_option maxRecDepth 100000 in
theorem lifted (os : Os) (started : os.Started) (H : Type) (enc : TypeId × Value → H) :
    ReturnsInHanded {} Try.checked os 4 .any (Rows.shelfAgainSpec.pre6 enc Try.prog Try.f4 Rows.shelfAgainRow.domain false) (Rows.shelfAgainSpec.post enc Try.prog Try.f4 false true false false) := by
  refine returnsInHanded_of_change_sized (C := Try.checked) own started (by kernel_rfl) Try.func4
    (ChangeSpec.witness6 (enc := enc) (C := Try.checked) false ⟨#[], #[.slice none 0 0], []⟩ 8 (by kernel_rfl) (by kernel_rfl) (by kernel_rfl) (by kernel_rfl)) ?_
  intro W base args ds gs before hval0 hW hcnd hsz0 _
  have hsz : (DataW.weightsEach Try.prog (Try.f4.params.toList ++ Rows.shelfAgainSpec.plain.varTypes Try.prog) (ds ++ gs)).all (· ≤ reachBytes) = true := hsz0
  have hval : ∀ (j : Nat) t v, Try.f4.params[j]? = some t → args[j]? = some v → Value.okWide Try.prog W .any base t v := hval0
  have hW' := hW
  obtain ⟨p, q, hA0, hV, rfl, hfz, hnd⟩ := hW
  have hA : DataW.TrodAll enc Try.prog W 0 (fun _ => true) true Try.f4.params.toList args.toList ds p := hA0
  rw [Try.params4] at hA hval hsz
  obtain ⟨v0, vs0, d0, ds0, p0, q0, hargs, rfl, rfl, h0, r0⟩ := trodAll_cons hA
  obtain ⟨rfl, rfl, rfl⟩ := trodAll_nil r0
  obtain rfl : args = #[v0] := by cases args; simp_all
  obtain ⟨rfl, rfl⟩ := trodVars_none hV
  obtain ⟨a0, len0, cap0, rfl⟩ := okWide_slice Try.underlying22 (hval 0 22 v0 rfl rfl)
  have k0 := h0
  have lt0 : ∀ x ∈ p0, x.block < W.heap.size := by obtain ⟨m, hm⟩ := k0; exact DataW.trod_lt m _ _ _ hm
  obtain ⟨hc0, hd0, xs, hx, hxs, hm0, hcell⟩ := open_recs Try.underlying22 Try.underlying45 (by kernel_rfl) rfl rfl (by kernel_rfl) (by kernel_rfl) Try.underlying3 Try.underlying9 h0
  have y0 : len0 ≤ 140737488351232 := by
    rcases hd0 with ⟨_, h⟩ | ⟨elems, rest, rfl, h⟩
    · omega
    · have z := sized_slice hsz (j := 0) (t := 22) rfl rfl Try.underlying22
      have hb : Try.prog.bytesOf 45 = 24 := by kernel_rfl
      rw [hb] at z
      have hr : reachBytes = 140737488351232 := rfl
      rw [hr] at z
      omega
  have hC := C45_of hx hm0 hcell
  have hl : (xs.map fun q => (⟨q.1, q.2⟩ : PA.S45)).length = len0 := by rw [List.length_map, hx]
  rw [← hl]
  obtain ⟨k, hk⟩ := PA.shelfAgain_f (xs.map fun q => (⟨q.1, q.2⟩ : PA.S45)) (by rw [hl]; exact y0)
  clear hA0 hval0 hsz0 hsz
  refine (PA.maquettelaw16_ShelfAgain.calls k a0 cap0 _ true W hC (by rw [hl]; exact hc0) hk).mono fun e W' ⟨he, bel⟩ => ?_
  subst he
  rw [hl]
  exact ⟨_, rfl, _, _, _, [], _, [], hW', trodAll_mk1 (shut_bool Try.underlying4 _), (trodAll_cons_mk (Below.trod laidOut (by kernel_rfl) (of_decide_eq_true (by kernel_rfl)) k0 bel lt0) trodAll_mk0), rfl, bel.frame _, fun h => by cases h⟩
theorem over : Rows.shelfAgainRow.holds Try.pinned (OpenSpec.ofChange Rows.shelfAgainSpec) :=
  OpenClaim.holds_of_wide 4 Try.f4 rfl rfl rfl rfl rfl rfl rfl ⟨rfl, rfl, rfl, rfl, rfl⟩ rfl rfl rfl rfl rfl (by kernel_rfl) Try.func4 (by kernel_rfl)
    (of_decide_eq_true (by kernel_rfl)) (by unfold Func.isWrapper; first | (rw [if_pos (by decide +kernel)]; kernel_rfl) | (rw [if_neg (by decide +kernel)]; exact ⟨rfl, rfl⟩))
    (fun os started H enc _ => lifted os started H enc)
theorem proved : Rows.ShelfAgainSaid := over
#print axioms proved
end Go.Proofs.Ytjnhbalclimmnaa.shelfAgain
namespace Go.Proofs.Ytjnhbalclimmnaa
/-- The row, under a short name, for the claim. -/
theorem shelfAgain_holds : Rows.ShelfAgainSaid := shelfAgain.proved
end Go.Proofs.Ytjnhbalclimmnaa
