/- The row of the law ShelfMore. -/
import Derived.Test.YtjnhbalclimmnaaRows
import Derived.Test.YtjnhbalclimmnaaE8
import Derived.Test.YtjnhbalclimmnaaR1
import Derived.WalkKit
import Derived.ProofKit
import Derived.OpenShut
import Derived.ShutString
import Derived.ChangeOld
import Derived.Below
import Derived.SizedLaws
namespace Go.Proofs.Ytjnhbalclimmnaa.shelfMore
open Go.ChangeShapes Go.WideShapes Go.ChangeAt Go.RowKit Go.Proofs.Ytjnhbalclimmnaa.R
open Go.ChangeMaps (open_string shut_string)
set_option linter.unusedVariables false
theorem own : ownKnob Try.prog.godebug = none := by kernel_rfl
theorem laidOut : laidOutB Try.prog = true := by kernel_rfl
set_option maxRecDepth 100000 in
theorem lifted (os : Os) (started : os.Started) (H : Type) (enc : TypeId × Value → H) :
    ReturnsInHanded {} Try.checked os 8 .any (Rows.shelfMoreSpec.pre6 enc Try.prog Try.f8 Rows.shelfMoreRow.domain false) (Rows.shelfMoreSpec.post enc Try.prog Try.f8 false true false false) := by
  refine returnsInHanded_of_change_sized (C := Try.checked) own started (by kernel_rfl) Try.func8
    (ChangeSpec.witness6 (enc := enc) (C := Try.checked) false ⟨#[], #[.slice none 0 0, .string ⟨#[]⟩], []⟩ 8 (by kernel_rfl) (by kernel_rfl) (by kernel_rfl) (by kernel_rfl)) ?_
  intro W base args ds gs before hval0 hW hcnd hsz0 _
  have hsz : (DataW.weightsEach Try.prog (Try.f8.params.toList ++ Rows.shelfMoreSpec.plain.varTypes Try.prog) (ds ++ gs)).all (· ≤ reachBytes) = true := hsz0
  have hval : ∀ (j : Nat) t v, Try.f8.params[j]? = some t → args[j]? = some v → Value.okWide Try.prog W .any base t v := hval0
  have hW' := hW
  obtain ⟨p, q, hA0, hV, rfl, hfz, hnd⟩ := hW
  have hA : DataW.TrodAll enc Try.prog W 0 (fun _ => true) true Try.f8.params.toList args.toList ds p := hA0
  rw [Try.params8] at hA hval hsz
  obtain ⟨v0, vs0, d0, ds0, p0, q0, hargs, rfl, rfl, h0, r0⟩ := trodAll_cons hA
  obtain ⟨v1, vs1, d1, ds1, p1, q1, rfl, rfl, rfl, h1, r1⟩ := trodAll_cons r0
  obtain ⟨rfl, rfl, rfl⟩ := trodAll_nil r1
  obtain rfl : args = #[v0, v1] := by cases args; simp_all
  obtain ⟨rfl, rfl⟩ := trodVars_none hV
  obtain ⟨a0, len0, cap0, rfl⟩ := okWide_slice Try.underlying22 (hval 0 22 v0 rfl rfl)
  have k0 := h0
  have lt0 : ∀ x ∈ p0, x.block < W.heap.size := by obtain ⟨m, hm⟩ := k0; exact DataW.trod_lt m _ _ _ hm
  obtain ⟨hc0, hd0, xs0, hx0, hxs0, hm0, hcell0⟩ := open_recs Try.underlying22 Try.underlying45 (by kernel_rfl) rfl rfl (by kernel_rfl) (by kernel_rfl) Try.underlying3 Try.underlying9 h0
  have y0 : len0 ≤ 140737488351232 := by
    rcases hd0 with ⟨_, h⟩ | ⟨elems, rest, rfl, h⟩
    · omega
    · have z := sized_slice hsz (j := 0) (t := 22) rfl rfl Try.underlying22
      have hb : Try.prog.bytesOf 45 = 24 := by kernel_rfl
      rw [hb] at z
      have hr : reachBytes = 140737488351232 := rfl
      rw [hr] at z
      omega
  have hC0 := C45_of hx0 hm0 hcell0
  have hl0 : (xs0.map fun q => (⟨q.1, q.2⟩ : PA.S45)).length = len0 := by rw [List.length_map, hx0]
  rw [← hl0] at y0 hc0 ⊢
  have hlen0 := hl0
  clear hl0
  generalize hg0 : (xs0.map fun q => (⟨q.1, q.2⟩ : PA.S45)) = l0 at hC0 y0 hc0 hlen0 ⊢
  obtain ⟨s1, rfl, rfl, rfl, z1⟩ := open_string Try.underlying9 (hval 1 9 v1 rfl rfl) h1
  have y1 : s1.size ≤ 140737488351232 := by have z := sized_string hsz (j := 1) (t := 9) rfl rfl; have hr : reachBytes = 140737488351232 := rfl; rw [hr] at z; have e := Go.Lib.size_eq s1; omega
  clear hA0 hval0 hsz0 hsz
  refine (PA.shelfMore_calls a0 cap0 l0 s1 W hC0 hc0 y0 y1).mono fun e W' ⟨he, bel⟩ => ?_
  subst he
  rw [hlen0]
  exact ⟨_, rfl, _, _, _, [], _, [], hW', trodAll_mk1 (shut_bool Try.underlying4 _), (trodAll_cons_mk (Below.trod laidOut (by kernel_rfl) (of_decide_eq_true (by kernel_rfl)) k0 bel lt0) (trodAll_cons_mk (shut_string Try.underlying9 z1) trodAll_mk0)), rfl, bel.frame _, fun h => by cases h⟩
theorem over : Rows.shelfMoreRow.holds Try.pinned (OpenSpec.ofChange Rows.shelfMoreSpec) :=
  OpenClaim.holds_of_wide 8 Try.f8 rfl rfl rfl rfl rfl rfl rfl ⟨rfl, rfl, rfl, rfl, rfl⟩ rfl rfl rfl rfl rfl (by kernel_rfl) Try.func8 (by kernel_rfl)
    (of_decide_eq_true (by kernel_rfl)) (by unfold Func.isWrapper; first | (rw [if_pos (by decide +kernel)]; kernel_rfl) | (rw [if_neg (by decide +kernel)]; exact ⟨rfl, rfl⟩))
    (fun os started H enc _ => lifted os started H enc)
theorem proved : Rows.ShelfMoreSaid := over
#print axioms proved
end Go.Proofs.Ytjnhbalclimmnaa.shelfMore
namespace Go.Proofs.Ytjnhbalclimmnaa
/-- The row, under a short name, for the claim. -/
theorem shelfMore_holds : Rows.ShelfMoreSaid := shelfMore.proved
end Go.Proofs.Ytjnhbalclimmnaa
