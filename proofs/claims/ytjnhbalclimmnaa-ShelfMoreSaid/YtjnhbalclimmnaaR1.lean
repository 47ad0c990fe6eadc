/- Arguments that are slices of records (a whole number, a string): opened to lists; their lengths' bounds. -/
import Derived.Test.YtjnhbalclimmnaaPAx0
import Derived.Deep.SlicePairs
import Derived.ChangeArms
import Derived.SizedLaws
set_option linter.unusedSimpArgs false
set_option linter.unusedVariables false
namespace Go.Proofs.Ytjnhbalclimmnaa.R
open Go Go.RowKit Go.ChangeShapes Go.WideShapes Go.Deep Go.Proofs.YtjnhbalclimmnaaW.PrintWords

def intOfV : Value → Int
  | .int _ n => n
  | _ => 0
def strOfV : Value → ByteArray
  | .string s => s
  | _ => ByteArray.empty
theorem open_recs {H : Type} {enc : TypeId × Value → H} {w : World} {spare : Nat → Bool} {held : Bool} {t e : TypeId} {f0 f1 : Field} {A : Option Addr} {len cap : Nat} {d : DataW H} {p : List MemPlace}
    (ht : Try.prog.underlying t = some (.slice e)) (he : Try.prog.underlying e = some (.struct #[f0, f1])) (ce : Try.prog.cellsOf e = 2) (o0 : f0.offset = 0) (o1 : f1.offset = 1) (c0 : Try.prog.cellsOf f0.type = 1) (c1 : Try.prog.cellsOf f1.type = 1)
    (u0 : Try.prog.underlying f0.type = some (.int .i64)) (u1 : Try.prog.underlying f1.type = some .string) (h : DataW.Trod enc Try.prog w 0 spare held t (.slice A len cap) d p) :
    len ≤ cap ∧ (d = .nil ∧ len = 0 ∨ ∃ elems rest, d = .slice elems rest ∧ elems.length = len) ∧
      ∃ xs : List (Int × ByteArray), xs.length = len ∧ (∀ q ∈ xs, (Lit.int .i64 q.1).wf = true ∧ q.2.size ≤ maxLen) ∧ len ≤ maxLen ∧
        (0 < len → ∃ ad, A = some ad ∧ ∀ (j : Nat) (q : Int × ByteArray), xs[j]? = some q → w.cell? (ad.add (j * 2)) = some (.int .i64 q.1) ∧ w.cell? (ad.add (j * 2 + 1)) = some (.string q.2)) := by
  obtain ⟨fuel, hf⟩ := h
  rcases open_slice_pairs ht he ce o0 o1 c0 c1 hf with ⟨hcs, hx⟩ | ⟨a, len', cap', m, n, V0, V1, D0, D1, P0, P1, hcs, hb, hl, hm, hmm, hx, hi⟩
  · simp [Value.cells] at hcs
    obtain ⟨rfl, rfl, rfl⟩ := hcs
    injection hx with hx _
    exact ⟨Nat.le_refl _, .inl ⟨hx, rfl⟩, [], rfl, (fun _ h => by cases h), Nat.zero_le _, fun h => absurd h (Nat.lt_irrefl _)⟩
  · simp [Value.cells] at hcs
    obtain ⟨rfl, rfl, rfl⟩ := hcs
    injection hx with hx _
    have hlm : len ≤ m := by rw [hmm]; split <;> omega
    have hV : ∀ i, i < len → w.cell? (a.add (i * 2)) = some (.int .i64 (intOfV (V0 i))) ∧ w.cell? (a.add (i * 2 + 1)) = some (.string (strOfV (V1 i))) ∧ (Lit.int .i64 (intOfV (V0 i))).wf = true ∧ (strOfV (V1 i)).size ≤ maxLen := by
      intro i hil
      obtain ⟨h0, h1, t0, t1⟩ := hi i (by omega)
      obtain ⟨n0, e0, _, w0⟩ := DataW.trod_int u0 t0
      obtain ⟨s1, e1, _, w1⟩ := DataW.trod_string u1 t1
      injection e0 with e0
      injection e1 with e1
      rw [h0, h1, e0, e1]
      exact ⟨rfl, rfl, w0, w1⟩
    refine ⟨hl, .inr ⟨_, _, hx, by simp⟩, (List.range len).map fun i => (intOfV (V0 i), strOfV (V1 i)), by simp, ?_, by omega, fun _ => ⟨a, rfl, fun j q hj => ?_⟩⟩
    · intro q hq
      simp only [List.mem_map, List.mem_range] at hq
      obtain ⟨i, hil, rfl⟩ := hq
      exact ⟨(hV i hil).2.2.1, (hV i hil).2.2.2⟩
    · have hjl : j < len := by
        have := (List.getElem?_eq_some_iff.1 hj).1
        simpa using this
      rw [List.getElem?_map, List.getElem?_range hjl] at hj
      injection hj with hj
      rw [← hj]
      exact ⟨(hV j hjl).1, (hV j hjl).2.1⟩
theorem C45_of {w : World} {A : Option Addr} {len : Nat} {xs : List (Int × ByteArray)} (hx : xs.length = len) (hm : len ≤ maxLen)
    (h : 0 < len → ∃ ad, A = some ad ∧ ∀ (j : Nat) (q : Int × ByteArray), xs[j]? = some q → w.cell? (ad.add (j * 2)) = some (.int .i64 q.1) ∧ w.cell? (ad.add (j * 2 + 1)) = some (.string q.2)) :
    Kd.C PA.k45 w A (xs.map fun q => (⟨q.1, q.2⟩ : PA.S45)).length (xs.map fun q => (⟨q.1, q.2⟩ : PA.S45)) := by
  refine ⟨rfl, by rw [List.length_map, hx]; exact hm, fun hp => ?_⟩
  obtain ⟨ad, rfl, hc⟩ := h (by rw [List.length_map, hx] at hp; exact hp)
  refine ⟨ad, rfl, fun j x hj => ?_⟩
  rw [List.getElem?_map] at hj
  obtain ⟨q, hq, rfl⟩ := Option.map_eq_some_iff.1 hj
  obtain ⟨h0, h1⟩ := hc j q hq
  refine ⟨[.int .i64 q.1, .string q.2], rfl, PA.k45_mk _ _, fun i u hu => ?_⟩
  match i with
  | 0 => injection hu with hu; rw [← hu]; exact h0
  | 1 => injection hu with hu; rw [← hu]; exact h1
  | i + 2 => cases hu
theorem C28_of {w : World} {A : Option Addr} {len : Nat} {xs : List (Int × ByteArray)} (hx : xs.length = len) (hm : len ≤ maxLen)
    (h : 0 < len → ∃ ad, A = some ad ∧ ∀ (j : Nat) (q : Int × ByteArray), xs[j]? = some q → w.cell? (ad.add (j * 2)) = some (.int .i64 q.1) ∧ w.cell? (ad.add (j * 2 + 1)) = some (.string q.2)) :
    Kd.C PA.k28 w A (xs.map fun q => (⟨q.1, q.2⟩ : PA.S28)).length (xs.map fun q => (⟨q.1, q.2⟩ : PA.S28)) := by
  refine ⟨rfl, by rw [List.length_map, hx]; exact hm, fun hp => ?_⟩
  obtain ⟨ad, rfl, hc⟩ := h (by rw [List.length_map, hx] at hp; exact hp)
  refine ⟨ad, rfl, fun j x hj => ?_⟩
  rw [List.getElem?_map] at hj
  obtain ⟨q, hq, rfl⟩ := Option.map_eq_some_iff.1 hj
  obtain ⟨h0, h1⟩ := hc j q hq
  refine ⟨[.int .i64 q.1, .string q.2], rfl, PA.k28_mk _ _, fun i u hu => ?_⟩
  match i with
  | 0 => injection hu with hu; rw [← hu]; exact h0
  | 1 => injection hu with hu; rw [← hu]; exact h1
  | i + 2 => cases hu
end Go.Proofs.Ytjnhbalclimmnaa.R
