/- Contracts of sheet.full and the reference's fill, walked by hand. -/
import Derived.Test.YtjnhbalclimmnaaA1
import Derived.Lib.Hide
import Derived.Test.YtjnhbalclimmnaaH0
import Derived.Test.YtjnhbalclimmnaaPAx4
namespace Go.Proofs.Ytjnhbalclimmnaa.PA
open Go.RowKit Go.Proofs.YtjnhbalclimmnaaW.PrintWords H L

def sheet_full.f (a0 : ByteArray) : Option (ByteArray × Bool) := some (pageRes (fullPage a0))

set_option maxHeartbeats 400000 in
set_option maxRecDepth 100000 in
theorem sheet_full.calls (a0 : ByteArray) (r1 : ByteArray) (r2 : Bool) (w : World) (h : sheet_full.f a0 = some (r1, r2)) :
    Calls Try.prog 60 #[.string a0] w fun e w' => e = .returned (.tuple #[.string r1, .bool r2]) ∧ Below w.heap.size w w' := by
  by_cases hs : a0.size ≤ 128
  · have h1 : decide (128 < a0.size) = false := by simp; omega
    obtain ⟨rfl, rfl⟩ : r1 = a0 ++ zerosB (128 - a0.size) ∧ r2 = true := by
      simp [sheet_full.f, fullPage, pageRes, hs] at h; exact ⟨h.1.symm, h.2⟩
    clear h
    have hc : (128 - (a0.size : Int)) = ((128 - a0.size : Nat) : Int) := by omega
    have hR := repeatS ⟨#[0]⟩ (128 - a0.size) w (by omega) (by show 1 * (128 - a0.size) ≤ 140737488355328; omega)
    rw [← hc, repeat_zero] at hR
    have HR := Lib.hid hR
    clear hR hc
    go_enter Try.func60, Try.ntmps60
    go_wp2_with fail
    refine (HR.out).mono ?_
    rintro e w1 ⟨rfl, hb⟩
    have hz := zerosB_size (128 - a0.size)
    have hz2 : a0.size + (zerosB (128 - a0.size)).size ≤ 9223372036854775807 := by omega
    clear hz
    go_wp2
    go_ret2
    exact ⟨rfl, hb⟩
  · have h1 : decide (128 < a0.size) = true := by simp; omega
    obtain ⟨rfl, rfl⟩ : r1 = ⟨#[]⟩ ∧ r2 = false := by
      simp [sheet_full.f, fullPage, pageRes, hs] at h; exact ⟨h.1.symm, h.2⟩
    clear h
    go_enter Try.func60, Try.ntmps60
    go_wp2
    go_ret2
    exact ⟨rfl, Below.refl _ _⟩

/-- The reference's fill, of what has room in a page. -/
def maquetteref13_fill.f (a0 : ByteArray) : Option ByteArray := if a0.size ≤ 128 then some (a0 ++ zerosB (128 - a0.size)) else none
theorem zeros_f (n : Int) (h0 : 0 ≤ n) (h : n ≤ 200) : maquetteref13_Zeros.f n = some (zerosB n.toNat) := by
  have e : mx n 0 = n := by unfold mx; omega
  have e2 : strOfNums (List.replicate n.toNat 0) = zerosB n.toNat := by simp [strOfNums, zerosB]
  unfold maquetteref13_Zeros.f
  rw [e, if_pos h0, if_pos (by omega), e2]
set_option maxHeartbeats 400000 in
set_option maxRecDepth 100000 in
theorem maquetteref13_fill.calls (a0 : ByteArray) (r : ByteArray) (w : World) (h : maquetteref13_fill.f a0 = some r) :
    Calls Try.prog 64 #[.string a0] w fun e w' => e = .returned (.string r) ∧ Below w.heap.size w w' := by
  by_cases hs : a0.size ≤ 128
  · obtain rfl : r = a0 ++ zerosB (128 - a0.size) := by simp [maquetteref13_fill.f, hs] at h; exact h.symm
    clear h
    have hR := maquetteref13_Zeros.calls (128 - (a0.size : Int)) _ w (zeros_f _ (by omega) (by omega))
    rw [show (128 - (a0.size : Int)).toNat = 128 - a0.size from by omega] at hR
    have HR := Lib.hid hR
    clear hR
    go_enter Try.func64, Try.ntmps64
    go_wp2_with fail
    refine (HR.out).mono ?_
    rintro e w1 ⟨rfl, hb⟩
    have hz := zerosB_size (128 - a0.size)
    have hz2 : a0.size + (zerosB (128 - a0.size)).size ≤ 9223372036854775807 := by omega
    clear hz
    go_wp2
    go_ret
    exact ⟨rfl, hb⟩
  · simp [maquetteref13_fill.f, hs] at h
end Go.Proofs.Ytjnhbalclimmnaa.PA
