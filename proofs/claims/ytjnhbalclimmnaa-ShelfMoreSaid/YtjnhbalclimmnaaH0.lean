/- Plain words of the session: bytes of numbers, pages. No program here. -/
import Derived.Lib.Repeat
import Derived.KernelRfl
namespace Go.Proofs.Ytjnhbalclimmnaa.H

/-- zero bytes -/
def zerosB (n : Nat) : ByteArray := ⟨(List.replicate n (0 : UInt8)).toArray⟩
theorem zerosB_size (n : Nat) : (zerosB n).size = n := by simp [zerosB, ByteArray.size]
theorem zerosB_toList (n : Nat) : (zerosB n).data.toList = List.replicate n 0 := by simp [zerosB]
theorem repeat_zero (n : Nat) : (⟨(Lib.repeatL (⟨#[0]⟩ : ByteArray).data.toList n).toArray⟩ : ByteArray) = zerosB n := by
  have h : ∀ n, Lib.repeatL ([0] : List UInt8) n = List.replicate n 0 := by
    intro n
    induction n with
    | zero => rfl
    | succ n ih => first | (simp [Lib.repeatL, List.replicate_succ, ih]; done) | (simp [Lib.repeatL, ih, List.replicate_succ'])
  simp [zerosB, h]
/-- a page of bytes, if they have room -/
def fullPage (b : ByteArray) : Option ByteArray := if b.size ≤ 128 then some (b ++ zerosB (128 - b.size)) else none
/-- what a page function hands back -/
def pageRes : Option ByteArray → ByteArray × Bool
  | none => (⟨#[]⟩, false)
  | some b => (b, true)
/-- a number in n bytes, the greatest first -/
def be : Nat → Int → List UInt8
  | 0, _ => []
  | n + 1, v => UInt8.ofNat ((v / 256 ^ n) % 256).toNat :: be n v
theorem be_length (n : Nat) (v : Int) : (be n v).length = n := by
  induction n with
  | zero => rfl
  | succ n ih => simp [be, ih]
/-- may there be a page; a key behind another one -/
def pageOk (n : Int) : Bool := decide (2 ≤ n) && decide (n < 200)
def keyOk (k ahead : Int) : Bool := decide (ahead < k) && decide (k ≤ 2147483647)
end Go.Proofs.Ytjnhbalclimmnaa.H
