/- Plain laws: all pages; what Need tells; the first call whose answer is fixed. -/
import Derived.Test.YtjnhbalclimmnaaN1
import Derived.Test.YtjnhbalclimmnaaPAx10
set_option linter.unusedSimpArgs false
set_option linter.unusedVariables false
namespace Go.Proofs.Ytjnhbalclimmnaa.PA
open Go Go.RowKit Go.Proofs.YtjnhbalclimmnaaW.PrintWords Go.Proofs.YtjnhbalclimmnaaW.PrintMore H L

/-- pages from 2 on -/
def upTo (n : Nat) : List Int := (List.range n).map fun (i : Nat) => (i : Int) + 2
def allP : List Int := upTo 198
theorem upTo_succ (n : Nat) : upTo (n + 1) = upTo n ++ [(n : Int) + 2] := by simp [upTo, List.range_succ]
theorem upTo_length (n : Nat) : (upTo n).length = n := by simp [upTo]
theorem upTo_page {n : Nat} (h : n ≤ 198) : ∀ x ∈ upTo n, pageOk x = true := by
  intro x hx
  simp [upTo] at hx
  obtain ⟨i, hi, rfl⟩ := hx
  simp [pageOk]
  omega
theorem need_loop (l : List S45) (hl : l.length ≤ 1000000) : ∀ (d i : Nat), i + d = 198 → ∀ k, d < k → shelf_Need.l0 k l (upTo i) ((i : Int) + 2) = some ((planP l [] allP).1.length : Int) := by
  intro d
  induction d with
  | zero =>
    intro i hi k hk
    obtain ⟨k, rfl⟩ : ∃ m, k = m + 1 := ⟨k - 1, by omega⟩
    obtain rfl : i = 198 := by omega
    simp only [shelf_Need.l0]
    rw [if_neg (by omega)]
    unfold shelf_Plan.f
    rw [if_pos ⟨hl, by simp, by rw [upTo_length]; omega, by simp⟩, Option.bind_some]
    rfl
  | succ d ih =>
    intro i hi k hk
    obtain ⟨k, rfl⟩ : ∃ m, k = m + 1 := ⟨k - 1, by omega⟩
    simp only [shelf_Need.l0]
    have hw : wrap64 ((i : Int) + 2 + 1) = ((i + 1 : Nat) : Int) + 2 := by unfold wrap64; omega
    rw [if_pos (by omega), if_pos (by rw [upTo_length]; omega), ← upTo_succ, hw, ih (i + 1) (by omega) k (by omega)]
theorem need_f (l : List S45) (hl : l.length ≤ 1000000) : ∀ k, 198 < k → shelf_Need.f k l = some ((planP l [] allP).1.length : Int) := by
  intro k hk
  exact need_loop l hl 198 0 (by omega) k hk
theorem may_nil (l : List Int) : mayB [] l = ((List.range l.length).all (fun i => !((l.take i).contains (l.getD i 0))) && l.all pageOk) := by
  simp [mayB]
theorem may_upTo {n : Nat} (h : n ≤ 198) : mayB [] (upTo n) = true := by
  rw [may_nil, Bool.and_eq_true]
  refine ⟨?_, List.all_eq_true.2 (upTo_page h)⟩
  rw [List.all_eq_true]
  intro i hi
  rw [upTo_length, List.mem_range] at hi
  have hg : (upTo n).getD i 0 = (i : Int) + 2 := by
    rw [List.getD_eq_getElem?_getD]
    simp [upTo, List.getElem?_eq_getElem, hi]
  rw [hg]
  simp only [Bool.not_eq_true', List.contains_eq_mem, decide_eq_false_iff_not]
  intro hm
  obtain ⟨j, hj, e⟩ := List.getElem_of_mem hm
  rw [List.getElem_take] at e
  simp [upTo] at e
  rw [List.length_take] at hj
  omega
/-- One record by itself has a leaf. -/
theorem leaves_one {c : S61} (h : (leafB [c]).isSome = true) : leavesP [c] = [[c]] := by
  unfold leavesP leavesGo
  rw [List.nil_append, if_pos h]
  simp [leavesGo]
theorem mem_cons {c : S61} : (rd_T61 [c] 0) = c := rfl
theorem index_one {k n : Int} (hk : keyOk k (-1) = true) (hn : pageOk n = true) : (indexB [⟨k, n⟩]).isSome = true := by
  unfold indexB
  rw [if_pos (by simp)]
  simp only [slotsB, hk, hn, Bool.and_self, if_true, Option.map_some, Option.bind_some]
  unfold fullPage
  rw [if_pos]
  · rfl
  · simp [slotB, ByteArray.size, be_length]
/-- One record: a leaf, an index, behind its chain. -/
theorem plan_one {p : PS} {r : S45} (hr : r.f1.size ≤ 900 ∧ -1 < r.f0 ∧ r.f0 ≤ 2147483647) {q : PS} {pg : Int} (hq : chainsGo p [r] = (q, [cellP r pg])) (he : q.e = 0) (hp : 24 < r.f1.size → pageOk pg = true)
    (hk : ∀ s, hd s = 76 ∨ hd s = 73 → q.known s = none) {n1 n2 : Int} {rest : List Int} (hf : q.free = n1 :: n2 :: rest) (hn1 : pageOk n1 = true) :
    ∃ b1 b2, planGo p [r] = (q.out ++ [⟨n1, b1⟩, ⟨n2, b2⟩], n2, 0) := by
  have hfit := fits_one hr hp
  obtain ⟨b1, hb1⟩ := Option.isSome_iff_exists.1 hfit
  have hkey : (cellP r pg).f0 = r.f0 := by unfold cellP; split <;> rfl
  have hio := index_one (k := (cellP r pg).f0) (n := n1) (by rw [hkey]; simp [keyOk, hr.2.1, hr.2.2]) hn1
  obtain ⟨b2, hb2⟩ := Option.isSome_iff_exists.1 hio
  have h1 := leafB_hd hb1
  have h2 := indexB_hd hb2
  have hne : b2 ≠ b1 := by
    rintro rfl
    rw [h1] at h2
    exact absurd h2 (by decide)
  refine ⟨b1, b2, ?_⟩
  unfold planGo
  rw [hq]
  simp only [leaves_one hfit, slotsGo, he, if_true, hb1, pageRes, mem_cons]
  rw [putP_new he (hk b1 (.inl h1)) hf]
  simp only [hb2, pageRes]
  rw [putP_new rfl (by simp [hne, hk b2 (.inr h2)]) rfl]
  simp
theorem alive_f : ∀ k, 198 < k → maquettelaw16_alive.f k = some true := by
  intro k hk
  have hr : ((⟨1, (⟨#[97, 98, 99]⟩ : ByteArray)⟩ : S45)).f1.size ≤ 900 ∧ -1 < ((⟨1, (⟨#[97, 98, 99]⟩ : ByteArray)⟩ : S45)).f0 ∧ ((⟨1, (⟨#[97, 98, 99]⟩ : ByteArray)⟩ : S45)).f0 ≤ 2147483647 := by decide
  have hc : ∀ p, chainsGo p [(⟨1, (⟨#[97, 98, 99]⟩ : ByteArray)⟩ : S45)] = (p, [cellP ⟨1, (⟨#[97, 98, 99]⟩ : ByteArray)⟩ 2]) := by
    intro p
    unfold chainsGo
    rw [if_neg (by decide)]
    rfl
  have hfit := fits_one (page := 2) hr (fun h => absurd h (by decide))
  have hrg : rightGo (-1) [(⟨1, (⟨#[97, 98, 99]⟩ : ByteArray)⟩ : S45)] = true := by decide
  have hlv : (leavesP ([(⟨1, (⟨#[97, 98, 99]⟩ : ByteArray)⟩ : S45)].map (cellP · 2))).length = 1 := by
    rw [List.map_cons, List.map_nil, leaves_one hfit]; rfl
  have hplan : ∀ (free : List Int) (n1 n2 : Int) (rest : List Int), free = n1 :: n2 :: rest → mayB [] free = true → ∃ b1 b2, planP [(⟨1, (⟨#[97, 98, 99]⟩ : ByteArray)⟩ : S45)] [] free = ([⟨n1, b1⟩, ⟨n2, b2⟩], n2, 0) := by
    intro free n1 n2 rest hf hm
    unfold planP
    rw [hrg, hm, Bool.and_self, if_pos rfl, hlv, if_neg (by decide)]
    exact plan_one hr (hc _) rfl (fun h => absurd h (by decide)) (fun s _ => rfl) hf ((may_have hm).2 n1 (by rw [hf]; simp))
  obtain ⟨b1, b2, h1⟩ := hplan [4, 5, 6] 4 5 [6] rfl (by decide)
  obtain ⟨d1, d2, h2⟩ := hplan allP 2 3 ((List.range 196).map fun (i : Nat) => (i : Int) + 4) (by decide +kernel) (may_upTo (by omega))
  unfold maquettelaw16_alive.f shelf_Plan.f
  rw [if_pos (by simp), h1]
  simp [need_f _ _ k hk, h2, rd_T28]
end Go.Proofs.Ytjnhbalclimmnaa.PA
