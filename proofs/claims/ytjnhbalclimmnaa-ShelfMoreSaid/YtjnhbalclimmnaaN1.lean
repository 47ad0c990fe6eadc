/- Plain laws of what shelf.Plan tells: puts; the same records over their own pages. No walk here. -/
import Derived.Test.YtjnhbalclimmnaaH7
set_option linter.unusedSimpArgs false
set_option linter.unusedVariables false
namespace Go.Proofs.Ytjnhbalclimmnaa.PA
open Go Go.RowKit Go.Proofs.YtjnhbalclimmnaaW.PrintWords Go.Proofs.YtjnhbalclimmnaaW.PrintMore H L

/-- the first byte -/
def hd (s : ByteArray) : UInt8 := s.data.toList.headD 0
theorem fullPage_hd {x : UInt8} {l : List UInt8} {r : ByteArray} (h : fullPage ⟨(x :: l).toArray⟩ = some r) : hd r = x := by
  unfold fullPage at h
  split at h
  · injection h with h
    rw [← h]
    simp [hd, ByteArray.data_append]
  · cases h
theorem leafB_hd {l : List S61} {r : ByteArray} (h : leafB l = some r) : hd r = 76 := by
  unfold leafB at h
  split at h
  · cases hc : cellsB (-1) l with
    | none => rw [hc] at h; cases h
    | some t => rw [hc] at h; exact fullPage_hd h
  · cases h
theorem indexB_hd {l : List S76} {r : ByteArray} (h : indexB l = some r) : hd r = 73 := by
  unfold indexB at h
  split at h
  · cases hc : slotsB (-1) l with
    | none => rw [hc] at h; cases h
    | some t => rw [hc] at h; exact fullPage_hd h
  · cases h
theorem chainB_hd {next : Int} {b r : ByteArray} (h : chainB next b = some r) : hd r = 67 := by
  unfold chainB at h
  split at h
  · exact fullPage_hd h
  · cases h
theorem putP_err {p : PS} (h : p.e ≠ 0) (b : ByteArray) (is : Bool) : putP p b is = (p, 0) := by unfold putP; rw [if_neg h]
theorem putP_false {p : PS} (h : p.e = 0) (b : ByteArray) : putP p b false = ({ p with e := 9 }, 0) := by unfold putP; rw [if_pos h]; rfl
theorem putP_known {p : PS} (h : p.e = 0) {b : ByteArray} {n : Int} (hk : p.known b = some n) : putP p b true = (p, n) := by unfold putP; rw [if_pos h, if_pos rfl, hk]
theorem putP_full {p : PS} (h : p.e = 0) {b : ByteArray} (hk : p.known b = none) (hf : p.free = []) : putP p b true = ({ p with e := 8 }, 0) := by unfold putP; rw [if_pos h, if_pos rfl, hk, hf]
open Classical in
theorem putP_new {p : PS} (h : p.e = 0) {b : ByteArray} (hk : p.known b = none) {n : Int} {r : List Int} (hf : p.free = n :: r) :
    putP p b true = ({ known := fun s => if s = b then some n else p.known s, free := r, out := p.out ++ [⟨n, b⟩], e := 0 }, n) := by unfold putP; rw [if_pos h, if_pos rfl, hk, hf]
/-- What a put that is told OK was. -/
theorem putP_ok {p : PS} {b : ByteArray} {is : Bool} (h : (putP p b is).1.e = 0) : p.e = 0 ∧ is = true ∧ (putP p b is).1.known b = some (putP p b is).2 ∧ ∀ s n, p.known s = some n → (putP p b is).1.known s = some n := by
  by_cases he : p.e = 0
  · cases is with
    | false => rw [putP_false he] at h; cases h
    | true =>
      refine ⟨he, rfl, ?_⟩
      cases hk : p.known b with
      | some n => rw [putP_known he hk]; exact ⟨hk, fun _ _ h => h⟩
      | none =>
        cases hf : p.free with
        | nil => rw [putP_full he hk hf] at h; cases h
        | cons n r =>
          rw [putP_new he hk hf]
          refine ⟨by simp, fun s m hs => ?_⟩
          by_cases e : s = b
          · subst e; rw [hk] at hs; cases hs
          · simp [e, hs]
  · rw [putP_err he] at h; exact absurd h he
/-- .. all is known that was written. -/
def Out (k0 : ByteArray → Option Int) (p : PS) : Prop := p.known = knownGo k0 p.out
theorem Out.put {k0 : ByteArray → Option Int} {p : PS} (h : Out k0 p) (b : ByteArray) (is : Bool) : Out k0 (putP p b is).1 := by
  by_cases he : p.e = 0
  · cases is with
    | false => rw [putP_false he]; exact h
    | true =>
      cases hk : p.known b with
      | some n => rw [putP_known he hk]; exact h
      | none =>
        cases hf : p.free with
        | nil => rw [putP_full he hk hf]; exact h
        | cons n r =>
          rw [putP_new he hk hf]
          unfold Out at h ⊢
          rw [knownGo_snoc, ← h, if_neg (by rw [hk]; simp)]
  · rw [putP_err he]; exact h
/-- Everything that holds at puts alone. -/
theorem chainP_ind {P : PS → Prop} (hP : ∀ p b is, P p → P (putP p b is).1) {p : PS} (h : P p) : ∀ l, P (chainP p l).1
  | [] => h
  | b :: l => by rw [chainP_cons]; exact hP _ _ _ (chainP_ind hP h l)
theorem chainsGo_ind {P : PS → Prop} (hP : ∀ p b is, P p → P (putP p b is).1) : ∀ (l : List S45) {p : PS}, P p → P (chainsGo p l).1
  | [], _, h => h
  | r :: l, p, h => by
    unfold chainsGo
    split
    · exact chainsGo_ind hP l (chainP_ind hP h _)
    · exact chainsGo_ind hP l h
theorem slotsGo_ind {P : PS → Prop} (hP : ∀ p b is, P p → P (putP p b is).1) : ∀ (l : List (List S61)) {p : PS}, P p → P (slotsGo p l).1
  | [], _, h => h
  | c :: l, p, h => by
    unfold slotsGo
    split
    · exact slotsGo_ind hP l (hP _ _ _ h)
    · exact slotsGo_ind hP l h

/-- K is all that will be known. -/
def Sub (p : PS) (K : ByteArray → Option Int) : Prop := ∀ s n, p.known s = some n → K s = some n
theorem put_sim {p : PS} {K : ByteArray → Option Int} {b : ByteArray} {is : Bool} (h : (putP p b is).1.e = 0) (hs : Sub (putP p b is).1 K) : p.e = 0 ∧ Sub p K ∧ putP ⟨K, [], [], 0⟩ b is = (⟨K, [], [], 0⟩, (putP p b is).2) := by
  obtain ⟨h1, h2, h3, h4⟩ := putP_ok h
  subst h2
  exact ⟨h1, fun s n hk => hs s n (h4 s n hk), putP_known rfl (hs _ _ h3)⟩
theorem chain_sim {K : ByteArray → Option Int} {p : PS} : ∀ l : List ByteArray, (chainP p l).1.e = 0 → Sub (chainP p l).1 K → p.e = 0 ∧ Sub p K ∧ chainP ⟨K, [], [], 0⟩ l = (⟨K, [], [], 0⟩, (chainP p l).2)
  | [], h, hs => ⟨h, hs, rfl⟩
  | b :: l, h, hs => by
    rw [chainP_cons] at h hs ⊢
    obtain ⟨h1, h2, h3⟩ := put_sim h hs
    obtain ⟨h4, h5, h6⟩ := chain_sim l h1 h2
    refine ⟨h4, h5, ?_⟩
    rw [chainP_cons, h6]
    exact h3
theorem chains_sim {K : ByteArray → Option Int} : ∀ (l : List S45) {p : PS}, (chainsGo p l).1.e = 0 → Sub (chainsGo p l).1 K → p.e = 0 ∧ Sub p K ∧ chainsGo ⟨K, [], [], 0⟩ l = (⟨K, [], [], 0⟩, (chainsGo p l).2)
  | [], p, h, hs => ⟨h, hs, rfl⟩
  | r :: l, p, h, hs => by
    unfold chainsGo at h hs ⊢
    by_cases hb : 24 < r.f1.size
    · simp only [hb, if_true] at h hs ⊢
      obtain ⟨h1, h2, h3⟩ := chains_sim l h hs
      obtain ⟨h4, h5, h6⟩ := chain_sim _ h1 h2
      refine ⟨h4, h5, ?_⟩
      rw [h6]
      simp only
      rw [h3]
    · simp only [hb, if_false] at h hs ⊢
      obtain ⟨h1, h2, h3⟩ := chains_sim l h hs
      exact ⟨h1, h2, by rw [h3]⟩
theorem slots_sim {K : ByteArray → Option Int} : ∀ (l : List (List S61)) {p : PS}, (slotsGo p l).1.e = 0 → Sub (slotsGo p l).1 K → p.e = 0 ∧ Sub p K ∧ slotsGo ⟨K, [], [], 0⟩ l = (⟨K, [], [], 0⟩, (slotsGo p l).2)
  | [], p, h, hs => ⟨h, hs, rfl⟩
  | c :: l, p, h, hs => by
    unfold slotsGo at h hs ⊢
    by_cases he : p.e = 0
    · simp only [he, if_true] at h hs ⊢
      obtain ⟨h1, h2, h3⟩ := slots_sim l h hs
      obtain ⟨h4, h5, h6⟩ := put_sim h1 h2
      refine ⟨trivial, h5, ?_⟩
      rw [h6]
      simp only
      rw [h3]
    · simp only [he, if_false] at h hs
      exact absurd (slots_sim l h hs).1 he
/-- The same records over their own pages write nothing. -/
theorem plan_again {p : PS} {l : List S45} {o : List S28} {rt : Int} (h : planGo p l = (o, rt, 0)) (hp : Out (fun _ => none) p) (ho : o ≠ [] ∨ True) :
    planGo ⟨knownGo (fun _ => none) o, [], [], 0⟩ l = ([], rt, 0) := by
  have hput : ∀ q b is, Out (fun _ => none) q → Out (fun _ => none) (putP q b is).1 := fun q b is hq => hq.put b is
  unfold planGo at h
  by_cases he : (putP (slotsGo (chainsGo p l).1 (leavesP (chainsGo p l).2)).1 (pageRes (indexB (slotsGo (chainsGo p l).1 (leavesP (chainsGo p l).2)).2)).1 (pageRes (indexB (slotsGo (chainsGo p l).1 (leavesP (chainsGo p l).2)).2)).2).1.e = 0
  · simp only [he, if_true] at h
    injection h with h1 h2
    injection h2 with h2 _
    have hO := hput _ (pageRes (indexB (slotsGo (chainsGo p l).1 (leavesP (chainsGo p l).2)).2)).1 (pageRes (indexB (slotsGo (chainsGo p l).1 (leavesP (chainsGo p l).2)).2)).2 (slotsGo_ind hput (leavesP (chainsGo p l).2) (chainsGo_ind hput l hp))
    have hK : Sub (putP (slotsGo (chainsGo p l).1 (leavesP (chainsGo p l).2)).1 (pageRes (indexB (slotsGo (chainsGo p l).1 (leavesP (chainsGo p l).2)).2)).1 (pageRes (indexB (slotsGo (chainsGo p l).1 (leavesP (chainsGo p l).2)).2)).2).1 (knownGo (fun _ => none) o) := fun s n hs => by
      unfold Out at hO
      rw [hO, h1] at hs
      exact hs
    obtain ⟨a1, a2, a3⟩ := put_sim he hK
    obtain ⟨b1, b2, b3⟩ := slots_sim _ a1 a2
    obtain ⟨c1, c2, c3⟩ := chains_sim _ b1 b2
    unfold planGo
    rw [c3]
    simp only
    rw [b3]
    simp only
    rw [a3]
    simp only [if_true]
    rw [h2]
  · simp only [he, if_false] at h
    injection h with h1 h2
    injection h2 with h2 h3
    exact absurd h3 he
end Go.Proofs.Ytjnhbalclimmnaa.PA
