/- The plain law of ShelfAgain; what is written are pages of 128 bytes. -/
import Derived.Test.YtjnhbalclimmnaaN2
set_option linter.unusedSimpArgs false
set_option linter.unusedVariables false
namespace Go.Proofs.Ytjnhbalclimmnaa.PA
open Go Go.RowKit Go.Proofs.YtjnhbalclimmnaaW.PrintWords Go.Proofs.YtjnhbalclimmnaaW.PrintMore H L

theorem few_loop (l : List S45) (hl : l.length ≤ 140737488351232) : ∀ (d i : Nat) (n : Int), i + d = l.length → ∀ k, d < k → ∃ b, maquettelaw16_Few.l0 k l n (l.length : Int) (i : Int) = some b ∧ (b = true → l.length ≤ 120) := by
  intro d
  induction d with
  | zero =>
    intro i n hi k hk
    obtain ⟨k, rfl⟩ : ∃ m, k = m + 1 := ⟨k - 1, by omega⟩
    simp only [maquettelaw16_Few.l0]
    rw [if_neg (by omega)]
    by_cases h : (l.length : Int) ≤ 120
    · rw [if_pos h]; exact ⟨_, rfl, fun _ => by omega⟩
    · rw [if_neg h]; exact ⟨_, rfl, fun h => by cases h⟩
  | succ d ih =>
    intro i n hi k hk
    obtain ⟨k, rfl⟩ : ∃ m, k = m + 1 := ⟨k - 1, by omega⟩
    simp only [maquettelaw16_Few.l0]
    have hw : wrap64 ((i : Int) + 1) = ((i + 1 : Nat) : Int) := by unfold wrap64; omega
    rw [if_pos (by omega), if_pos (by omega), if_pos (by omega), hw]
    exact ih (i + 1) _ (by omega) k (by omega)
theorem few_f (l : List S45) (hl : l.length ≤ 140737488351232) : ∀ k, l.length < k → ∃ b, maquettelaw16_Few.f k l = some b ∧ (b = true → l.length ≤ 120) := fun k hk => few_loop l hl l.length 0 0 (by omega) k hk

/-- What holds at puts of pages alone. -/
def PagePut (P : PS → Prop) : Prop := ∀ p (o : Option ByteArray), (∀ r, o = some r → r.size = 128) → P p → P (putP p (pageRes o).1 (pageRes o).2).1
theorem chainB_128 {n : Int} {b r : ByteArray} (h : chainB n b = some r) : r.size = 128 := by
  unfold chainB at h
  split at h
  · exact fullPage_size h
  · cases h
theorem leafB_128 {l : List S61} {r : ByteArray} (h : leafB l = some r) : r.size = 128 := by
  unfold leafB at h
  split at h
  · cases hc : cellsB (-1) l with
    | none => rw [hc] at h; cases h
    | some t => rw [hc] at h; exact fullPage_size h
  · cases h
theorem indexB_128 {l : List S76} {r : ByteArray} (h : indexB l = some r) : r.size = 128 := by
  unfold indexB at h
  split at h
  · cases hc : slotsB (-1) l with
    | none => rw [hc] at h; cases h
    | some t => rw [hc] at h; exact fullPage_size h
  · cases h
theorem chainP_pp {P : PS → Prop} (hP : PagePut P) {p : PS} (h : P p) : ∀ l, P (chainP p l).1
  | [] => h
  | b :: l => by rw [chainP_cons]; exact hP _ _ (fun r hr => chainB_128 hr) (chainP_pp hP h l)
theorem chainsGo_pp {P : PS → Prop} (hP : PagePut P) : ∀ (l : List S45) {p : PS}, P p → P (chainsGo p l).1
  | [], _, h => h
  | r :: l, p, h => by
    unfold chainsGo
    split
    · exact chainsGo_pp hP l (chainP_pp hP h _)
    · exact chainsGo_pp hP l h
theorem slotsGo_pp {P : PS → Prop} (hP : PagePut P) : ∀ (l : List (List S61)) {p : PS}, P p → P (slotsGo p l).1
  | [], _, h => h
  | c :: l, p, h => by
    unfold slotsGo
    split
    · exact slotsGo_pp hP l (hP _ _ (fun r hr => leafB_128 hr) h)
    · exact slotsGo_pp hP l h
/-- Whatever Plan tells holds of the state at its end. -/
theorem planGo_pp {P : PS → Prop} (hP : PagePut P) {p : PS} (h : P p) {l : List S45} {o : List S28} {rt e : Int} (hg : planGo p l = (o, rt, e)) : ∃ q, P q ∧ (q.e = 0 ∧ o = q.out ∧ e = 0 ∨ q.e ≠ 0 ∧ o = [] ∧ rt = 0 ∧ e = q.e) := by
  have hQ := hP (slotsGo (chainsGo p l).1 (leavesP (chainsGo p l).2)).1 (indexB (slotsGo (chainsGo p l).1 (leavesP (chainsGo p l).2)).2) (fun r hr => indexB_128 hr) (slotsGo_pp hP _ (chainsGo_pp hP l h))
  unfold planGo at hg
  by_cases he : (putP (slotsGo (chainsGo p l).1 (leavesP (chainsGo p l).2)).1 (pageRes (indexB (slotsGo (chainsGo p l).1 (leavesP (chainsGo p l).2)).2)).1 (pageRes (indexB (slotsGo (chainsGo p l).1 (leavesP (chainsGo p l).2)).2)).2).1.e = 0
  · simp only [he, if_true] at hg
    injection hg with h1 h2
    injection h2 with h2 h3
    exact ⟨_, hQ, .inl ⟨he, h1.symm, h3.symm⟩⟩
  · simp only [he, if_false] at hg
    injection hg with h1 h2
    injection h2 with h2 h3
    exact ⟨_, hQ, .inr ⟨he, h1.symm, h2.symm, h3.symm⟩⟩
/-- Pages of 128 bytes on pages that may be; as many as are taken. -/
def OutOk (N : Nat) (p : PS) : Prop := (∀ x ∈ p.out, pageOk x.f0 = true ∧ x.f1.size = 128) ∧ (∀ n ∈ p.free, pageOk n = true) ∧ p.out.length + p.free.length = N
theorem OutOk.put {N : Nat} : PagePut (OutOk N) := by
  intro p o ho h
  by_cases he : p.e = 0
  · cases o with
    | none => rw [pageRes, putP_false he]; exact h
    | some b =>
      rw [pageRes]
      cases hk : p.known b with
      | some n => rw [putP_known he hk]; exact h
      | none =>
        cases hf : p.free with
        | nil => rw [putP_full he hk hf]; exact h
        | cons n r =>
          rw [putP_new he hk hf]
          obtain ⟨h1, h2, h3⟩ := h
          rw [hf] at h2 h3
          refine ⟨fun x hx => ?_, fun m hm => h2 m (by simp [hm]), by simp at h3 ⊢; omega⟩
          rcases List.mem_append.1 hx with hx | hx
          · exact h1 x hx
          · rw [List.mem_singleton.1 hx]
            exact ⟨h2 n (by simp), ho b rfl⟩
  · rw [putP_err he]; exact h
theorem plan_ok {l : List S45} {h : List S28} {f : List Int} {o : List S28} {rt : Int} (hg : planP l h f = (o, rt, 0)) :
    rightGo (-1) l = true ∧ mayB h f = true ∧ ¬ 21 < (leavesP (l.map (cellP · 2))).length ∧ planGo ⟨knownGo (fun _ => none) h, f, [], 0⟩ l = (o, rt, 0) := by
  unfold planP at hg
  cases hr : rightGo (-1) l with
  | false => rw [hr] at hg; simp at hg
  | true =>
    cases hm : mayB h f with
    | false => rw [hr, hm] at hg; simp at hg
    | true =>
      rw [hr, hm, Bool.and_self, if_pos rfl] at hg
      by_cases h21 : 21 < (leavesP (l.map (cellP · 2))).length
      · rw [if_pos h21] at hg; simp at hg
      · rw [if_neg h21] at hg; exact ⟨rfl, rfl, h21, hg⟩
theorem plan_out {l : List S45} {f : List Int} {o : List S28} {rt : Int} (hg : planP l [] f = (o, rt, 0)) : (∀ x ∈ o, pageOk x.f0 = true ∧ x.f1.size = 128) ∧ o.length ≤ f.length := by
  obtain ⟨_, hm, _, hp⟩ := plan_ok hg
  obtain ⟨q, h1, h2⟩ := planGo_pp (P := OutOk f.length) OutOk.put ⟨fun x hx => (by cases hx), (may_have hm).2, by simp⟩ hp
  rcases h2 with ⟨_, rfl, _⟩ | ⟨h, _, _, h'⟩
  · exact ⟨h1.1, by have := h1.2.2; omega⟩
  · exact absurd h'.symm h
theorem plan_err {l : List S45} {h : List S28} {f : List Int} {o : List S28} {rt e : Int} (hg : planP l h f = (o, rt, e)) (he : e ≠ 0) : o = [] := by
  unfold planP at hg
  split at hg
  · split at hg
    · injection hg with h1 _; exact h1.symm
    · obtain ⟨q, _, h2⟩ := planGo_pp (P := fun _ => True) (fun _ _ _ _ => trivial) trivial hg
      rcases h2 with ⟨_, _, h⟩ | ⟨_, h, _⟩
      · exact absurd h he
      · exact h
  · injection hg with h1 _; exact h1.symm
/-- The same records over their own pages. -/
theorem plan_twice {l : List S45} {f : List Int} {o : List S28} {rt : Int} (hg : planP l [] f = (o, rt, 0)) : planP l o [] = ([], rt, 0) := by
  obtain ⟨hr, hm, h21, hp⟩ := plan_ok hg
  have hm2 : mayB o [] = true := by
    simp [mayB]
    intro x hx
    exact ((plan_out hg).1 x hx).1
  unfold planP
  rw [hr, hm2, Bool.and_self, if_pos rfl, if_neg h21]
  exact plan_again hp rfl (.inr trivial)
theorem again_loop (l : List S45) (hl : l.length ≤ 120) : ∀ (d i : Nat), i + d = 198 → ∀ k, d + 200 < k → maquettelaw16_ShelfAgain.l0 k l (upTo i) ((i : Int) + 2) = some true := by
  intro d
  induction d with
  | zero =>
    intro i hi k hk
    obtain ⟨k, rfl⟩ : ∃ m, k = m + 1 := ⟨k - 1, by omega⟩
    obtain rfl : i = 198 := by omega
    simp only [maquettelaw16_ShelfAgain.l0]
    rw [if_neg (by omega)]
    unfold shelf_Plan.f
    rw [if_pos ⟨by omega, by simp, by rw [upTo_length]; omega, by simp⟩, Option.bind_some]
    rw [need_f l (by omega) k (by omega)]
    show (if (planP l [] allP).2.2 = 0 then _ else _) = _
    obtain ⟨o, rt, e⟩ : ∃ x, x = planP l [] allP := ⟨_, rfl⟩
    obtain ⟨⟨o, rt, e⟩, hpl⟩ : ∃ x, planP l [] allP = x := ⟨_, rfl⟩
    have hall : upTo 198 = allP := rfl
    rw [hall, hpl]
    by_cases he : e = 0
    · subst he
      obtain ⟨ho1, ho2⟩ := plan_out hpl
      have hol : o.length ≤ 1000000 := by have : allP.length = 198 := upTo_length 198; omega
      simp only [if_true]
      rw [if_pos ⟨by omega, hol, by simp, fun x hx => by have := (ho1 x hx).2; omega⟩, Option.bind_some, plan_twice hpl]
      simp
    · simp only [he, if_false]
      rw [plan_err hpl he]
      simp
  | succ d ih =>
    intro i hi k hk
    obtain ⟨k, rfl⟩ : ∃ m, k = m + 1 := ⟨k - 1, by omega⟩
    simp only [maquettelaw16_ShelfAgain.l0]
    have hw : wrap64 ((i : Int) + 2 + 1) = ((i + 1 : Nat) : Int) + 2 := by unfold wrap64; omega
    rw [if_pos (by omega), if_pos (by rw [upTo_length]; omega), ← upTo_succ, hw, ih (i + 1) (by omega) k (by omega)]
theorem shelfAgain_f (l : List S45) (hl : l.length ≤ 140737488351232) : ∃ k, maquettelaw16_ShelfAgain.f k l = some true := by
  obtain ⟨b, hb, hb2⟩ := few_f l hl (l.length + 2000) (by omega)
  refine ⟨l.length + 2000, ?_⟩
  have hj : maquettelaw16_ShelfAgain.j0 (l.length + 2000) l true = some true := by
    show maquettelaw16_ShelfAgain.j0 ((l.length + 1999) + 1) l true = some true
    simp only [maquettelaw16_ShelfAgain.j0]
    rw [alive_f _ (by omega)]
    simp
  unfold maquettelaw16_ShelfAgain.f
  rw [hb, Option.bind_some]
  cases b with
  | false => simpa using hj
  | true =>
    rw [if_pos rfl, alive_f _ (by omega), Option.bind_some]
    show maquettelaw16_ShelfAgain.j0 ((l.length + 1999) + 1) l false = some true
    simp only [maquettelaw16_ShelfAgain.j0]
    have := again_loop l (hb2 rfl) 198 0 (by omega) (l.length + 1999) (by omega)
    simpa [upTo] using this
end Go.Proofs.Ytjnhbalclimmnaa.PA
