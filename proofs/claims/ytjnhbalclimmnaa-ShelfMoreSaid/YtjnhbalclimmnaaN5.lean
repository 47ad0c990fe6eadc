/- Plain laws for ShelfErrors: fewer free pages; pages that may not be. -/
import Derived.Test.YtjnhbalclimmnaaN4
set_option linter.unusedSimpArgs false
set_option linter.unusedVariables false
namespace Go.Proofs.Ytjnhbalclimmnaa.PA
open Go Go.RowKit Go.Proofs.YtjnhbalclimmnaaW.PrintWords Go.Proofs.YtjnhbalclimmnaaW.PrintMore H L

theorem chainP_err {p : PS} (h : p.e ≠ 0) : ∀ l, (chainP p l).1 = p
  | [] => rfl
  | b :: l => by rw [chainP_cons, chainP_err h l, putP_err h]
theorem chainsGo_err {p : PS} (h : p.e ≠ 0) : ∀ l, (chainsGo p l).1 = p
  | [] => rfl
  | r :: l => by
    unfold chainsGo
    split
    · rw [chainP_err h]; exact chainsGo_err h l
    · exact chainsGo_err h l
theorem slotsGo_err {p : PS} (h : p.e ≠ 0) : ∀ l, slotsGo p l = (p, [])
  | [] => rfl
  | c :: l => by
    unfold slotsGo
    rw [if_neg h]
    exact slotsGo_err h l
theorem putP_grow (p : PS) (b : ByteArray) (is : Bool) : p.out.length ≤ (putP p b is).1.out.length := by
  by_cases he : p.e = 0
  · cases is with
    | false => rw [putP_false he]; exact Nat.le_refl _
    | true =>
      cases hk : p.known b with
      | some n => rw [putP_known he hk]; exact Nat.le_refl _
      | none =>
        cases hf : p.free with
        | nil => rw [putP_full he hk hf]; exact Nat.le_refl _
        | cons n r => rw [putP_new he hk hf]; simp
  · rw [putP_err he]; exact Nat.le_refl _
/-- p has the pages F, q the first n of them. -/
def Less (F : List Int) (n : Nat) (p q : PS) : Prop :=
  (p.known = q.known ∧ p.out = q.out ∧ p.e = 0 ∧ q.e = 0 ∧ p.out.length ≤ n ∧ p.free = F.drop p.out.length ∧ q.free = (F.take n).drop p.out.length)
def Dead (n : Nat) (p q : PS) : Prop := q.e = 8 ∧ n < p.out.length
theorem Dead.put {n : Nat} {p q : PS} (h : Dead n p q) (b b' : ByteArray) (is is' : Bool) : Dead n (putP p b is).1 (putP q b' is').1 := by
  rw [putP_err (p := q) (by rw [h.1]; decide)]
  exact ⟨h.1, Nat.lt_of_lt_of_le h.2 (putP_grow _ _ _)⟩
theorem less_put {F : List Int} {n : Nat} {p q : PS} (h : Less F n p q) {b : ByteArray} {is : Bool} (he : (putP p b is).1.e = 0) :
    Less F n (putP p b is).1 (putP q b is).1 ∧ (putP p b is).2 = (putP q b is).2 ∨ Dead n (putP p b is).1 (putP q b is).1 := by
  obtain ⟨h1, h2, h3, h4, h5, h6, h7⟩ := h
  obtain ⟨_, his, _, _⟩ := putP_ok he
  subst his
  cases hk : p.known b with
  | some m =>
    left
    rw [putP_known h3 hk, putP_known h4 (by rw [← h1]; exact hk)]
    exact ⟨⟨h1, h2, h3, h4, h5, h6, h7⟩, rfl⟩
  | none =>
    have hkq : q.known b = none := by rw [← h1]; exact hk
    cases hf : p.free with
    | nil => rw [putP_full h3 hk hf] at he; cases he
    | cons m r =>
      have hd : F.drop p.out.length = m :: r := by rw [← h6, hf]
      by_cases hn : p.out.length < n
      · left
        have hq : q.free = m :: r.take (n - p.out.length - 1) := by
          rw [h7, List.drop_take, hd]
          obtain ⟨j, hj⟩ : ∃ j, n - p.out.length = j + 1 := ⟨n - p.out.length - 1, by omega⟩
          rw [hj, List.take_succ_cons, Nat.add_sub_cancel]
        rw [putP_new h3 hk hf, putP_new h4 hkq hq]
        refine ⟨⟨by simp only [h1], by simp only [h2], rfl, rfl, by simp; omega, ?_, ?_⟩, rfl⟩
        · have : F.drop (p.out.length + 1) = r := by rw [← List.drop_drop, hd]; rfl
          simpa using this.symm
        · have : F.drop (p.out.length + 1) = r := by rw [← List.drop_drop, hd]; rfl
          simp only [List.length_append, List.length_cons, List.length_nil, Nat.zero_add]
          rw [List.drop_take, this, show n - (p.out.length + 1) = n - p.out.length - 1 by omega]
      · right
        have hq : q.free = [] := by rw [h7, List.drop_eq_nil_iff, List.length_take]; omega
        rw [putP_new h3 hk hf, putP_full h4 hkq hq]
        exact ⟨rfl, by simp; omega⟩
theorem less_chain {F : List Int} {n : Nat} {p q : PS} (h : Less F n p q ∨ Dead n p q) : ∀ l : List ByteArray, (chainP p l).1.e = 0 →
    Less F n (chainP p l).1 (chainP q l).1 ∧ (chainP p l).2 = (chainP q l).2 ∨ Dead n (chainP p l).1 (chainP q l).1
  | [], _ => by
    rcases h with h | h
    · exact .inl ⟨h, rfl⟩
    · exact .inr h
  | b :: l, he => by
    rw [chainP_cons] at he ⊢
    rw [chainP_cons]
    have h1 := (putP_ok he).1
    rcases less_chain h l h1 with ⟨h2, h3⟩ | h2
    · rw [← h3]
      exact less_put h2 he
    · exact .inr (h2.put _ _ _ _)
theorem less_chains {F : List Int} {n : Nat} : ∀ (l : List S45) {p q : PS}, (Less F n p q ∨ Dead n p q) → (chainsGo p l).1.e = 0 →
    Less F n (chainsGo p l).1 (chainsGo q l).1 ∧ (chainsGo p l).2 = (chainsGo q l).2 ∨ Dead n (chainsGo p l).1 (chainsGo q l).1
  | [], p, q, h, _ => by
    rcases h with h | h
    · exact .inl ⟨h, rfl⟩
    · exact .inr h
  | r :: l, p, q, h, he => by
    unfold chainsGo at he ⊢
    by_cases hb : 24 < r.f1.size
    · simp only [hb, if_true] at he ⊢
      have hc : (chainP p (piecesP r.f1)).1.e = 0 := by
        by_cases hc : (chainP p (piecesP r.f1)).1.e = 0
        · exact hc
        · rw [chainsGo_err hc] at he; exact he
      rcases less_chain h (piecesP r.f1) hc with ⟨h2, h3⟩ | h2
      · rcases less_chains l (.inl h2) he with ⟨h4, h5⟩ | h4
        · exact .inl ⟨h4, by rw [h3, h5]⟩
        · exact .inr h4
      · rcases less_chains (F := F) l (.inr h2) he with ⟨h4, h5⟩ | h4
        · have := h4.2.2.2.1
          rw [chainsGo_err (by rw [h2.1]; decide), h2.1] at this
          cases this
        · exact .inr h4
    · simp only [hb, if_false] at he ⊢
      rcases less_chains l h he with ⟨h4, h5⟩ | h4
      · exact .inl ⟨h4, by rw [h5]⟩
      · exact .inr h4
theorem less_slots {F : List Int} {n : Nat} : ∀ (l l' : List (List S61)) {p q : PS}, (Less F n p q ∧ l = l' ∨ Dead n p q) → (slotsGo p l).1.e = 0 →
    Less F n (slotsGo p l).1 (slotsGo q l').1 ∧ (slotsGo p l).2 = (slotsGo q l').2 ∨ Dead n (slotsGo p l).1 (slotsGo q l').1
  | l, l', p, q, .inr h, _ => by
    right
    rw [slotsGo_err (p := q) (by rw [h.1]; decide)]
    refine ⟨h.1, Nat.lt_of_lt_of_le h.2 ?_⟩
    exact slotsGo_ind (P := fun r => p.out.length ≤ r.out.length) (fun r b is hr => Nat.le_trans hr (putP_grow r b is)) l (Nat.le_refl _)
  | [], _, p, q, .inl ⟨h, rfl⟩, _ => .inl ⟨h, rfl⟩
  | c :: l, _, p, q, .inl ⟨h, rfl⟩, he => by
    unfold slotsGo at he ⊢
    simp only [h.2.2.1, h.2.2.2.1, if_true] at he ⊢
    have hc : (putP p (pageRes (leafB c)).1 (pageRes (leafB c)).2).1.e = 0 := by
      by_cases hc : (putP p (pageRes (leafB c)).1 (pageRes (leafB c)).2).1.e = 0
      · exact hc
      · rw [slotsGo_err hc] at he; exact he
    rcases less_put h hc with ⟨h2, h3⟩ | h2
    · rcases less_slots l l (.inl ⟨h2, rfl⟩) he with ⟨h4, h5⟩ | h4
      · exact .inl ⟨h4, by rw [h3, h5]⟩
      · exact .inr h4
    · rcases less_slots (F := F) l l (.inr h2) he with ⟨h4, h5⟩ | h4
      · have := h4.2.2.2.1
        rw [slotsGo_err (by rw [h2.1]; decide), h2.1] at this
        cases this
      · exact .inr h4
/-- With the first n pages alone it is told OK if just these are enough. -/
theorem plan_less {l : List S45} {F : List Int} {n : Nat} {o : List S28} {rt : Int} (hg : planGo ⟨fun _ => none, F, [], 0⟩ l = (o, rt, 0)) :
    ((planGo ⟨fun _ => none, F.take n, [], 0⟩ l).2.2 = 0 ↔ o.length ≤ n) := by
  have h0 : Less F n ⟨fun _ => none, F, [], 0⟩ ⟨fun _ => none, F.take n, [], 0⟩ := ⟨rfl, rfl, rfl, rfl, Nat.zero_le _, rfl, rfl⟩
  unfold planGo at hg
  by_cases he : (putP (slotsGo (chainsGo ⟨fun _ => none, F, [], 0⟩ l).1 (leavesP (chainsGo ⟨fun _ => none, F, [], 0⟩ l).2)).1 (pageRes (indexB (slotsGo (chainsGo ⟨fun _ => none, F, [], 0⟩ l).1 (leavesP (chainsGo ⟨fun _ => none, F, [], 0⟩ l).2)).2)).1 (pageRes (indexB (slotsGo (chainsGo ⟨fun _ => none, F, [], 0⟩ l).1 (leavesP (chainsGo ⟨fun _ => none, F, [], 0⟩ l).2)).2)).2).1.e = 0
  · simp only [he, if_true] at hg
    injection hg with g1 _
    obtain ⟨e1, _⟩ := putP_ok he
    have e2 : (chainsGo ⟨fun _ => none, F, [], 0⟩ l).1.e = 0 := by
      by_cases hc : (chainsGo ⟨fun _ => none, F, [], 0⟩ l).1.e = 0
      · exact hc
      · rw [slotsGo_err hc] at e1; exact e1
    have hfin : ∀ q : PS × Int, Dead n (putP (slotsGo (chainsGo ⟨fun _ => none, F, [], 0⟩ l).1 (leavesP (chainsGo ⟨fun _ => none, F, [], 0⟩ l).2)).1 (pageRes (indexB (slotsGo (chainsGo ⟨fun _ => none, F, [], 0⟩ l).1 (leavesP (chainsGo ⟨fun _ => none, F, [], 0⟩ l).2)).2)).1 (pageRes (indexB (slotsGo (chainsGo ⟨fun _ => none, F, [], 0⟩ l).1 (leavesP (chainsGo ⟨fun _ => none, F, [], 0⟩ l).2)).2)).2).1 q.1 → ((if q.1.e = 0 then (q.1.out, q.2, 0) else (([] : List S28), (0 : Int), q.1.e)).2.2 = 0 ↔ o.length ≤ n) := by
      intro q hd
      have h8 : ¬ q.1.e = 0 := by rw [hd.1]; decide
      rw [if_neg h8]
      have := hd.2
      rw [g1] at this
      exact ⟨fun h => absurd h h8, fun h => absurd h (by omega)⟩
    unfold planGo
    dsimp only
    rcases less_chains l (.inl h0) e2 with ⟨h2, h3⟩ | h2
    · rw [← h3]
      rcases less_slots _ _ (.inl ⟨h2, rfl⟩) e1 with ⟨h4, h5⟩ | h4
      · rw [← h5]
        rcases less_put h4 he with ⟨h6, h7⟩ | h6
        · simp only [h6.2.2.2.1, if_true, true_iff]
          have := h6.2.2.2.2.1
          rw [g1] at this
          exact this
        · exact hfin _ h6
      · exact hfin _ (h4.put _ _ _ _)
    · rcases less_slots (leavesP (chainsGo ⟨fun _ => none, F, [], 0⟩ l).2) (leavesP (chainsGo ⟨fun _ => none, F.take n, [], 0⟩ l).2) (F := F) (.inr h2) e1 with ⟨h4, h5⟩ | h4
      · have h8 : (chainsGo ⟨fun _ => none, F.take n, [], 0⟩ l).1.e ≠ 0 := by rw [h2.1]; decide
        have := h4.2.2.2.1
        rw [slotsGo_err h8] at this
        exact absurd this h8
      · exact hfin _ (h4.put _ _ _ _)
  · simp only [he, if_false] at hg
    injection hg with h1 h2
    injection h2 with h2 h3
    exact absurd h3 he
/-- Which errors there are. -/
theorem plan_errs (l : List S45) (h : List S28) (f : List Int) : (planP l h f).2.2 = 0 ∨ (planP l h f).2.2 = 8 ∨ (planP l h f).2.2 = 9 ∨ (planP l h f).2.2 = 12 := by
  unfold planP
  split
  · split
    · exact .inr (.inr (.inr rfl))
    · obtain ⟨⟨o, rt, e⟩, hg⟩ : ∃ x, planGo ⟨knownGo (fun _ => none) h, f, [], 0⟩ l = x := ⟨_, rfl⟩
      rw [hg]
      obtain ⟨q, h1, h2⟩ := planGo_pp (P := fun p => p.e = 0 ∨ p.e = 8 ∨ p.e = 9) (by
        intro p o _ hp
        by_cases he : p.e = 0
        · cases o with
          | none => rw [pageRes, putP_false he]; exact .inr (.inr rfl)
          | some b =>
            rw [pageRes]
            cases hk : p.known b with
            | some n => rw [putP_known he hk]; exact hp
            | none =>
              cases hf : p.free with
              | nil => rw [putP_full he hk hf]; exact .inr (.inl rfl)
              | cons n r => rw [putP_new he hk hf]; exact .inl rfl
        · rw [putP_err he]; exact hp) (.inl rfl) hg
      rcases h2 with ⟨_, _, rfl⟩ | ⟨_, _, _, rfl⟩
      · exact .inl rfl
      · rcases h1 with h | h | h
        · exact .inl h
        · exact .inr (.inl h)
        · exact .inr (.inr (.inl h))
  · exact .inr (.inr (.inl rfl))
theorem upTo_take {n m : Nat} (h : n ≤ m) : (upTo m).take n = upTo n := by
  unfold upTo
  rw [← List.map_take, List.take_range, Nat.min_eq_left h]
theorem errors_need {l : List S45} {n : Nat} (hn : n ≤ 198) (hr : rightGo (-1) l = true) (h0 : 0 < (planP l [] allP).1.length) : ((planP l [] (upTo n)).2.2 = 0 ↔ (planP l [] allP).1.length ≤ n) := by
  obtain ⟨⟨o, rt, e⟩, hp⟩ : ∃ x, planP l [] allP = x := ⟨_, rfl⟩
  rw [hp] at h0 ⊢
  have he : e = 0 := by
    by_cases he : e = 0
    · exact he
    · rw [plan_err hp he] at h0; exact absurd h0 (by simp)
  subst he
  obtain ⟨_, _, h21, hg⟩ := plan_ok hp
  have hq : planP l [] (upTo n) = planGo ⟨fun _ => none, allP.take n, [], 0⟩ l := by
    unfold planP
    rw [hr, may_upTo hn, Bool.and_self, if_pos rfl, if_neg h21]
    unfold allP
    rw [upTo_take hn]
    rfl
  rw [hq]
  exact plan_less hg
theorem may_bad {n : Nat} (hn : n ≤ 198) {bad : Int} (h : ¬ ((n : Int) + 2 ≤ bad ∧ bad < 200)) : mayB [] (upTo n ++ [bad]) = false := by
  rw [may_nil]
  by_cases hb : pageOk bad = true
  · have hlt : bad < (n : Int) + 2 ∧ 2 ≤ bad := by
      simp [pageOk] at hb
      omega
    have : (List.range (upTo n ++ [bad]).length).all (fun i => !(((upTo n ++ [bad]).take i).contains ((upTo n ++ [bad]).getD i 0))) = false := by
      rw [List.all_eq_false]
      refine ⟨n, by rw [List.mem_range, List.length_append, upTo_length]; simp, ?_⟩
      have h1 : (upTo n ++ [bad]).take n = upTo n := by
        rw [List.take_append_of_le_length (by rw [upTo_length]; exact Nat.le_refl _)]
        have := upTo_take (Nat.le_refl n)
        exact this
      have h2 : (upTo n ++ [bad]).getD n 0 = bad := by
        rw [List.getD_eq_getElem?_getD, List.getElem?_append_right (by rw [upTo_length]; exact Nat.le_refl _), upTo_length]
        simp
      rw [h1, h2]
      have hm : bad ∈ upTo n := by
        simp only [upTo, List.mem_map, List.mem_range]
        exact ⟨(bad - 2).toNat, by omega, by omega⟩
      simp [hm]
    rw [this, Bool.false_and]
  · have : (upTo n ++ [bad]).all pageOk = false := by
      rw [List.all_append]
      simp [hb]
    rw [this, Bool.and_false]
theorem errors_bad {l : List S45} {n : Nat} (hn : n ≤ 198) {bad : Int} (h : ¬ ((n : Int) + 2 ≤ bad ∧ bad < 200)) : (planP l [] (upTo n ++ [bad])).2.2 = 9 := by
  unfold planP
  rw [may_bad hn h, Bool.and_false]
  rfl
end Go.Proofs.Ytjnhbalclimmnaa.PA
