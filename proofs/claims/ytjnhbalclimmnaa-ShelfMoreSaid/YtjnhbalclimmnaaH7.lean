/- What shelf.Plan tells, in plain words; laws of what stands while a plan is written. -/
import Derived.Test.YtjnhbalclimmnaaH6
set_option linter.unusedSimpArgs false
set_option linter.unusedVariables false
namespace Go.Proofs.Ytjnhbalclimmnaa.PA
open Go Go.RowKit Go.Proofs.YtjnhbalclimmnaaW.PrintWords Go.Proofs.YtjnhbalclimmnaaW.PrintMore H L

/-- keys rise, nothing is too long -/
def rightGo : Int → List S45 → Bool
  | _, [] => true
  | ahead, r :: l => if r.f0 ≤ ahead then false else if r.f0 > 2147483647 then false else if (r.f1.size : Int) > 900 then false else rightGo r.f0 l
theorem right_loop (l : List S45) (hm : l.length ≤ 1000000) : ∀ (d i : Nat) (ahead : Int) (k : Nat), l.length - i = d → i ≤ l.length → d < k →
    shelf_Right.l0 k ahead l (l.length : Int) (i : Int) = some (rightGo ahead (l.drop i)) := by
  intro d
  induction d with
  | zero =>
    intro i ahead k hd hi hk
    obtain ⟨k, rfl⟩ : ∃ m, k = m + 1 := ⟨k - 1, by omega⟩
    simp only [shelf_Right.l0]
    rw [if_neg (by omega), List.drop_eq_nil_of_le (by omega)]
    rfl
  | succ d ih =>
    intro i ahead k hd hi hk
    obtain ⟨k, rfl⟩ : ∃ m, k = m + 1 := ⟨k - 1, by omega⟩
    have hlt : i < l.length := by omega
    have hrd : rd_T45 l (i : Int) = l[i] := by simp [rd_T45, List.getD_eq_getElem?_getD, List.getElem?_eq_getElem hlt]
    simp only [shelf_Right.l0, hrd]
    rw [if_pos (by omega), if_pos (by omega), if_pos (by omega), List.drop_eq_getElem_cons hlt, wrap_succ hlt (by omega), ih (i + 1) _ k (by omega) (by omega) (by omega)]
    simp only [rightGo]
    repeat' split
    all_goals rfl
theorem Right_f (l : List S45) (hm : l.length ≤ 1000000) : shelf_Right.f (l.length + 1) l = some (rightGo (-1) l) := by
  unfold shelf_Right.f
  have h := right_loop l hm l.length 0 (-1) (l.length + 1) (by omega) (by omega) (by omega)
  simpa using h
/-- the cell of a record that begins in a page -/
def cellP (r : S45) (page : Int) : S61 := if r.f1.size ≤ 24 then ⟨r.f0, r.f1.size, 0, r.f1⟩ else ⟨r.f0, r.f1.size, page, ⟨#[]⟩⟩
theorem cell_f (r : S45) (page : Int) : shelf_cell.f r.f0 r.f1 page = some ((cellP r page).f0, (cellP r page).f1, (cellP r page).f2, (cellP r page).f3) := by
  unfold shelf_cell.f cellP
  by_cases h : r.f1.size ≤ 24
  · rw [if_pos (by omega), if_pos h]
  · rw [if_neg (by omega), if_neg h]
open Classical in
/-- pages that are there, by their bytes; the first counts -/
noncomputable def knownGo (known : ByteArray → Option Int) : List S28 → (ByteArray → Option Int)
  | [] => known
  | x :: l => knownGo (if (known x.f1).isSome then known else fun s => if s = x.f1 then some x.f0 else known s) l
/-- long records are laid out -/
noncomputable def chainsGo (p : PS) : List S45 → PS × List S61
  | [] => (p, [])
  | r :: l => if 24 < r.f1.size then ((chainsGo (chainP p (piecesP r.f1)).1 l).1, cellP r (chainP p (piecesP r.f1)).2 :: (chainsGo (chainP p (piecesP r.f1)).1 l).2)
    else ((chainsGo p l).1, cellP r 2 :: (chainsGo p l).2)
/-- leaves are laid out -/
noncomputable def slotsGo (p : PS) : List (List S61) → PS × List S76
  | [] => (p, [])
  | c :: l => if p.e = 0 then ((slotsGo (putP p (pageRes (leafB c)).1 (pageRes (leafB c)).2).1 l).1, ⟨(rd_T61 c 0).f0, (putP p (pageRes (leafB c)).1 (pageRes (leafB c)).2).2⟩ :: (slotsGo (putP p (pageRes (leafB c)).1 (pageRes (leafB c)).2).1 l).2)
    else slotsGo p l
noncomputable def planGo (p : PS) (l0 : List S45) : List S28 × Int × Int :=
  let q := chainsGo p l0
  let s := slotsGo q.1 (leavesP q.2)
  let r := putP s.1 (pageRes (indexB s.2)).1 (pageRes (indexB s.2)).2
  if r.1.e = 0 then (r.1.out, r.2, 0) else ([], 0, r.1.e)
/-- what Plan tells -/
noncomputable def planP (l0 : List S45) (l1 : List S28) (l2 : List Int) : List S28 × Int × Int :=
  if rightGo (-1) l0 && mayB l1 l2 then
    if 21 < (leavesP (l0.map (cellP · 2))).length then ([], 0, 12)
    else planGo ⟨knownGo (fun _ => none) l1, l2, [], 0⟩ l0
  else ([], 0, 9)
noncomputable def shelf_Plan.f (l0 : List S45) (l1 : List S28) (l2 : List Int) : Option (List S28 × Int × Int) :=
  if l0.length ≤ 1000000 ∧ l1.length ≤ 1000000 ∧ l2.length ≤ 1000000 ∧ (∀ x ∈ l1, x.f1.size ≤ 1000000) then some (planP l0 l1 l2) else none

theorem info61h : (Try.prog.info? 61).map (fun i => (i.zero, i.size, i.bytes)) = some (some (.agg #[.int .i64 0, .int .i64 0, .int .i64 0, .string ⟨#[]⟩]), 4, 40) := by kernel_rfl
theorem info76h : (Try.prog.info? 76).map (fun i => (i.zero, i.size, i.bytes)) = some (some (.agg #[.int .i64 0, .int .i64 0]), 2, 16) := by kernel_rfl
theorem leavesGo_len : ∀ (l cur : List S61), (leavesGo cur l).length ≤ l.length + 1
  | [], cur => by unfold leavesGo; split <;> simp
  | c :: r, cur => by
    unfold leavesGo
    split
    · have := leavesGo_len r (cur ++ [c]); simp; omega
    · have := leavesGo_len r [c]; simp; omega
theorem take_map {l0 : List S45} {k : Nat} (hk : k < l0.length) {x : S45} (hx : x = rd_T45 l0 k) : (l0.take (k + 1)).map (cellP · 2) = (l0.take k).map (cellP · 2) ++ [cellP x 2] := by
  rw [List.take_succ_eq_append_getElem hk, List.map_append, hx]
  simp [rd_T45, List.getD_eq_getElem?_getD, List.getElem?_eq_getElem hk]

theorem PSt.new {w0 W : World} {A2 : Option Addr} {c2 : Nat} {l2 : List Int} (hb : Below w0.heap.size w0 W) (hc2 : l2.length ≤ c2) (hC : Kd.C (Kd.int .i64) w0 A2 l2.length l2) (hfr : ∀ x ∈ l2, 0 ≤ x ∧ x < 200) (hl : l2.length ≤ 1000000) :
    PSt (fun _ => False) w0 ((W.alloc (.map #[] 0)).alloc (.cells #[.map (some W.heap.size), .slice A2 l2.length c2, .slice none 0 0, .int .i64 0] 68)) (W.heap.size + 1) 0 ⟨fun _ => none, l2, [], 0⟩ := by
  have hs := hb.size
  refine ⟨W.heap.size, A2, c2, .slice none 0 0, .map [], ?_, by omega, hs, hc2, hC, hfr, ((World.ownsMap_made W Try.prog 9 (plainElem Try.prog 3)).alloc _), KnownD.empty, ⟨by omega, by simpa using hl⟩, Kd.R_nil _ _ _ _ _, below_alloc (below_alloc hb _) _, fun _ h => h.elim⟩
  have := heap_alloc_new (W.alloc (.map #[] 0)) (.cells #[.map (some W.heap.size), .slice A2 l2.length c2, .slice none 0 0, .int .i64 0] 68)
  simpa using this
set_option maxRecDepth 10000 in
theorem known_look {W : World} {mb N : Nat} {D : DataW Unit} {known : ByteArray → Option Int} (hm : W.ownsMap Try.prog 9 (plainElem Try.prog 3) mb N D) (hD : KnownD D known) (s : ByteArray) (hs : s.size ≤ 1000000) :
    (Instr.lookup 66 (.map (some mb)) (.string s) true).run Try.prog W = .ok (.tuple #[.int .i64 ((known s).getD 0), .bool (known s).isSome]) W := by
  obtain ⟨v, ps, hrun, hv⟩ := hm.look_ok law9 Try.underlying66 (zero3 W) (plainElem_int Try.underlying3 (by decide)) (WideMaps.keyOf_string_mk Try.underlying9 (s := s) (by unfold maxLen; omega))
  obtain ⟨c, rfl, hc, hwc⟩ := plainElem_int_inv Try.underlying3 hv
  rw [hrun]
  obtain ⟨h1, h2⟩ := hD.2 s
  have h3 := (congrArg Prod.fst hc).symm.trans h2
  injection h3 with h3
  injection h3 with h3 h4
  rw [h1, h4]
open Classical in
theorem PStM.next {F : Nat → Prop} {w0 W W2 : World} {g N : Nat} {p : PS} {mb : Nat} {A1 : Option Addr} {c1 : Nat} {vo : Value} {D : DataW Unit} (h : PStM F w0 W g N p mb A1 c1 vo D) {b : ByteArray} {n : Int} (hN : N + 1 ≤ 1000000)
    (hm2 : W2.ownsMap Try.prog 9 (plainElem Try.prog 3) mb (N + p.out.length + 1) (D.put (.string b.data.toList) (.lit (.int .i64 n)))) (hg2 : W.grownBy W2 (some mb)) :
    PSt F w0 W2 g (N + 1) { p with known := fun s => if s = b then some n else p.known s } := by
  obtain ⟨hg, h1, h2, h3, h4, h5, h6, h7, h8, h9, h10, h11⟩ := h
  obtain ⟨es, cl, hmb, _⟩ := h6
  have hne : g ≠ mb := by
    rintro rfl
    rw [hg] at hmb
    cases hmb
  refine ⟨mb, A1, c1, vo, _, (hg2.block g (Array.getElem?_eq_some_iff.1 hg).1 (by simpa using hne)).trans hg, h1, h2, h3, h4, h5, (by rw [show N + 1 + p.out.length = N + p.out.length + 1 by omega]; exact hm2), h7.put b n, ⟨hN, h8.2⟩, ?_, h10.grown hg2 h10.size (fun k hk => by cases hk; exact h2), fun k hk => ⟨Nat.lt_of_lt_of_le (h11 k hk).1 hg2.size, (h11 k hk).2⟩⟩
  exact Kd.R_mono (Kd.R_grown (R_not_map h9 hmb) hg2 (fun k hk => by simpa using hk)) (fun _ _ => trivial)
theorem PSt.more {F : Nat → Prop} {w0 W : World} {g N N' : Nat} {p : PS} (h : PSt F w0 W g N p) (hn : N ≤ N') (hm : N' ≤ 1000000) : PSt F w0 W g N' p := by
  obtain ⟨mb, A1, c1, vo, D, hg, h1, h2, h3, h4, h5, h6, h7, h8, h9, h10, h11⟩ := h
  exact ⟨mb, A1, c1, vo, D, hg, h1, h2, h3, h4, h5, h6.mono (by omega), h7, ⟨hm, h8.2⟩, h9, h10, h11⟩
theorem PStM.step {F : Nat → Prop} {w0 W W1 : World} {g N : Nat} {p : PS} {mb : Nat} {A1 : Option Addr} {c1 : Nat} {vo : Value} {D : DataW Unit} (h : PStM F w0 W g N p mb A1 c1 vo D) (hb : Below W.heap.size W W1) : PStM F w0 W1 g N p mb A1 c1 vo D := by
  obtain ⟨hg, h1, h2, h3, h4, h5, h6, h7, h8, h9, h10, h11⟩ := h
  exact ⟨(hb.block g (Array.getElem?_eq_some_iff.1 hg).1).trans hg, h1, h2, h3, h4, h5, h6.kept (grown_of_below hb none) (by simp), h7, h8, Kd.R_below h9 hb, below_then h10 h10.size hb, fun k hk => ⟨Nat.lt_of_lt_of_le (h11 k hk).1 hb.size, (h11 k hk).2⟩⟩
theorem PSt.grown61 {F : Nat → Prop} {w0 W W1 : World} {g N : Nat} {p : PS} (h : PSt F w0 W g N p) {gc : Nat} {cs : Array Value} (hgc : W.heap[gc]? = some (.cells cs 61 (0, 0))) (hlt : w0.heap.size ≤ gc) (hg1 : W.grownBy W1 (some gc)) : PSt F w0 W1 g N p := by
  obtain ⟨mb, A1, c1, vo, D, hg, h1, h2, h3, h4, h5, h6, h7, h8, h9, h10, h11⟩ := h
  have e1 : g ≠ gc := by rintro rfl; rw [hg] at hgc; cases hgc
  have e2 : mb ≠ gc := by
    rintro rfl
    obtain ⟨es, cl, hm, _⟩ := h6
    rw [hgc] at hm
    cases hm
  have e3 := Kd.R_ne h9 hgc (by decide)
  refine ⟨mb, A1, c1, vo, D, (hg1.block g (Array.getElem?_eq_some_iff.1 hg).1 (by simpa using e1)).trans hg, h1, h2, h3, h4, h5, h6.kept hg1 (by simpa using e2), h7, h8, ?_, h10.grown hg1 h10.size (fun k hk => by cases hk; exact hlt), fun k hk => ⟨Nat.lt_of_lt_of_le (h11 k hk).1 hg1.size, (h11 k hk).2⟩⟩
  refine Kd.R_mono (Kd.R_step (Kd.R_bound h9) (fun k hk hlt => hg1.block k hlt ?_)) (fun _ _ => trivial)
  obtain ⟨_, _, _, q, hq, cells, hc⟩ := hk
  intro e
  injection e with e
  subst e
  rw [hgc] at hc
  injection hc with hc
  injection hc with _ hc _
  revert hq
  rw [← hc]
  decide
theorem right_all : ∀ (l : List S45) (ahead : Int), rightGo ahead l = true → ∀ x ∈ l, x.f1.size ≤ 900 ∧ ahead < x.f0 ∧ x.f0 ≤ 2147483647
  | [], _, _, _, hx => by cases hx
  | r :: l, ahead, h, x, hx => by
    unfold rightGo at h
    by_cases h1 : r.f0 ≤ ahead
    · rw [if_pos h1] at h; cases h
    rw [if_neg h1] at h
    by_cases h2 : r.f0 > 2147483647
    · rw [if_pos h2] at h; cases h
    rw [if_neg h2] at h
    by_cases h3 : (r.f1.size : Int) > 900
    · rw [if_pos h3] at h; cases h
    rw [if_neg h3] at h
    rcases List.mem_cons.1 hx with rfl | hx
    · omega
    · have := right_all l r.f0 h x hx
      omega
theorem set_mid {α : Type} {dn r : List α} {y z : α} : (dn ++ y :: r).set dn.length z = dn ++ [z] ++ r := by
  rw [List.set_append_right _ _ (Nat.le_refl _)]
  simp
theorem may_have {l1 : List S28} {l2 : List Int} (h : mayB l1 l2 = true) : (∀ x ∈ l1, pageOk x.f0 = true) ∧ ∀ n ∈ l2, pageOk n = true := by
  unfold mayB at h
  simp only [Bool.and_eq_true, List.all_append, List.all_map] at h
  obtain ⟨_, h1, h2⟩ := h
  exact ⟨fun x hx => by have := List.all_eq_true.1 h1 x hx; simpa using this, fun n hn => List.all_eq_true.1 h2 n hn⟩
theorem pageOk_range {n : Int} (h : pageOk n = true) : 0 ≤ n ∧ n < 200 := by
  unfold pageOk at h
  simp at h
  omega
theorem knownGo_snoc (l : List S28) (x : S28) : ∀ known, knownGo known (l ++ [x]) = (if ((knownGo known l) x.f1).isSome then knownGo known l else fun s => open Classical in if s = x.f1 then some x.f0 else knownGo known l s) := by
  induction l with
  | nil => intro known; rfl
  | cons y r ih => intro known; exact ih _

theorem wait_ {p : Prop} (h : Hid p) : p := h.out
/-- All pages that a plan knows or has are pages. -/
def PGood (p : PS) : Prop := (∀ b n, p.known b = some n → pageOk n = true) ∧ ∀ n ∈ p.free, pageOk n = true
theorem putP_good {p : PS} (h : PGood p) (b : ByteArray) (is : Bool) : PGood (putP p b is).1 ∧ ((putP p b is).1.e = 0 → p.e = 0 ∧ pageOk (putP p b is).2 = true) := by
  unfold putP
  by_cases he : p.e = 0
  · rw [if_pos he]
    cases is with
    | false => exact ⟨h, fun hc => by simp at hc⟩
    | true =>
      simp only [if_true]
      cases hk : p.known b with
      | some n => exact ⟨h, fun _ => ⟨he, h.1 b n hk⟩⟩
      | none =>
        cases hf : p.free with
        | nil => exact ⟨⟨h.1, by simp⟩, fun hc => by simp at hc⟩
        | cons n r =>
          have hn : pageOk n = true := h.2 n (by rw [hf]; simp)
          refine ⟨⟨fun s m hs => ?_, fun m hm => h.2 m (by rw [hf]; simp at hm ⊢; exact .inr hm)⟩, fun _ => ⟨he, hn⟩⟩
          by_cases e : s = b
          · simp [e] at hs; rw [← hs]; exact hn
          · simp [e] at hs; exact h.1 s m hs
  · rw [if_neg he]
    exact ⟨h, fun hc => absurd hc he⟩
theorem chainP_good {p : PS} (h : PGood p) : ∀ l : List ByteArray, PGood (chainP p l).1 ∧ ((chainP p l).1.e = 0 → p.e = 0 ∧ (l ≠ [] → pageOk (chainP p l).2 = true))
  | [] => ⟨h, fun hc => ⟨hc, fun h => absurd rfl h⟩⟩
  | b :: l => by
    obtain ⟨h1, h2⟩ := chainP_good h l
    obtain ⟨h3, h4⟩ := putP_good h1 (pageRes (chainB (chainP p l).2 b)).1 (pageRes (chainB (chainP p l).2 b)).2
    rw [chainP_cons]
    exact ⟨h3, fun hc => ⟨(h2 (h4 hc).1).1, fun _ => (h4 hc).2⟩⟩
theorem piecesP_ne {b : ByteArray} (h : 24 < b.size) : piecesP b ≠ [] := by
  unfold piecesP
  have hne : b.data.toList ≠ [] := fun e => by
    have : b.size = 0 := by rw [Lib.size_eq, e]; rfl
    omega
  obtain ⟨n, hn⟩ : ∃ n, b.size = n + 1 := ⟨b.size - 1, by omega⟩
  rw [hn, piecesGo, if_neg hne]
  simp
theorem fits_one {r : S45} {page : Int} (h : r.f1.size ≤ 900 ∧ -1 < r.f0 ∧ r.f0 ≤ 2147483647) (hp : 24 < r.f1.size → pageOk page = true) : (leafB [cellP r page]).isSome = true := by
  have hk : (keyOk (cellP r page).f0 (-1) && rightB (cellP r page)) = true := by
    unfold cellP
    by_cases h1 : r.f1.size ≤ 24
    · rw [if_pos h1]
      have : (r.f1.size : Int) ≤ 24 := by omega
      simp [keyOk, rightB, h.2.1, h.2.2, this]
    · rw [if_neg h1]
      have h2 : ¬ (r.f1.size : Int) ≤ 24 := by omega
      have h3 : (r.f1.size : Int) ≤ 900 := by omega
      simp [keyOk, rightB, h.2.1, h.2.2, h2, h3, hp (by omega)]
      decide
  unfold leafB
  rw [if_pos (by simp)]
  simp only [cellsB, hk, if_true, Option.map_some, Option.bind_some]
  unfold fullPage
  rw [if_pos]
  · rfl
  · have hb : (cellP r page).f3.data.toList.length ≤ 24 := by
      unfold cellP
      by_cases h1 : r.f1.size ≤ 24
      · rw [if_pos h1, ← Lib.size_eq]; exact h1
      · rw [if_neg h1]; simp
    have hc : (cellB (cellP r page)).length ≤ 32 := by
      unfold cellB
      simp only [List.length_append, be_length]
      have := Lib.size_eq (cellP r page).f3
      split <;> simp [be_length] <;> omega
    simp [ByteArray.size]
    omega
/-- Where the pages are told, every cell has room by itself. -/
theorem chains_good : ∀ (l : List S45) (p : PS), PGood p → (∀ x ∈ l, x.f1.size ≤ 900 ∧ -1 < x.f0 ∧ x.f0 ≤ 2147483647) → PGood (chainsGo p l).1 ∧ ((chainsGo p l).1.e = 0 → p.e = 0 ∧ ∀ c ∈ (chainsGo p l).2, (leafB [c]).isSome = true)
  | [], p, h, _ => ⟨h, fun hc => ⟨hc, fun c hc => by simp [chainsGo] at hc⟩⟩
  | r :: l, p, h, hl => by
    have hr := hl r (by simp)
    unfold chainsGo
    by_cases hb : 24 < r.f1.size
    · rw [if_pos hb]
      obtain ⟨h1, h2⟩ := chainP_good h (piecesP r.f1)
      obtain ⟨h3, h4⟩ := chains_good l _ h1 (fun x hx => hl x (by simp [hx]))
      refine ⟨h3, fun hc => ?_⟩
      obtain ⟨e1, e2⟩ := h4 hc
      obtain ⟨e3, e4⟩ := h2 e1
      refine ⟨e3, fun c hc => ?_⟩
      rcases List.mem_cons.1 hc with rfl | hc
      · exact fits_one hr (fun _ => e4 (piecesP_ne hb))
      · exact e2 c hc
    · rw [if_neg hb]
      obtain ⟨h3, h4⟩ := chains_good l p h (fun x hx => hl x (by simp [hx]))
      refine ⟨h3, fun hc => ?_⟩
      obtain ⟨e1, e2⟩ := h4 hc
      refine ⟨e1, fun c hc => ?_⟩
      rcases List.mem_cons.1 hc with rfl | hc
      · exact fits_one hr (fun h => absurd h hb)
      · exact e2 c hc
theorem leavesGo_ne : ∀ (l cur : List S61), cur ≠ [] → ∀ c ∈ leavesGo cur l, c ≠ []
  | [], cur, h, c, hc => by
    unfold leavesGo at hc
    rw [if_neg h] at hc
    rw [List.mem_singleton.1 hc]
    exact h
  | x :: r, cur, h, c, hc => by
    unfold leavesGo at hc
    split at hc
    · exact leavesGo_ne r (cur ++ [x]) (by simp) c hc
    · rcases List.mem_cons.1 hc with rfl | hc
      · exact h
      · exact leavesGo_ne r [x] (by simp) c hc
theorem leavesP_ne {l : List S61} (h : ∀ c ∈ l, (leafB [c]).isSome = true) : ∀ c ∈ leavesP l, c ≠ [] := by
  unfold leavesP
  cases l with
  | nil => intro c hc; simp [leavesGo] at hc
  | cons x r =>
    intro c hc
    unfold leavesGo at hc
    rw [List.nil_append, if_pos (h x (by simp))] at hc
    exact leavesGo_ne r [x] (by simp) c hc
theorem knownGo_good : ∀ (l : List S28) (known : ByteArray → Option Int), (∀ b n, known b = some n → pageOk n = true) → (∀ x ∈ l, pageOk x.f0 = true) → ∀ b n, knownGo known l b = some n → pageOk n = true
  | [], known, h, _, b, n, hb => h b n hb
  | x :: l, known, h, hl, b, n, hb => by
    unfold knownGo at hb
    refine knownGo_good l _ ?_ (fun y hy => hl y (by simp [hy])) b n hb
    intro s m hs
    split at hs
    · exact h s m hs
    · dsimp only at hs
      split at hs
      · injection hs with hs
        rw [← hs]
        exact hl x (by simp)
      · exact h s m hs
theorem leafB_size (l : List S61) : (pageRes (leafB l)).1.size ≤ 1000000 := by
  refine pageRes_size (fun r h => ?_)
  unfold leafB at h
  split at h
  · cases hc : cellsB (-1) l with
    | none => rw [hc] at h; cases h
    | some t => rw [hc] at h; exact fullPage_size h
  · cases h
theorem indexB_size (l : List S76) : (pageRes (indexB l)).1.size ≤ 1000000 := by
  refine pageRes_size (fun r h => ?_)
  unfold indexB at h
  split at h
  · cases hc : slotsB (-1) l with
    | none => rw [hc] at h; cases h
    | some t => rw [hc] at h; exact fullPage_size h
  · cases h

/-- The blocks that the leaves lie in: rows of cells of world wr, and what was made between wr and w5. -/
def LK (wr w5 : World) (k : Nat) : Prop := ((∃ cs, wr.heap[k]? = some (.cells cs 61 (0, 0))) ∨ wr.heap.size ≤ k) ∧ k < w5.heap.size
/-- .. and they stand in W as in w5. -/
def KO (wr w5 W : World) : Prop := ∀ k, LK wr w5 k → W.heap[k]? = w5.heap[k]?
theorem KO.refl (wr w5 : World) : KO wr w5 w5 := fun _ _ => rfl
theorem heap_lt2 {W w5 : World} {k : Nat} (h : W.heap[k]? = w5.heap[k]?) (hlt : k < w5.heap.size) : k < W.heap.size := by
  rw [Array.getElem?_eq_getElem hlt] at h
  exact (Array.getElem?_eq_some_iff.1 h).1
theorem KO.step {wr w5 W W1 : World} (h : KO wr w5 W) (hb : Below W.heap.size W W1) : KO wr w5 W1 := fun k hk =>
  (hb.block k (heap_lt2 (h k hk) hk.2)).trans (h k hk)
/-- a put leaves the leaves -/
theorem KO.put {wr w5 W W1 : World} {g : Nat} {cs : Array Value} (h : KO wr w5 W) (h5 : Below wr.heap.size wr w5) (hg : wr.heap[g]? = some (.cells cs 68 (0, 0))) (hk : PK (fun k => wr.heap.size ≤ k ∧ k < w5.heap.size) g W W1) : KO wr w5 W1 := fun k hl => by
  have h1 := h k hl
  obtain ⟨hl1, hl2⟩ := hl
  rw [Array.getElem?_eq_getElem hl2] at h1 ⊢
  refine hk.2 k _ h1 ?_ ?_
  · rintro rfl
    rcases hl1 with ⟨cs', hc⟩ | hl1
    · rw [hg] at hc
      cases hc
    · have := (Array.getElem?_eq_some_iff.1 hg).1
      omega
  · rcases hl1 with ⟨cs', hc⟩ | hl1
    · right
      have hlt := (Array.getElem?_eq_some_iff.1 hc).1
      have e := (h5.block k hlt).trans hc
      rw [Array.getElem?_eq_getElem hl2] at e
      injection e with e
      rw [e]
      exact ⟨by intro es c; simp, by intro c fz e; injection e with _ e _; revert e; decide⟩
    · exact .inl ⟨hl1, hl2⟩
theorem PSt.reF {w0 wr w5 : World} {g N : Nat} {p : PS} (h : PSt (fun _ => False) w0 wr g N p) (hb : Below wr.heap.size wr w5) : PSt (fun k => wr.heap.size ≤ k ∧ k < w5.heap.size) w0 w5 g N p := by
  obtain ⟨mb, A1, c1, vo, D, hP⟩ := h
  obtain ⟨hg, h1, h2, h3, h4, h5, h6, h7, h8, h9, h10, h11⟩ := hP.step hb
  refine ⟨mb, A1, c1, vo, D, hg, h1, h2, h3, h4, h5, h6, h7, h8, h9, h10, fun k hk => ⟨hk.2, ?_, ?_, ?_⟩⟩
  · rintro rfl
    have := (Array.getElem?_eq_some_iff.1 hP.1).1
    omega
  · rintro rfl
    have := hP.2.2.2.2.2.2.1.lt
    omega
  · intro e
    have := Kd.R_lt hP.2.2.2.2.2.2.2.2.2.1 k e.symm
    omega
theorem cell_same {W W1 : World} {a : Addr} (h : W1.heap[a.block]? = W.heap[a.block]?) : W1.cell? a = W.cell? a := by
  unfold World.cell?
  rw [h]
/-- Leaf number i, while the leaves stand. -/
theorem leaf_at {wr w5 : World} {b n c : Nat} {g : Nat} {ls : List (List S61)} (hN : Kd.N (Kd.slice 61 k61) 59 w5 b (LK wr w5) (.slice (some ⟨g, 0, none⟩) n c) ls) {i : Nat} (hi : i < n) :
    ∃ Ai ci, (ls.getD i []).length ≤ ci ∧ ∀ W, KO wr w5 W → W.cell? ⟨g, i, none⟩ = some (.slice Ai (ls.getD i []).length ci) ∧ Kd.C k61 W Ai (ls.getD i []).length (ls.getD i []) := by
  obtain ⟨cc, hcl, hF, hcells, _⟩ := Kd.N_elem hN [] (i : Int) (by omega) (by omega)
  have hq : ∀ W, KO wr w5 W → (Kd.slice 61 k61).K W (ls.getD (i : Int).toNat []) cc := fun W hW => hF W (fun k hk _ => hW k hk.1)
  obtain ⟨Ai, ci, he, hci, _⟩ := hq w5 (KO.refl wr w5)
  rw [Int.toNat_natCast] at he hci hcells hq
  refine ⟨Ai, ci, hci, fun W hW => ⟨?_, ?_⟩⟩
  · have hg := hN.1 g (by simp [Value.ownBlock])
    rw [cell_same (W := w5) (hW g hg)]
    have := hcells 0 (.slice Ai (ls.getD i []).length ci) (by rw [he]; rfl)
    rw [← this]
    show _ = w5.cell? ⟨g, i * 1 + 0, none⟩
    simp
  · obtain ⟨A', c', he', _, hC⟩ := hq W hW
    rw [he] at he'
    injection he' with he' _
    injection he' with he1 _ _
    rw [he1]
    exact hC
theorem PSt.grownR {F : Nat → Prop} {w0 W W1 : World} {g N : Nat} {p : PS} (h : PSt F w0 W g N p) {row : Option Nat} (hrow : ∀ k, row = some k → w0.heap.size ≤ k ∧ ∃ cs t, W.heap[k]? = some (.cells cs t (0, 0)) ∧ t ≠ 68 ∧ t ≠ 28) (hg1 : W.grownBy W1 row) : PSt F w0 W1 g N p := by
  obtain ⟨mb, A1, c1, vo, D, hg, h1, h2, h3, h4, h5, h6, h7, h8, h9, h10, h11⟩ := h
  have e1 : some g ≠ row := by
    intro e
    obtain ⟨_, cs, t, hc, ht, _⟩ := hrow g e.symm
    rw [hg] at hc
    injection hc with hc
    injection hc with _ hc _
    exact ht hc.symm
  have e2 : some mb ≠ row := by
    intro e
    obtain ⟨_, cs, t, hc, ht, _⟩ := hrow mb e.symm
    obtain ⟨es, cl, hm, _⟩ := h6
    rw [hm] at hc
    cases hc
  refine ⟨mb, A1, c1, vo, D, (hg1.block g (Array.getElem?_eq_some_iff.1 hg).1 e1).trans hg, h1, h2, h3, h4, h5, h6.kept hg1 e2, h7, h8, ?_, h10.grown hg1 h10.size (fun k hk => (hrow k hk).1), fun k hk => ⟨Nat.lt_of_lt_of_le (h11 k hk).1 hg1.size, (h11 k hk).2⟩⟩
  refine Kd.R_mono (Kd.R_step (Kd.R_bound h9) (fun k hk hlt => hg1.block k hlt ?_)) (fun _ _ => trivial)
  obtain ⟨_, _, _, q, hq, cells, hc⟩ := hk
  intro e
  obtain ⟨_, cs, t, hc2, _, ht⟩ := hrow k e.symm
  rw [hc] at hc2
  injection hc2 with hc2
  injection hc2 with _ hc2 _
  revert hq
  rw [hc2]
  intro hq
  have : t = 28 := by revert hq; simp [k28, Kd.iso, Kd.pair, Kd.int, Kd.string, Kd.scalar]
  exact ht this
theorem KO.grown {wr w5 W W1 : World} (h : KO wr w5 W) {row : Option Nat} (hrow : ∀ k, row = some k → w5.heap.size ≤ k) (hg : W.grownBy W1 row) : KO wr w5 W1 := fun k hk =>
  (hg.block k (heap_lt2 (h k hk) hk.2) (fun e => by have := hrow k e.symm; have := hk.2; omega)).trans (h k hk)
theorem KO.alloc {wr w5 W : World} (h : KO wr w5 W) (o : Obj) : KO wr w5 (W.alloc o) := h.step (below_alloc (Below.refl _ _) o)
theorem KO.drew {wr w5 W : World} (h : KO wr w5 W) : KO wr w5 W.drew := h.step (below_drew (Below.refl _ _))
/-- An append of one element, as an equation on the operation's run. -/
theorem R_append_run {α : Type} {d : Kd α} {W : World} (base : Nat) (t ty e : TypeId) (z : Value) (bytes : Nat) (ht : Try.prog.underlying t = some (.slice e)) (hinfo : (Try.prog.info? e).map (fun i => (i.zero, i.size, i.bytes)) = some (some z, d.sz, bytes)) (hz : z.cells.size = d.sz) (hs0 : 0 < d.sz) (hb0 : 0 < bytes)
    (v : Value) (xs : List α) (p : α) (cs : List Value) (hp : d.M W base (fun _ => False) p cs) (HO : d.R e W base (fun _ => True) v xs) (hbase : base ≤ W.heap.size) (hl : (xs.length + 1) * bytes ≤ 140737488355328) :
    ∃ v1 w1, (Builtin.append_ #[t, t] ty #[v, .slice (some ⟨W.heap.size, 0, none⟩) 1 1]).run Try.prog (W.alloc (.cells cs.toArray e)) = .ok v1 w1 ∧ d.R e w1 base (fun _ => True) v1 (xs ++ [p]) ∧ (W.alloc (.cells cs.toArray e)).grownBy w1 v.ownBlock := by
  obtain ⟨h0, inner, hown, hr⟩ := HO
  obtain ⟨i0, hi, hzz⟩ := Option.map_eq_some_iff.1 hinfo
  simp only [Prod.mk.injEq] at hzz
  obtain ⟨hz0, hz1, hz2⟩ := hzz
  have hlen : xs.length + 1 ≤ 140737488355328 := Nat.le_trans (Nat.le_mul_of_pos_right _ hb0) hl
  obtain ⟨v1, w1, hrun, hown1, hg, _, hat⟩ := run_append_own_at (P := Try.prog) (W.alloc (.cells cs.toArray e)) base t ty e i0 z d.sz bytes ht hi hz0 hz1 hz2 hz hs0 v xs.length inner (hown.alloc _) ⟨W.heap.size, 0, none⟩ 1 1 cs (by rw [d.K_len (d.K_of_M hp)]; simp)
    (by simpa using World.news_of_block (cs := cs.toArray) (t := e) (fr := (0, 0)) (heap_alloc_new W (.cells cs.toArray e))) (d.K_one (d.K_of_M hp)) (by simp only [maxLen]; omega) hl (by simp; omega)
  have hg2 := World.grownBy.trans (World.grownBy_alloc W _ _) hg
  refine ⟨v1, w1, hrun, ?_, hg⟩
  refine Kd.R_appended (okp := fun _ => False) h0 hr hp (fun _ hk => hk.elim) (fun _ _ => trivial) hown1 hg2 ?_
  rcases hat with hat | hat
  · exact .inl hat
  · exact .inr ⟨_, hat, by simp⟩
end Go.Proofs.Ytjnhbalclimmnaa.PA
