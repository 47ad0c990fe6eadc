/- Plain laws of a plan: where records are right and pages may be, every put is a page; how many are put; what a leaf takes. -/
import Derived.Test.YtjnhbalclimmnaaN5
set_option linter.unusedSimpArgs false
set_option linter.unusedVariables false
namespace Go.Proofs.Ytjnhbalclimmnaa.PA
open Go Go.RowKit Go.Proofs.YtjnhbalclimmnaaW.PrintWords Go.Proofs.YtjnhbalclimmnaaW.PrintMore H L

/-- what a record's cell takes in a leaf -/
def wR (r : S45) : Nat := if r.f1.size ≤ 24 then 6 + r.f1.size else 8
def WR (l : List S45) : Nat := (l.map wR).sum
theorem wR_bd (r : S45) : 6 ≤ wR r ∧ wR r ≤ 30 := by unfold wR; split <;> omega
theorem WR_cons (r : S45) (l : List S45) : WR (r :: l) = wR r + WR l := by simp [WR]
theorem WR_append (a b : List S45) : WR (a ++ b) = WR a + WR b := by simp [WR]
theorem WR_len : ∀ l : List S45, 6 * l.length ≤ WR l
  | [] => by simp [WR]
  | r :: l => by have := WR_len l; have := wR_bd r; rw [WR_cons, List.length_cons]; omega
def CellOf (r : S45) (c : S61) : Prop := ∃ pg, (24 < r.f1.size → pageOk pg = true) ∧ c = cellP r pg
def All2 {α β : Type} (R : α → β → Prop) : List α → List β → Prop
  | [], [] => True
  | a :: l, b :: m => R a b ∧ All2 R l m
  | _, _ => False
theorem All2.nil_left {α β : Type} {R : α → β → Prop} {m : List β} (h : All2 R [] m) : m = [] := by cases m with
  | nil => rfl
  | cons b m => exact h.elim
theorem All2.nil_right {α β : Type} {R : α → β → Prop} {l : List α} (h : All2 R l []) : l = [] := by cases l with
  | nil => rfl
  | cons b m => exact h.elim
theorem All2.length {α β : Type} {R : α → β → Prop} : ∀ {l : List α} {m : List β}, All2 R l m → l.length = m.length
  | [], [], _ => rfl
  | a :: l, b :: m, h => by simp [All2.length h.2]
  | [], _ :: _, h => h.elim
  | _ :: _, [], h => h.elim
theorem All2.append {α β : Type} {R : α → β → Prop} : ∀ {l : List α} {m : List β} {l' : List α} {m' : List β}, All2 R l m → All2 R l' m' → All2 R (l ++ l') (m ++ m')
  | [], [], _, _, _, h => h
  | a :: l, b :: m, _, _, h, k => ⟨h.1, All2.append h.2 k⟩
  | [], _ :: _, _, _, h, _ => h.elim
  | _ :: _, [], _, _, h, _ => h.elim
theorem All2.mem_right {α β : Type} {R : α → β → Prop} : ∀ {l : List α} {m : List β}, All2 R l m → ∀ y ∈ m, ∃ x ∈ l, R x y
  | [], [], _, y, hy => by cases hy
  | a :: l, b :: m, h, y, hy => by
    rcases List.mem_cons.1 hy with rfl | hy
    · exact ⟨a, by simp, h.1⟩
    · obtain ⟨x, hx, hr⟩ := All2.mem_right h.2 y hy
      exact ⟨x, by simp [hx], hr⟩
  | [], _ :: _, h, _, _ => h.elim
  | _ :: _, [], h, _, _ => h.elim
theorem cell_right {r : S45} {c : S61} (h : CellOf r c) (hs : r.f1.size ≤ 900) : rightB c = true ∧ c.f0 = r.f0 ∧ (cellB c).length = wR r := by
  obtain ⟨pg, hp, rfl⟩ := h
  unfold cellP wR
  by_cases h1 : r.f1.size ≤ 24
  · rw [if_pos h1, if_pos h1]
    have : (r.f1.size : Int) ≤ 24 := by omega
    refine ⟨by simp [rightB, this], rfl, ?_⟩
    first | (simp [cellB, this, be_length]; done) | (simp [cellB, this, be_length]; omega)
  · rw [if_neg h1, if_neg h1]
    have h2 : ¬ (r.f1.size : Int) ≤ 24 := by omega
    have h3 : (r.f1.size : Int) ≤ 900 := by omega
    refine ⟨?_, rfl, ?_⟩
    · simp [rightB, h2, h3, hp (by omega)]
      decide
    · simp [cellB, h2, be_length]
theorem right_cons {a : Int} {r : S45} {l : List S45} (h : rightGo a (r :: l) = true) : a < r.f0 ∧ r.f0 ≤ 2147483647 ∧ r.f1.size ≤ 900 ∧ rightGo r.f0 l = true := by
  unfold rightGo at h
  by_cases h1 : r.f0 ≤ a
  · rw [if_pos h1] at h; cases h
  rw [if_neg h1] at h
  by_cases h2 : r.f0 > 2147483647
  · rw [if_pos h2] at h; cases h
  rw [if_neg h2] at h
  by_cases h3 : (r.f1.size : Int) > 900
  · rw [if_pos h3] at h; cases h
  rw [if_neg h3] at h
  exact ⟨by omega, by omega, by omega, h⟩
theorem right_mk {a : Int} {r : S45} {l : List S45} (h1 : a < r.f0) (h2 : r.f0 ≤ 2147483647) (h3 : r.f1.size ≤ 900) (h4 : rightGo r.f0 l = true) : rightGo a (r :: l) = true := by
  unfold rightGo
  rw [if_neg (by omega), if_neg (by omega), if_neg (by omega)]
  exact h4
theorem right_mono {a b : Int} (hab : a ≤ b) : ∀ {l : List S45}, rightGo b l = true → rightGo a l = true
  | [], _ => rfl
  | r :: l, h => by
    obtain ⟨h1, h2, h3, h4⟩ := right_cons h
    exact right_mk (by omega) h2 h3 h4
theorem right_append : ∀ {x y : List S45} {a : Int}, rightGo a (x ++ y) = true → rightGo a x = true ∧ rightGo a y = true
  | [], y, a, h => ⟨rfl, h⟩
  | r :: x, y, a, h => by
    obtain ⟨h1, h2, h3, h4⟩ := right_cons (l := x ++ y) h
    obtain ⟨h5, h6⟩ := right_append h4
    exact ⟨right_mk h1 h2 h3 h5, right_mono (by omega) h6⟩
theorem cells_some : ∀ {rs : List S45} {cs : List S61} {a : Int}, All2 CellOf rs cs → rightGo a rs = true → ∃ t, cellsB a cs = some t ∧ t.length = WR rs
  | [], [], _, _, _ => ⟨[], rfl, rfl⟩
  | r :: rs, c :: cs, a, h, hr => by
    obtain ⟨h1, h2, h3, h4⟩ := right_cons hr
    obtain ⟨g1, g2, g3⟩ := cell_right h.1 h3
    obtain ⟨t, ht, hl⟩ := cells_some h.2 h4
    refine ⟨cellB c ++ t, ?_, ?_⟩
    · unfold cellsB
      have : (keyOk c.f0 a && rightB c) = true := by rw [g1, g2]; simp [keyOk, h1, h2]
      rw [if_pos this, g2, ht]
      rfl
    · rw [List.length_append, g3, hl, WR_cons]
  | [], _ :: _, _, h, _ => h.elim
  | _ :: _, [], _, h, _ => h.elim
theorem leaf_iff {rs : List S45} {cs : List S61} (h : All2 CellOf rs cs) (hr : rightGo (-1) rs = true) : (leafB cs).isSome = decide (WR rs ≤ 126) := by
  have hl := h.length
  have hw := WR_len rs
  obtain ⟨t, ht, htl⟩ := cells_some h hr
  unfold leafB
  by_cases h1 : cs.length ≤ 128
  · rw [if_pos h1, ht, Option.bind_some]
    unfold fullPage
    have hz : (⟨(76 :: UInt8.ofNat cs.length :: t).toArray⟩ : ByteArray).size = 2 + WR rs := by
      simp [ByteArray.size, htl]; omega
    rw [hz]
    by_cases h2 : WR rs ≤ 126
    · rw [if_pos (by omega), decide_eq_true h2]; rfl
    · rw [if_neg (by omega), decide_eq_false h2]; rfl
  · rw [if_neg h1, decide_eq_false (by omega)]; rfl
/-- records, as many in each as have room -/
def rleaves (cur : List S45) : List S45 → List (List S45)
  | [] => if cur = [] then [] else [cur]
  | r :: rs => if WR (cur ++ [r]) ≤ 126 then rleaves (cur ++ [r]) rs else cur :: rleaves [r] rs
theorem leaves_rec : ∀ (rs : List S45) (cs : List S61) (curR : List S45) (cur : List S61), All2 CellOf curR cur → All2 CellOf rs cs → rightGo (-1) (curR ++ rs) = true → All2 (All2 CellOf) (rleaves curR rs) (leavesGo cur cs)
  | [], [], curR, cur, h, _, hr => by
    unfold rleaves leavesGo
    by_cases hc : curR = []
    · subst hc
      rw [h.nil_left, if_pos rfl, if_pos rfl]
      trivial
    · have : cur ≠ [] := by rintro rfl; exact hc h.nil_right
      rw [if_neg hc, if_neg this]
      exact ⟨h, trivial⟩
  | r :: rs, c :: cs, curR, cur, h, k, hr => by
    have h1 : All2 CellOf (curR ++ [r]) (cur ++ [c]) := h.append ⟨k.1, trivial⟩
    have hr1 : rightGo (-1) ((curR ++ [r]) ++ rs) = true := by simpa using hr
    unfold rleaves leavesGo
    rw [leaf_iff h1 (right_append hr1).1]
    by_cases hw : WR (curR ++ [r]) ≤ 126
    · rw [if_pos hw, if_pos (by simpa using hw)]
      exact leaves_rec rs cs _ _ h1 k.2 hr1
    · rw [if_neg hw, if_neg (by simpa using hw)]
      exact ⟨h, leaves_rec rs cs [r] [c] ⟨k.1, trivial⟩ k.2 (by simpa using (right_append hr).2)⟩
  | [], _ :: _, _, _, _, h, _ => h.elim
  | _ :: _, [], _, _, _, h, _ => h.elim
theorem rleaves_flat : ∀ (rs cur : List S45), (rleaves cur rs).flatten = cur ++ rs
  | [], cur => by
    unfold rleaves
    split
    · next h => simp [h]
    · simp
  | r :: rs, cur => by
    unfold rleaves
    split
    · rw [rleaves_flat rs]; simp
    · rw [List.flatten_cons, rleaves_flat rs]; simp
theorem rleaves_ne : ∀ (rs cur : List S45), (cur = [] ∨ cur ≠ []) → ∀ x ∈ rleaves cur rs, x ≠ []
  | [], cur, _, x, hx => by
    unfold rleaves at hx
    split at hx
    · cases hx
    · next h => rw [List.mem_singleton.1 hx]; exact h
  | r :: rs, cur, hc, x, hx => by
    unfold rleaves at hx
    split at hx
    · exact rleaves_ne rs _ (.inr (by simp)) x hx
    · next h =>
      rcases List.mem_cons.1 hx with rfl | hx
      · rintro rfl
        have := (wR_bd r).2
        simp [WR] at h
        omega
      · exact rleaves_ne rs _ (.inr (by simp)) x hx
theorem rleaves_fit : ∀ (rs cur : List S45), WR cur ≤ 126 → ∀ x ∈ rleaves cur rs, WR x ≤ 126
  | [], cur, hc, x, hx => by
    unfold rleaves at hx
    split at hx
    · cases hx
    · rw [List.mem_singleton.1 hx]; exact hc
  | r :: rs, cur, hc, x, hx => by
    unfold rleaves at hx
    split at hx
    · next h => exact rleaves_fit rs _ h x hx
    · rcases List.mem_cons.1 hx with rfl | hx
      · exact hc
      · exact rleaves_fit rs _ (by have := (wR_bd r).2; simp [WR]; omega) x hx
theorem right_flat : ∀ {R : List (List S45)} {a : Int}, rightGo a R.flatten = true → ∀ x ∈ R, rightGo a x = true
  | [], _, _, x, hx => by cases hx
  | y :: R, a, h, x, hx => by
    rw [List.flatten_cons] at h
    obtain ⟨h1, h2⟩ := right_append h
    rcases List.mem_cons.1 hx with rfl | hx
    · exact h1
    · exact right_flat h2 x hx
/-- Every leaf is a page. -/
theorem leaves_some {rs : List S45} {cs : List S61} (h : All2 CellOf rs cs) (hr : rightGo (-1) rs = true) : ∀ c ∈ leavesP cs, (leafB c).isSome = true := by
  intro c hc
  have hA := leaves_rec rs cs [] [] trivial h (by simpa using hr)
  obtain ⟨x, hx, hxc⟩ := hA.mem_right c hc
  have h1 : rightGo (-1) x = true := right_flat (R := rleaves [] rs) (by rw [rleaves_flat]; simpa using hr) x hx
  rw [leaf_iff hxc h1]
  exact decide_eq_true (rleaves_fit rs [] (by simp [WR]) x hx)
theorem leaves_count {rs : List S45} {cs : List S61} (h : All2 CellOf rs cs) (hr : rightGo (-1) rs = true) : (leavesP cs).length = (rleaves [] rs).length :=
  (leaves_rec rs cs [] [] trivial h (by simpa using hr)).length.symm
theorem cells_two : ∀ l : List S45, All2 CellOf l (l.map (cellP · 2))
  | [] => trivial
  | r :: l => ⟨⟨2, fun _ => by decide, rfl⟩, cells_two l⟩
theorem chains_cells : ∀ (l : List S45) (p : PS), PGood p → (chainsGo p l).1.e = 0 → All2 CellOf l (chainsGo p l).2
  | [], p, _, _ => trivial
  | r :: l, p, h, he => by
    unfold chainsGo at he ⊢
    by_cases hb : 24 < r.f1.size
    · rw [if_pos hb] at he ⊢
      obtain ⟨h1, h2⟩ := chainP_good h (piecesP r.f1)
      have e1 : (chainP p (piecesP r.f1)).1.e = 0 := by
        by_cases hc : (chainP p (piecesP r.f1)).1.e = 0
        · exact hc
        · dsimp only at he; rw [chainsGo_err hc] at he; exact he
      exact ⟨⟨_, fun _ => (h2 e1).2 (piecesP_ne hb), rfl⟩, chains_cells l _ h1 he⟩
    · rw [if_neg hb] at he ⊢
      exact ⟨⟨2, fun h => absurd h hb, rfl⟩, chains_cells l _ h he⟩

/-- no error, or no page is free -/
def Vd (p : PS) : Prop := p.e = 0 ∨ p.e = 8
theorem put_Vd {p : PS} (h : Vd p) (b : ByteArray) : Vd (putP p b true).1 := by
  by_cases he : p.e = 0
  · cases hk : p.known b with
    | some n => rw [putP_known he hk]; exact h
    | none =>
      cases hf : p.free with
      | nil => rw [putP_full he hk hf]; exact .inr rfl
      | cons n r => rw [putP_new he hk hf]; exact .inl rfl
  · rw [putP_err he]; exact h
theorem chainB_ok {next : Int} {b : ByteArray} (hn : next = 0 ∨ pageOk next = true) (h0 : 0 < b.size ∧ b.size ≤ 120) : ∃ r, chainB next b = some r := by
  have hok : chainOk next b = true := by
    unfold chainOk
    rcases hn with h | h <;> simp [h, h0.1, h0.2]
  have hsz : (⟨(chainL next b).toArray⟩ : ByteArray).size ≤ 128 := by
    have e : (chainL next b).length = 4 + b.size := by
      unfold chainL
      rw [List.length_cons, List.length_append, List.length_cons, be_length, ← Lib.size_eq]
      omega
    have e2 : (⟨(chainL next b).toArray⟩ : ByteArray).size = (chainL next b).length := by rw [Lib.size_eq]
    omega
  unfold chainB fullPage
  rw [hok, if_pos rfl, if_pos hsz]
  exact ⟨_, rfl⟩
theorem chain_next {p : PS} (h : PGood p) (L : List ByteArray) (he : (chainP p L).1.e = 0) : (chainP p L).2 = 0 ∨ pageOk (chainP p L).2 = true := by
  cases L with
  | nil => exact .inl rfl
  | cons b L => exact .inr (((chainP_good h (b :: L)).2 he).2 (by simp))
theorem chain_Vd {p : PS} (h : PGood p) (hv : Vd p) : ∀ L : List ByteArray, (∀ x ∈ L, 0 < x.size ∧ x.size ≤ 120) → Vd (chainP p L).1
  | [], _ => hv
  | b :: L, hs => by
    have h1 := chain_Vd h hv L (fun x hx => hs x (by simp [hx]))
    rw [chainP_cons]
    by_cases he : (chainP p L).1.e = 0
    · obtain ⟨r, hr⟩ := chainB_ok (chain_next h L he) (hs b (by simp))
      rw [hr]
      exact put_Vd h1 r
    · rw [putP_err he]; exact h1
theorem pieces_sizes (b : ByteArray) : ∀ x ∈ piecesP b, 0 < x.size ∧ x.size ≤ 120 := by
  have : ∀ (n : Nat) (l : List UInt8), ∀ x ∈ piecesGo n l, 0 < x.size ∧ x.size ≤ 120 := by
    intro n
    induction n with
    | zero => intro l x hx; simp [piecesGo] at hx
    | succ n ih =>
      intro l x hx
      unfold piecesGo at hx
      split at hx
      · cases hx
      · next hne =>
        rcases List.mem_cons.1 hx with rfl | hx
        · have : 0 < l.length := List.length_pos_iff.2 hne
          simp [ByteArray.size]
          omega
        · exact ih _ x hx
  exact this _ _
theorem chains_Vd : ∀ (l : List S45) {p : PS}, PGood p → Vd p → Vd (chainsGo p l).1
  | [], _, _, h => h
  | r :: l, p, hg, h => by
    unfold chainsGo
    split
    · exact chains_Vd l (chainP_good hg _).1 (chain_Vd hg h _ (pieces_sizes _))
    · exact chains_Vd l hg h
theorem slots_Vd : ∀ (L : List (List S61)) {p : PS}, (∀ c ∈ L, (leafB c).isSome = true) → Vd p → Vd (slotsGo p L).1
  | [], _, _, h => h
  | c :: L, p, hL, h => by
    unfold slotsGo
    split
    · obtain ⟨r, hr⟩ := Option.isSome_iff_exists.1 (hL c (by simp))
      rw [hr]
      exact slots_Vd L (fun x hx => hL x (by simp [hx])) (put_Vd h r)
    · exact slots_Vd L (fun x hx => hL x (by simp [hx])) h
theorem slots_good : ∀ (L : List (List S61)) {p : PS}, PGood p → PGood (slotsGo p L).1
  | [], _, h => h
  | c :: L, p, h => by
    unfold slotsGo
    split
    · exact slots_good L (putP_good h _ _).1
    · exact slots_good L h
theorem slots_keys : ∀ (R : List (List S45)) (L : List (List S61)) {p : PS} {a : Int}, All2 (All2 CellOf) R L → (∀ x ∈ R, x ≠ []) → rightGo a R.flatten = true → PGood p → (slotsGo p L).1.e = 0 →
    ∃ t, slotsB a (slotsGo p L).2 = some t ∧ t.length = 6 * L.length ∧ (slotsGo p L).2.length = L.length
  | [], [], _, _, _, _, _, _, _ => ⟨[], rfl, rfl, rfl⟩
  | x :: R, c :: L, p, a, h, hne, hr, hg, he => by
    by_cases hp : p.e = 0
    · unfold slotsGo at he ⊢
      rw [if_pos hp] at he ⊢
      obtain ⟨g1, g2⟩ := putP_good hg (pageRes (leafB c)).1 (pageRes (leafB c)).2
      have e1 : (putP p (pageRes (leafB c)).1 (pageRes (leafB c)).2).1.e = 0 := by
        by_cases hc : (putP p (pageRes (leafB c)).1 (pageRes (leafB c)).2).1.e = 0
        · exact hc
        · dsimp only at he; rw [slotsGo_err hc] at he; exact he
      rw [List.flatten_cons] at hr
      obtain ⟨r0, x', rfl⟩ : ∃ r0 x', x = r0 :: x' := by
        cases x with
        | nil => exact absurd rfl (hne [] (by simp))
        | cons r0 x' => exact ⟨r0, x', rfl⟩
      obtain ⟨c0, c', rfl⟩ : ∃ c0 c', c = c0 :: c' := by
        cases c with
        | nil => exact h.1.elim
        | cons c0 c' => exact ⟨c0, c', rfl⟩
      obtain ⟨k1, k2, k3, k4⟩ := right_cons (l := x' ++ R.flatten) hr
      have k5 : rightGo r0.f0 R.flatten = true := (right_append k4).2
      have hk : (rd_T61 (c0 :: c') 0).f0 = r0.f0 := (cell_right h.1.1 k3).2.1
      obtain ⟨t, h1, h2, h3⟩ := slots_keys R L h.2 (fun y hy => hne y (by simp [hy])) k5 g1 he
      rw [hk]
      refine ⟨slotB ⟨r0.f0, (putP p (pageRes (leafB (c0 :: c'))).1 (pageRes (leafB (c0 :: c'))).2).2⟩ ++ t, ?_, ?_, ?_⟩
      · unfold slotsB
        have : (keyOk r0.f0 a && pageOk (putP p (pageRes (leafB (c0 :: c'))).1 (pageRes (leafB (c0 :: c'))).2).2) = true := by
          rw [(g2 e1).2]; simp [keyOk, k1, k2]
        dsimp only
        rw [if_pos this, h1]
        rfl
      · rw [List.length_append, h2, List.length_cons]
        simp [slotB, be_length]
        omega
      · rw [List.length_cons, List.length_cons, h3]
    · rw [slotsGo_err hp] at he
      exact absurd he hp
  | [], _ :: _, _, _, h, _, _, _, _ => h.elim
  | _ :: _, [], _, _, h, _, _, _, _ => h.elim
theorem index_some {s : List S76} {t : List UInt8} (h : slotsB (-1) s = some t) (ht : t.length = 6 * s.length) (hl : s.length ≤ 21) : (indexB s).isSome = true := by
  unfold indexB
  rw [if_pos hl, h, Option.bind_some]
  unfold fullPage
  rw [if_pos]
  · rfl
  · simp [ByteArray.size, ht]; omega
/-- What is known of a plan that is right: its parts. -/
theorem plan_parts {l : List S45} {p : PS} (hr : rightGo (-1) l = true) (hg : PGood p) (hv : Vd p) (h21 : (rleaves [] l).length ≤ 21) :
    Vd (chainsGo p l).1 ∧ PGood (chainsGo p l).1 ∧ ((chainsGo p l).1.e = 0 → All2 CellOf l (chainsGo p l).2 ∧ All2 (All2 CellOf) (rleaves [] l) (leavesP (chainsGo p l).2) ∧ (∀ c ∈ leavesP (chainsGo p l).2, (leafB c).isSome = true) ∧
      Vd (slotsGo (chainsGo p l).1 (leavesP (chainsGo p l).2)).1 ∧ ((slotsGo (chainsGo p l).1 (leavesP (chainsGo p l).2)).1.e = 0 → (indexB (slotsGo (chainsGo p l).1 (leavesP (chainsGo p l).2)).2).isSome = true)) := by
  have h1 := chains_Vd l hg hv
  have h2 := (chains_good l p hg (fun x hx => by have := right_all l (-1) hr x hx; omega)).1
  refine ⟨h1, h2, fun he => ?_⟩
  have h3 := chains_cells l p hg he
  have h4 : All2 (All2 CellOf) (rleaves [] l) (leavesP (chainsGo p l).2) := leaves_rec l _ [] [] trivial h3 (by simpa using hr)
  have h5 := leaves_some h3 hr
  refine ⟨h3, h4, h5, slots_Vd _ h5 h1, fun he2 => ?_⟩
  obtain ⟨t, g1, g2, g3⟩ := slots_keys _ _ h4 (rleaves_ne l [] (.inl rfl)) (by rw [rleaves_flat]; simpa using hr) h2 he2
  have hlen : (rleaves [] l).length = (leavesP (chainsGo p l).2).length := h4.length
  exact index_some g1 (by rw [g2, g3]) (by rw [g3]; omega)
theorem plan_Vd {l : List S45} {p : PS} (hr : rightGo (-1) l = true) (hg : PGood p) (hv : Vd p) (h21 : (rleaves [] l).length ≤ 21) : (planGo p l).2.2 = 0 ∨ (planGo p l).2.2 = 8 := by
  obtain ⟨h1, h2, h3⟩ := plan_parts hr hg hv h21
  have key : Vd (putP (slotsGo (chainsGo p l).1 (leavesP (chainsGo p l).2)).1 (pageRes (indexB (slotsGo (chainsGo p l).1 (leavesP (chainsGo p l).2)).2)).1 (pageRes (indexB (slotsGo (chainsGo p l).1 (leavesP (chainsGo p l).2)).2)).2).1 := by
    by_cases he : (chainsGo p l).1.e = 0
    · obtain ⟨_, _, _, h4, h5⟩ := h3 he
      by_cases he2 : (slotsGo (chainsGo p l).1 (leavesP (chainsGo p l).2)).1.e = 0
      · obtain ⟨r, hr⟩ := Option.isSome_iff_exists.1 (h5 he2)
        rw [hr]
        exact put_Vd h4 r
      · rw [putP_err he2]; exact h4
    · rw [slotsGo_err he, putP_err he]; exact h1
  unfold planGo
  dsimp only
  rcases key with h | h
  · rw [if_pos h]; exact .inl rfl
  · rw [if_neg (by rw [h]; decide)]; exact .inr h

/-! ### How many pages are put -/
theorem put_bud {p : PS} (he : p.e = 0) (b : ByteArray) (hf : 1 ≤ p.free.length) : (putP p b true).1.e = 0 ∧ p.free.length ≤ (putP p b true).1.free.length + 1 := by
  cases hk : p.known b with
  | some n => rw [putP_known he hk]; exact ⟨he, Nat.le_succ _⟩
  | none =>
    cases hc : p.free with
    | nil => rw [hc] at hf; exact absurd hf (by decide)
    | cons n r => rw [putP_new he hk hc]; exact ⟨rfl, by simp⟩
theorem chain_bud {p : PS} (h : PGood p) (he : p.e = 0) : ∀ L : List ByteArray, (∀ x ∈ L, 0 < x.size ∧ x.size ≤ 120) → L.length ≤ p.free.length → (chainP p L).1.e = 0 ∧ p.free.length ≤ (chainP p L).1.free.length + L.length
  | [], _, _ => ⟨he, Nat.le_refl _⟩
  | b :: L, hs, hl => by
    simp only [List.length_cons] at hl
    obtain ⟨h1, h2⟩ := chain_bud h he L (fun x hx => hs x (by simp [hx])) (by omega)
    obtain ⟨r, hr⟩ := chainB_ok (chain_next h L h1) (hs b (by simp))
    rw [chainP_cons, hr]
    obtain ⟨h3, h4⟩ := put_bud h1 r (by omega)
    exact ⟨h3, by simp only [pageRes, List.length_cons]; omega⟩
/-- how many pieces -/
def pcs (l : List S45) : Nat := (l.map fun r => if 24 < r.f1.size then (piecesP r.f1).length else 0).sum
theorem pcs_cons (r : S45) (l : List S45) : pcs (r :: l) = (if 24 < r.f1.size then (piecesP r.f1).length else 0) + pcs l := by simp [pcs]
theorem chains_bud : ∀ (l : List S45) {p : PS}, PGood p → p.e = 0 → pcs l ≤ p.free.length → (chainsGo p l).1.e = 0 ∧ p.free.length ≤ (chainsGo p l).1.free.length + pcs l
  | [], _, _, he, _ => ⟨he, by simp [chainsGo, pcs]⟩
  | r :: l, p, hg, he, hl => by
    rw [pcs_cons] at hl ⊢
    unfold chainsGo
    by_cases hb : 24 < r.f1.size
    · rw [if_pos hb] at hl
      rw [if_pos hb, if_pos hb]
      obtain ⟨h1, h2⟩ := chain_bud hg he (piecesP r.f1) (pieces_sizes _) (by omega)
      obtain ⟨h3, h4⟩ := chains_bud l (chainP_good hg _).1 h1 (by omega)
      exact ⟨h3, by dsimp only; omega⟩
    · rw [if_neg hb] at hl
      rw [if_neg hb, if_neg hb]
      obtain ⟨h3, h4⟩ := chains_bud l hg he (by omega)
      exact ⟨h3, by dsimp only; omega⟩
theorem slots_bud : ∀ (L : List (List S61)) {p : PS}, (∀ c ∈ L, (leafB c).isSome = true) → p.e = 0 → L.length ≤ p.free.length → (slotsGo p L).1.e = 0 ∧ p.free.length ≤ (slotsGo p L).1.free.length + L.length
  | [], _, _, he, _ => ⟨he, by simp [slotsGo]⟩
  | c :: L, p, hL, he, hl => by
    simp only [List.length_cons] at hl
    unfold slotsGo
    rw [if_pos he]
    obtain ⟨r, hr⟩ := Option.isSome_iff_exists.1 (hL c (by simp))
    rw [hr]
    obtain ⟨h1, h2⟩ := put_bud he r (by omega)
    obtain ⟨h3, h4⟩ := slots_bud L (fun x hx => hL x (by simp [hx])) h1 (by omega)
    exact ⟨h3, by simp only [pageRes, List.length_cons]; omega⟩
/-- Where there are pages enough, it is told. -/
theorem plan_enough {l : List S45} {p : PS} (hr : rightGo (-1) l = true) (hg : PGood p) (he : p.e = 0) (h21 : (rleaves [] l).length ≤ 21) (hf : pcs l + (rleaves [] l).length + 1 ≤ p.free.length) : (planGo p l).2.2 = 0 := by
  obtain ⟨h1, h2, h3⟩ := plan_parts hr hg (.inl he) h21
  obtain ⟨e1, f1⟩ := chains_bud l hg he (by omega)
  obtain ⟨_, h4, h5, _, h7⟩ := h3 e1
  have hlen := h4.length
  obtain ⟨e2, f2⟩ := slots_bud (leavesP (chainsGo p l).2) h5 e1 (by omega)
  obtain ⟨r, hr⟩ := Option.isSome_iff_exists.1 (h7 e2)
  obtain ⟨e3, _⟩ := put_bud e2 r (by omega)
  unfold planGo
  dsimp only
  rw [hr]
  have e4 : (putP (slotsGo (chainsGo p l).1 (leavesP (chainsGo p l).2)).1 (pageRes (some r)).1 (pageRes (some r)).2).1.e = 0 := e3
  simp only [e4, if_true]
theorem pieces_count (b : ByteArray) : (piecesP b).length = (b.size + 119) / 120 := by
  have : ∀ (n : Nat) (l : List UInt8), l.length ≤ n → (piecesGo n l).length = (l.length + 119) / 120 := by
    intro n
    induction n with
    | zero =>
      intro l hl
      obtain rfl : l = [] := List.eq_nil_of_length_eq_zero (by omega)
      simp [piecesGo]
    | succ n ih =>
      intro l hl
      unfold piecesGo
      by_cases hne : l = []
      · rw [if_pos hne, hne]; simp
      · rw [if_neg hne, List.length_cons, ih _ (by rw [List.length_drop]; omega), List.length_drop]
        have : 0 < l.length := List.length_pos_iff.2 hne
        omega
  unfold piecesP
  rw [this _ _ (by rw [← Lib.size_eq]; exact Nat.le_refl _), ← Lib.size_eq]
theorem good_start {h : List S28} {f : List Int} (hm : mayB h f = true) : PGood ⟨knownGo (fun _ => none) h, f, [], 0⟩ :=
  ⟨knownGo_good h _ (fun b n hb => by cases hb) (may_have hm).1, (may_have hm).2⟩

/-! ### How many pages are written -/
/-- a leaf's first key, as bytes -/
def keyB (s : ByteArray) : List UInt8 := (s.data.toList.drop 2).take 4
theorem leafB_key {c : S61} {r : List S61} {s : ByteArray} (h : leafB (c :: r) = some s) : keyB s = be 4 c.f0 := by
  unfold leafB at h
  split at h
  · cases hc : cellsB (-1) (c :: r) with
    | none => rw [hc] at h; cases h
    | some t =>
      rw [hc, Option.bind_some] at h
      unfold cellsB at hc
      split at hc
      · cases hd : cellsB c.f0 r with
        | none => rw [hd] at hc; cases hc
        | some u =>
          rw [hd] at hc
          injection hc with hc
          unfold fullPage at h
          split at h
          · injection h with h
            rw [← h, ← hc]
            unfold keyB cellB
            simp [ByteArray.data_append, be]
          · cases h
      · cases hc
  · cases h
theorem be4_inj {a b : Int} (ha : 0 ≤ a ∧ a ≤ 2147483647) (hb : 0 ≤ b ∧ b ≤ 2147483647) (h : be 4 a = be 4 b) : a = b := by
  have g : ∀ x y : Int, 0 ≤ x → x < 256 → 0 ≤ y → y < 256 → UInt8.ofNat x.toNat = UInt8.ofNat y.toNat → x = y := by
    intro x y h1 h2 h3 h4 h5
    have := congrArg UInt8.toNat h5
    simp at this
    omega
  simp only [be, List.cons.injEq, and_true] at h
  obtain ⟨h1, h2, h3, h4⟩ := h
  have e1 := g _ _ (by omega) (by omega) (by omega) (by omega) h1
  have e2 := g _ _ (by omega) (by omega) (by omega) (by omega) h2
  have e3 := g _ _ (by omega) (by omega) (by omega) (by omega) h3
  have e4 := g _ _ (by omega) (by omega) (by omega) (by omega) h4
  omega
theorem put_knows {p : PS} {o : Option ByteArray} {s : ByteArray} {n : Int} (h : (putP p (pageRes o).1 (pageRes o).2).1.known s = some n) : p.known s = some n ∨ o = some s := by
  by_cases he : p.e = 0
  · cases o with
    | none => rw [pageRes, putP_false he] at h; exact .inl h
    | some b =>
      rw [pageRes] at h
      cases hk : p.known b with
      | some m => rw [putP_known he hk] at h; exact .inl h
      | none =>
        cases hf : p.free with
        | nil => rw [putP_full he hk hf] at h; exact .inl h
        | cons m r =>
          rw [putP_new he hk hf] at h
          by_cases e : s = b
          · exact .inr (by rw [e])
          · simp [e] at h; exact .inl h
  · rw [putP_err he] at h; exact .inl h
theorem chain_knows {p : PS} : ∀ (L : List ByteArray) {s : ByteArray} {n : Int}, (chainP p L).1.known s = some n → p.known s = some n ∨ hd s = 67
  | [], s, n, h => .inl h
  | b :: L, s, n, h => by
    rw [chainP_cons] at h
    rcases put_knows h with h | h
    · exact chain_knows L h
    · exact .inr (chainB_hd h)
theorem chains_knows : ∀ (l : List S45) {p : PS} {s : ByteArray} {n : Int}, (chainsGo p l).1.known s = some n → p.known s = some n ∨ hd s = 67
  | [], p, s, n, h => .inl h
  | r :: l, p, s, n, h => by
    unfold chainsGo at h
    split at h
    · rcases chains_knows l h with h | h
      · exact chain_knows _ h
      · exact .inr h
    · exact chains_knows l h
/-- known are pieces, and leaves that begin with one of S -/
def KC (p : PS) (S : List Int) : Prop := ∀ s n, p.known s = some n → hd s = 67 ∨ (hd s = 76 ∧ ∃ k ∈ S, keyB s = be 4 k)
theorem put_new_count {p : PS} {b : ByteArray} (he : (putP p b true).1.e = 0) (hk : p.known b = none) : (putP p b true).1.out.length = p.out.length + 1 := by
  have h := (putP_ok he).1
  cases hf : p.free with
  | nil => rw [putP_full h hk hf] at he; cases he
  | cons n r => rw [putP_new h hk hf]; simp
theorem slots_count : ∀ (R : List (List S45)) (L : List (List S61)) {p : PS} {a : Int} {S : List Int}, All2 (All2 CellOf) R L → (∀ x ∈ R, x ≠ []) → -1 ≤ a → rightGo a R.flatten = true → (∀ k ∈ S, 0 ≤ k ∧ k ≤ a) → KC p S → (∀ c ∈ L, (leafB c).isSome = true) → (slotsGo p L).1.e = 0 →
    (slotsGo p L).1.out.length = p.out.length + L.length ∧ ∀ s n, (slotsGo p L).1.known s = some n → hd s = 67 ∨ hd s = 76
  | [], [], p, a, S, _, _, _, _, _, hK, _, _ => ⟨rfl, fun s n h => by
      rcases hK s n h with h | h
      · exact .inl h
      · exact .inr h.1⟩
  | x :: R, c :: L, p, a, S, h, hne, ha, hr, hS, hK, hL, he => by
    by_cases hp : p.e = 0
    · unfold slotsGo at he ⊢
      rw [if_pos hp] at he ⊢
      obtain ⟨s, hs⟩ := Option.isSome_iff_exists.1 (hL c (by simp))
      have e1 : (putP p (pageRes (leafB c)).1 (pageRes (leafB c)).2).1.e = 0 := by
        by_cases hc : (putP p (pageRes (leafB c)).1 (pageRes (leafB c)).2).1.e = 0
        · exact hc
        · dsimp only at he; rw [slotsGo_err hc] at he; exact he
      rw [List.flatten_cons] at hr
      obtain ⟨r0, x', rfl⟩ : ∃ r0 x', x = r0 :: x' := by
        cases x with
        | nil => exact absurd rfl (hne [] (by simp))
        | cons r0 x' => exact ⟨r0, x', rfl⟩
      obtain ⟨c0, c', rfl⟩ : ∃ c0 c', c = c0 :: c' := by
        cases c with
        | nil => exact h.1.elim
        | cons c0 c' => exact ⟨c0, c', rfl⟩
      obtain ⟨k1, k2, k3, k4⟩ := right_cons (l := x' ++ R.flatten) hr
      have k5 : rightGo r0.f0 R.flatten = true := (right_append k4).2
      have hck : c0.f0 = r0.f0 := (cell_right h.1.1 k3).2.1
      have hsk : keyB s = be 4 r0.f0 := by rw [leafB_key hs, hck]
      have hsh := leafB_hd hs
      have hno : p.known s = none := by
        cases hc : p.known s with
        | none => rfl
        | some n =>
          rcases hK s n hc with g | ⟨_, k, hk, g⟩
          · rw [hsh] at g; exact absurd g (by decide)
          · have hb := hS k hk
            have := be4_inj (a := r0.f0) (b := k) (by omega) (by omega) (by rw [← hsk, g])
            omega
      have hcount : (putP p (pageRes (leafB (c0 :: c'))).1 (pageRes (leafB (c0 :: c'))).2).1.out.length = p.out.length + 1 := by
        rw [hs] at e1 ⊢
        exact put_new_count e1 hno
      have hK2 : KC (putP p (pageRes (leafB (c0 :: c'))).1 (pageRes (leafB (c0 :: c'))).2).1 (r0.f0 :: S) := by
        intro s' n' h'
        rcases put_knows h' with h' | h'
        · rcases hK s' n' h' with g | ⟨g1, k, hk, g2⟩
          · exact .inl g
          · exact .inr ⟨g1, k, by simp [hk], g2⟩
        · exact .inr ⟨leafB_hd h', r0.f0, by simp, by rw [leafB_key h', hck]⟩
      obtain ⟨g1, g2⟩ := slots_count R L h.2 (fun y hy => hne y (by simp [hy])) (by omega) k5 (fun k hk => by
        rcases List.mem_cons.1 hk with rfl | hk
        · omega
        · have := hS k hk; omega) hK2 (fun y hy => hL y (by simp [hy])) he
      exact ⟨by dsimp only; rw [g1, hcount, List.length_cons]; omega, g2⟩
    · rw [slotsGo_err hp] at he
      exact absurd he hp
  | [], _ :: _, _, _, _, h, _, _, _, _, _, _, _ => h.elim
  | _ :: _, [], _, _, _, h, _, _, _, _, _, _, _ => h.elim
/-- Of a plan over no pages: what is written are the pieces' pages, the leaves, the index. -/
theorem plan_count {l : List S45} {f : List Int} {o : List S28} {rt : Int} (hg : planGo ⟨fun _ => none, f, [], 0⟩ l = (o, rt, 0)) (hr : rightGo (-1) l = true) (hf : ∀ n ∈ f, pageOk n = true) :
    (chainsGo ⟨fun _ => none, f, [], 0⟩ l).1.e = 0 ∧ o.length = (chainsGo ⟨fun _ => none, f, [], 0⟩ l).1.out.length + (rleaves [] l).length + 1 := by
  have hG : PGood ⟨fun _ => none, f, [], 0⟩ := ⟨fun b n hb => (by cases hb), hf⟩
  have hX : ∀ s n, (chainsGo ⟨fun _ => none, f, [], 0⟩ l).1.known s = some n → hd s = 67 := fun s n h => by
    rcases chains_knows l h with h | h
    · cases h
    · exact h
  have hcg := chains_good l _ hG (fun x hx => by have := right_all l (-1) hr x hx; omega)
  have hcc := chains_cells l _ hG
  generalize (⟨fun _ => none, f, [], 0⟩ : PS) = p at hg hG hX hcg hcc ⊢
  unfold planGo at hg
  dsimp only at hg
  by_cases he : (putP (slotsGo (chainsGo p l).1 (leavesP (chainsGo p l).2)).1 (pageRes (indexB (slotsGo (chainsGo p l).1 (leavesP (chainsGo p l).2)).2)).1 (pageRes (indexB (slotsGo (chainsGo p l).1 (leavesP (chainsGo p l).2)).2)).2).1.e = 0
  · simp only [he, if_true] at hg
    injection hg with g1 _
    obtain ⟨e2, his, _, _⟩ := putP_ok he
    have e1 : (chainsGo p l).1.e = 0 := by
      by_cases hc : (chainsGo p l).1.e = 0
      · exact hc
      · rw [slotsGo_err hc] at e2; exact e2
    refine ⟨e1, ?_⟩
    have hc := hcc e1
    have h4 : All2 (All2 CellOf) (rleaves [] l) (leavesP (chainsGo p l).2) := leaves_rec l _ [] [] trivial hc (by simpa using hr)
    have hlen : (rleaves [] l).length = (leavesP (chainsGo p l).2).length := h4.length
    obtain ⟨n1, n2⟩ := slots_count _ _ (S := []) h4 (rleaves_ne l [] (.inl rfl)) (Int.le_refl _) (by rw [rleaves_flat]; simpa using hr) (fun k hk => by cases hk) (fun s n h => .inl (hX s n h)) (leaves_some hc hr) e2
    obtain ⟨r, hix⟩ : ∃ r, indexB (slotsGo (chainsGo p l).1 (leavesP (chainsGo p l).2)).2 = some r := by
      cases hi : indexB (slotsGo (chainsGo p l).1 (leavesP (chainsGo p l).2)).2 with
      | none => rw [hi] at his; cases his
      | some r => exact ⟨r, rfl⟩
    rw [hix] at g1 he
    rw [← g1]
    rw [show (putP (slotsGo (chainsGo p l).1 (leavesP (chainsGo p l).2)).1 (pageRes (some r)).1 (pageRes (some r)).2).1.out.length = (slotsGo (chainsGo p l).1 (leavesP (chainsGo p l).2)).1.out.length + 1 from put_new_count he ?_]
    · have n1' : (slotsGo (chainsGo p l).1 (leavesP (chainsGo p l).2)).1.out.length = (chainsGo p l).1.out.length + (leavesP (chainsGo p l).2).length := n1
      rw [n1', hlen]
    · cases hk : (slotsGo (chainsGo p l).1 (leavesP (chainsGo p l).2)).1.known r with
      | none => exact hk
      | some n =>
        have hh := indexB_hd hix
        rcases n2 r n hk with g | g <;> rw [hh] at g <;> exact absurd g (by decide)
  · simp only [he, if_false] at hg
    injection hg with h1 h2
    injection h2 with h2 h3
    exact absurd h3 he
/-! ### ShelfRights -/
def rightsL (a b : Int) (n : Nat) : List S45 := [⟨a, zerosB n⟩, ⟨b, ⟨#[]⟩⟩]
def rightsB (a b : Int) (n : Nat) : Bool := decide (0 ≤ a) && decide (a ≤ 2147483647) && (decide (0 ≤ b) && decide (b ≤ 2147483647)) && decide (a < b) && decide (n ≤ 900)
theorem rights_right (a b : Int) (n : Nat) : rightGo (-1) (rightsL a b n) = rightsB a b n := by
  have hz : (zerosB n).size = n := zerosB_size n
  unfold rightsL rightsB rightGo
  by_cases h1 : a ≤ -1
  · rw [if_pos h1]
    have : ¬ 0 ≤ a := by omega
    simp [this]
  rw [if_neg h1]
  by_cases h2 : a > 2147483647
  · rw [if_pos h2]
    have : ¬ a ≤ 2147483647 := by omega
    simp [this]
  rw [if_neg h2]
  dsimp only
  rw [hz]
  by_cases h3 : (n : Int) > 900
  · rw [if_pos h3]
    have : ¬ n ≤ 900 := by omega
    simp [this]
  rw [if_neg h3]
  unfold rightGo
  dsimp only
  by_cases h4 : b ≤ a
  · rw [if_pos h4]
    have : ¬ a < b := by omega
    simp [this]
  rw [if_neg h4]
  by_cases h5 : b > 2147483647
  · rw [if_pos h5]
    have : ¬ b ≤ 2147483647 := by omega
    simp [this]
  rw [if_neg h5, if_neg (by decide)]
  unfold rightGo
  have g1 : 0 ≤ a := by omega
  have g2 : a ≤ 2147483647 := by omega
  have g3 : 0 ≤ b := by omega
  have g4 : b ≤ 2147483647 := by omega
  have g5 : a < b := by omega
  have g6 : n ≤ 900 := by omega
  simp [g1, g2, g3, g4, g5, g6]
theorem rights_need (a b : Int) (n : Nat) : decide (0 < (planP (rightsL a b n) [] allP).1.length) = rightsB a b n := by
  rw [← rights_right]
  cases hr : rightGo (-1) (rightsL a b n) with
  | false =>
    unfold planP
    rw [hr, Bool.false_and]
    simp
  | true =>
    have hm : mayB [] allP = true := may_upTo (by omega)
    have hn : n ≤ 900 := by
      have := (right_cons hr).2.2.1
      rwa [zerosB_size] at this
    have hw : WR (rightsL a b n) ≤ 126 := by
      have h1 := (wR_bd ⟨a, zerosB n⟩).2
      have h2 := (wR_bd ⟨b, ⟨#[]⟩⟩).2
      simp only [rightsL, WR_cons]
      simp [WR]
      omega
    have hlv : (rleaves [] (rightsL a b n)).length = 1 := by
      have h1 := (wR_bd ⟨a, zerosB n⟩).2
      have hw1 : WR [⟨a, zerosB n⟩] ≤ 126 := by rw [WR_cons]; simp [WR]; omega
      unfold rightsL rleaves
      rw [List.nil_append, if_pos hw1]
      unfold rleaves
      rw [if_pos (by exact hw)]
      unfold rleaves
      simp
    have hp : pcs (rightsL a b n) ≤ 8 := by
      have hz : (zerosB n).size = n := zerosB_size n
      simp only [rightsL, pcs_cons, pieces_count, hz]
      have : (⟨#[]⟩ : ByteArray).size = 0 := rfl
      simp only [this]
      simp [pcs]
      split <;> omega
    have h0 := plan_enough hr (good_start hm) rfl (by omega) (by rw [hlv]; show _ ≤ allP.length; rw [show allP.length = 198 from upTo_length 198]; omega)
    unfold planP
    rw [hr, hm, Bool.and_self, if_pos rfl, leaves_count (cells_two _) hr, hlv, if_neg (by decide)]
    obtain ⟨⟨o, rt, e⟩, hg⟩ : ∃ x, planGo ⟨knownGo (fun _ => none) [], allP, [], 0⟩ (rightsL a b n) = x := ⟨_, rfl⟩
    rw [hg] at h0 ⊢
    dsimp only at h0
    subst h0
    have hc := (plan_count hg hr (fun n hn => upTo_page (by omega) n hn)).2
    exact decide_eq_true (by dsimp only; omega)
theorem none_need : (planP [] [] allP).1.length = 1 := by
  have hm : mayB [] allP = true := may_upTo (by omega)
  have hr : rightGo (-1) ([] : List S45) = true := rfl
  have hlv : (rleaves [] ([] : List S45)).length = 0 := rfl
  have h0 := plan_enough hr (good_start hm) rfl (by omega) (by rw [hlv]; show _ ≤ allP.length; rw [show allP.length = 198 from upTo_length 198]; decide)
  unfold planP
  rw [hr, hm, Bool.and_self, if_pos rfl, leaves_count (cells_two _) hr, hlv, if_neg (by decide)]
  obtain ⟨⟨o, rt, e⟩, hg⟩ : ∃ x, planGo ⟨knownGo (fun _ => none) [], allP, [], 0⟩ [] = x := ⟨_, rfl⟩
  rw [hg] at h0 ⊢
  dsimp only at h0
  subst h0
  have hc := (plan_count hg hr (fun n hn => upTo_page (by omega) n hn)).2
  rw [hlv] at hc
  exact hc
/-! ### ShelfMore -/
theorem chain_grow {p : PS} : ∀ L : List ByteArray, p.out.length ≤ (chainP p L).1.out.length
  | [] => Nat.le_refl _
  | b :: L => by rw [chainP_cons]; exact Nat.le_trans (chain_grow L) (putP_grow _ _ _)
theorem chains_grow : ∀ (l : List S45) {p : PS}, p.out.length ≤ (chainsGo p l).1.out.length
  | [], _ => Nat.le_refl _
  | r :: l, p => by
    unfold chainsGo
    split
    · exact Nat.le_trans (chain_grow _) (chains_grow l)
    · exact chains_grow l
theorem chains_append : ∀ (l m : List S45) (p : PS), (chainsGo p (l ++ m)).1 = (chainsGo (chainsGo p l).1 m).1
  | [], m, p => rfl
  | r :: l, m, p => by
    rw [List.cons_append]
    by_cases h : 24 < r.f1.size
    · have e : ∀ l : List S45, (chainsGo p (r :: l)).1 = (chainsGo (chainP p (piecesP r.f1)).1 l).1 := fun l => by rw [chainsGo, if_pos h]
      rw [e, e, chains_append l m]
    · have e : ∀ l : List S45, (chainsGo p (r :: l)).1 = (chainsGo p l).1 := fun l => by rw [chainsGo, if_neg h]
      rw [e, e, chains_append l m]
theorem rleaves_pos : ∀ (m cur : List S45), cur ≠ [] → 1 ≤ (rleaves cur m).length
  | [], cur, h => by unfold rleaves; rw [if_neg h]; exact Nat.le_refl _
  | r :: m, cur, h => by
    unfold rleaves
    split
    · exact rleaves_pos m _ (by simp)
    · simp
theorem rleaves_more : ∀ (l m cur : List S45), (rleaves cur l).length ≤ (rleaves cur (l ++ m)).length
  | [], m, cur => by
    rw [List.nil_append]
    by_cases h : cur = []
    · subst h; simp [rleaves]
    · have : rleaves cur [] = [cur] := by unfold rleaves; rw [if_neg h]
      rw [this]; exact rleaves_pos m cur h
  | r :: l, m, cur => by
    rw [List.cons_append]
    unfold rleaves
    split
    · exact rleaves_more l m _
    · simp only [List.length_cons]
      have := rleaves_more l m [r]
      omega
/-- With more records no fewer pages. -/
theorem plan_more {l m : List S45} (hr : rightGo (-1) l = true) (h1 : (planP l [] allP).1.length ≠ 0) (h2 : (planP (l ++ m) [] allP).1.length ≠ 0) : (planP l [] allP).1.length ≤ (planP (l ++ m) [] allP).1.length := by
  obtain ⟨⟨o, rt, e⟩, hp⟩ : ∃ x, planP l [] allP = x := ⟨_, rfl⟩
  obtain ⟨⟨o2, rt2, e2⟩, hp2⟩ : ∃ x, planP (l ++ m) [] allP = x := ⟨_, rfl⟩
  rw [hp] at h1 ⊢
  rw [hp2] at h2 ⊢
  dsimp only at h1 h2 ⊢
  have he : e = 0 := by
    by_cases he : e = 0
    · exact he
    · rw [plan_err hp he] at h1; exact absurd rfl h1
  have he2 : e2 = 0 := by
    by_cases he : e2 = 0
    · exact he
    · rw [plan_err hp2 he] at h2; exact absurd rfl h2
  subst he he2
  obtain ⟨_, hm, _, hg⟩ := plan_ok hp
  obtain ⟨hr2, _, _, hg2⟩ := plan_ok hp2
  obtain ⟨_, c1⟩ := plan_count hg hr (may_have hm).2
  obtain ⟨_, c2⟩ := plan_count hg2 hr2 (may_have hm).2
  rw [chains_append] at c2
  have := chains_grow m (p := (chainsGo ⟨fun _ => none, allP, [], 0⟩ l).1)
  have := rleaves_more l m []
  omega
end Go.Proofs.Ytjnhbalclimmnaa.PA
