/- Closed forms of the printed sheet.Chain, shelf.pieces, shelf.leaves, shelf.cell, shelf.Right; the contract of (*plan).chain. -/
import Derived.Test.YtjnhbalclimmnaaH5
set_option linter.unusedSimpArgs false
set_option linter.unusedVariables false
namespace Go.Proofs.Ytjnhbalclimmnaa.PA
open Go Go.RowKit Go.Proofs.YtjnhbalclimmnaaW.PrintWords Go.Proofs.YtjnhbalclimmnaaW.PrintMore H L

def chainOk (next : Int) (b : ByteArray) : Bool := (next == 0 || pageOk next) && decide (0 < b.size) && decide (b.size ≤ 120)
def chainL (next : Int) (b : ByteArray) : List UInt8 := 67 :: (be 2 next ++ UInt8.ofNat b.size :: b.data.toList)
def chainB (next : Int) (b : ByteArray) : Option ByteArray := if chainOk next b then fullPage ⟨(chainL next b).toArray⟩ else none
theorem num2_f (k : Nat) (v : Int) : sheet_number.f (k + 4) v 2 = some ⟨(be 2 v).toArray⟩ := by
  simp [sheet_number.f, sheet_number.l0, wrap64, shr, be, strOfNums, IntKind.bits]
theorem chain_j (k : Nat) (a0 : Int) (a1 : ByteArray) (h : a1.size ≤ 120) : sheet_Chain.j0 (k + 5) a0 a1 false = some (pageRes (fullPage ⟨(chainL a0 a1).toArray⟩)) := by
  have e : (strOfNums [67] ++ ⟨(be 2 a0).toArray⟩ ++ strOfNums [(a1.size : Int) % 256] ++ a1) = (⟨(chainL a0 a1).toArray⟩ : ByteArray) := by
    apply data_inj
    have : ((a1.size : Int) % 256).toNat = a1.size := by omega
    simp [strOfNums, chainL, ByteArray.data_append, this]
  have z : (strOfNums [67]).size = 1 := rfl
  have z1 : ∀ x, (strOfNums [x]).size = 1 := fun _ => rfl
  have z2 : (⟨(be 2 a0).toArray⟩ : ByteArray).size = 2 := by simp [ByteArray.size, be_length]
  simp only [sheet_Chain.j0, Bool.false_eq_true, if_false, Option.bind_some, num2_f]
  rw [if_pos (by rw [z, z2]; omega), if_pos (by rw [ByteArray.size_append, z, z2, z1]; omega), if_pos (by rw [ByteArray.size_append, ByteArray.size_append, z, z2, z1]; omega), e]
  simp [sheet_full.f]
theorem chain_f (a0 : Int) (a1 : ByteArray) : sheet_Chain.f 6 a0 a1 = some (pageRes (chainB a0 a1)) := by
  have hbad : ∀ k, sheet_Chain.j0 (k + 1) a0 a1 true = some (⟨#[]⟩, false) := fun k => by simp [sheet_Chain.j0]
  unfold sheet_Chain.f chainB chainOk
  rw [page_f, Option.bind_some]
  simp only [toList_nil]
  by_cases h1 : a1.size = 0
  · simp [h1, hbad, pageRes]
  · by_cases h2 : a1.size ≤ 120
    · have h3 : decide ((a1.size : Int) > 120) = false := by simp; omega
      by_cases h0 : a0 = 0
      · simp only [h1, h0, h3, if_true, if_false]
        rw [chain_j 1 0 a1 h2]
        simp [h2, Nat.pos_of_ne_zero h1]
      · by_cases hp : pageOk a0 = true
        · simp only [h1, h0, h3, hp, if_true, if_false]
          rw [chain_j 1 a0 a1 h2]
          simp [h2, Nat.pos_of_ne_zero h1, h0]
        · simp [h1, h0, h2, hp, hbad, pageRes]
    · have h3 : decide ((a1.size : Int) > 120) = true := by simp; omega
      by_cases h0 : a0 = 0
      · subst h0; simp [h1, h3, hbad, pageRes, h2]
      · by_cases hp : pageOk a0 = true
        · simp [h0, h1, h3, hp, hbad, pageRes, h2]
        · simp [h1, h0, h2, hp, hbad, pageRes]
/-- a record's pieces -/
def piecesGo : Nat → List UInt8 → List ByteArray
  | 0, _ => []
  | n + 1, l => if l = [] then [] else ⟨(l.take 120).toArray⟩ :: piecesGo n (l.drop 120)
def piecesP (b : ByteArray) : List ByteArray := piecesGo b.size b.data.toList
theorem pieces_loop : ∀ (n : Nat) (b : ByteArray) (out : List ByteArray) (k : Nat), b.size ≤ n → n < k → out.length + b.size < 8796093022208 →
    shelf_pieces.l0 k b out = some (out ++ piecesGo n b.data.toList) := by
  intro n
  induction n with
  | zero =>
    intro b out k hb hk hl
    obtain ⟨k, rfl⟩ : ∃ m, k = m + 1 := ⟨k - 1, by omega⟩
    simp only [shelf_pieces.l0, piecesGo]
    rw [if_neg (by omega)]
    simp
  | succ n ih =>
    intro b out k hb hk hl
    obtain ⟨k, rfl⟩ : ∃ m, k = m + 1 := ⟨k - 1, by omega⟩
    simp only [shelf_pieces.l0, piecesGo]
    by_cases h0 : b.size = 0
    · rw [if_neg (by omega)]
      have : b.data.toList = [] := List.eq_nil_of_length_eq_zero (by rw [← Lib.size_eq]; exact h0)
      simp [this]
    · have hne : b.data.toList ≠ [] := fun h => h0 (by rw [Lib.size_eq, h]; rfl)
      have hmn : 0 ≤ mn (b.size : Int) 120 ∧ mn (b.size : Int) 120 ≤ b.size ∧ (mn (b.size : Int) 120).toNat = min b.size 120 := by
        unfold mn
        split <;> omega
      have ht : ∀ x y : Nat, b.extract x y = ⟨((b.data.toList.drop x).take (y - x)).toArray⟩ := fun x y => Lib.extract_eq b x y
      rw [if_pos (by omega), if_pos hmn.1, if_pos hmn.2.1, if_pos (by omega), if_neg hne, hmn.2.2, ht, ht]
      have hz : (b.data.toList.drop (min b.size 120)).take (b.size - min b.size 120) = b.data.toList.drop 120 := by
        rw [Lib.size_eq]
        rw [List.take_of_length_le (by simp)]
        by_cases h : b.data.toList.length ≤ 120
        · rw [Nat.min_eq_left h, List.drop_length, List.drop_eq_nil_of_le h]
        · rw [Nat.min_eq_right (by omega)]
      have hy : (b.data.toList.drop 0).take (min b.size 120 - 0) = b.data.toList.take 120 := by
        rw [List.drop_zero, Nat.sub_zero, Lib.size_eq]
        by_cases h : b.data.toList.length ≤ 120
        · rw [Nat.min_eq_left h, List.take_length, List.take_of_length_le h]
        · rw [Nat.min_eq_right (by omega)]
      rw [hz, hy]
      have hs : (⟨(b.data.toList.drop 120).toArray⟩ : ByteArray).size = b.size - 120 := by rw [Lib.size_eq, Lib.size_eq, List.length_drop]
      rw [ih _ _ k (by rw [hs]; omega) (by omega) (by rw [hs, List.length_append, List.length_singleton]; omega)]
      simp
theorem piecesGo_len : ∀ (n : Nat) (l : List UInt8), (piecesGo n l).length ≤ n
  | 0, _ => Nat.le_refl _
  | n + 1, l => by
    unfold piecesGo
    split
    · exact Nat.zero_le _
    · rw [List.length_cons]; exact Nat.succ_le_succ (piecesGo_len n _)
theorem pieces_len (b : ByteArray) (h : b.size ≤ 1000000) : (piecesP b).length ≤ 1000000 := Nat.le_trans (piecesGo_len _ _) h
theorem pieces_f (b : ByteArray) (h : b.size ≤ 1000000) : shelf_pieces.f (b.size + 1) b = some (piecesP b) := by
  unfold shelf_pieces.f piecesP
  rw [pieces_loop b.size b [] (b.size + 1) (Nat.le_refl _) (by omega) (by rw [List.length_nil]; omega)]
  rfl
/-- cells, as many in each leaf as have room -/
def leavesGo (cur : List S61) : List S61 → List (List S61)
  | [] => if cur = [] then [] else [cur]
  | c :: r => if (leafB (cur ++ [c])).isSome then leavesGo (cur ++ [c]) r else cur :: leavesGo [c] r
def leavesP (l : List S61) : List (List S61) := leavesGo [] l
theorem fits_f (l : List S61) : sheet_Fits.f l = some (leafB l).isSome := by
  unfold sheet_Fits.f sheet_Leaf.f
  rw [Option.bind_some]
  cases leafB l <;> rfl
theorem leaves_loop (l : List S61) (hm : l.length ≤ 1000000) : ∀ (d i fr : Nat) (out : List (List S61)) (k : Nat), l.length - i = d → i ≤ l.length → fr ≤ i → d < k → out.length + d < 1000001 →
    shelf_leaves.l0 k l out (fr : Int) (l.length : Int) (i : Int) = some (out ++ leavesGo ((l.take i).drop fr) (l.drop i)) := by
  intro d
  induction d with
  | zero =>
    intro i fr out k hd hi hf hk ho
    obtain ⟨k, rfl⟩ : ∃ m, k = m + 1 := ⟨k - 1, by omega⟩
    obtain rfl : i = l.length := by omega
    simp only [shelf_leaves.l0]
    rw [if_neg (by omega), List.drop_length, List.take_length]
    by_cases hfl : fr < l.length
    · rw [if_pos (by omega), if_pos (by omega), if_pos (by omega), if_pos (by omega), Int.toNat_natCast]
      have : l.drop fr ≠ [] := by simp; omega
      simp [leavesGo, this]
    · rw [if_neg (by omega)]
      have : l.drop fr = [] := List.drop_eq_nil_of_le (by omega)
      simp [leavesGo, this]
  | succ d ih =>
    intro i fr out k hd hi hf hk ho
    obtain ⟨k, rfl⟩ : ∃ m, k = m + 1 := ⟨k - 1, by omega⟩
    have hlt : i < l.length := by omega
    have hw : wrap64 ((i : Int) + 1) = ((i + 1 : Nat) : Int) := wrap_succ hlt (by omega)
    have hcur : (l.take (i + 1)).drop fr = (l.take i).drop fr ++ [l[i]] := by
      rw [List.take_succ_eq_append_getElem hlt, List.drop_append_of_le_length (by rw [List.length_take]; omega)]
    simp only [shelf_leaves.l0, hw, Int.toNat_natCast]
    rw [if_pos (by omega), if_pos (by omega), if_pos (by omega), if_pos (by omega), fits_f, Option.bind_some, List.drop_eq_getElem_cons hlt, hcur]
    simp only [leavesGo]
    by_cases hs : (leafB ((l.take i).drop fr ++ [l[i]])).isSome = true
    · rw [if_pos hs, if_pos hs, ih (i + 1) fr out k (by omega) (by omega) (by omega) (by omega) (by omega), hcur]
    · rw [if_neg hs, if_neg hs, if_pos (by omega), if_pos (by omega), if_pos (by omega)]
      rw [ih (i + 1) i _ k (by omega) (by omega) (by omega) (by omega) (by rw [List.length_append, List.length_singleton]; omega)]
      have : (l.take (i + 1)).drop i = [l[i]] := by
        rw [List.take_succ_eq_append_getElem hlt, List.drop_append_of_le_length (by rw [List.length_take]; omega), List.drop_eq_nil_of_le (by rw [List.length_take]; omega)]
        rfl
      rw [this]
      simp
theorem leaves_f (l : List S61) (hm : l.length ≤ 1000000) : shelf_leaves.f (l.length + 1) l = some (leavesP l) := by
  unfold shelf_leaves.f leavesP
  have h := leaves_loop l hm l.length 0 0 [] (l.length + 1) (by omega) (by omega) (Nat.le_refl _) (by omega) (by rw [List.length_nil]; omega)
  simpa using h
/-- a record's pieces are laid out from the last: the first one's page -/
noncomputable def chainP (p : PS) (l : List ByteArray) : PS × Int := l.foldr (fun b s => putP s.1 (pageRes (chainB s.2 b)).1 (pageRes (chainB s.2 b)).2) (p, 0)
theorem chainP_cons (p : PS) (b : ByteArray) (l : List ByteArray) : chainP p (b :: l) = putP (chainP p l).1 (pageRes (chainB (chainP p l).2 b)).1 (pageRes (chainB (chainP p l).2 b)).2 := rfl
theorem fullPage_size {b r : ByteArray} (h : fullPage b = some r) : r.size = 128 := by
  unfold fullPage at h
  by_cases hs : b.size ≤ 128
  · rw [if_pos hs] at h
    injection h with h
    rw [← h, ByteArray.size_append, zerosB_size]
    omega
  · rw [if_neg hs] at h
    cases h
theorem pageRes_size {o : Option ByteArray} (h : ∀ r, o = some r → r.size = 128) : (pageRes o).1.size ≤ 1000000 := by
  cases o with
  | none => decide
  | some r => rw [pageRes, h r rfl]; decide
theorem chainB_size (next : Int) (b : ByteArray) : (pageRes (chainB next b)).1.size ≤ 1000000 := by
  refine pageRes_size (fun r h => ?_)
  unfold chainB at h
  split at h
  · exact fullPage_size h
  · cases h
/-- Rows of elements of other types stand behind a put. -/
theorem R_PK {F : Nat → Prop} {α : Type} {d : Kd α} {e base g : Nat} {W W1 : World} {v : Value} {xs : List α} {cs : Array Value} {fr : Nat × Nat} (h : d.R e W base (fun _ => True) v xs) (hg : W.heap[g]? = some (.cells cs 68 fr)) (hE : ∀ q, q ∈ e :: d.E → q ≠ 68 ∧ q ≠ 28) (hk : PK F g W W1) : d.R e W1 base (fun _ => True) v xs :=
  Kd.R_mono (Kd.R_step (Kd.R_bound h) (fun k hb _ => by
    obtain ⟨_, _, _, q, hq, cells, hc⟩ := hb
    rw [hk.2 k _ hc ?_ (.inr ⟨(by intro es c; simp), (by intro c fz e; injection e with _ e _; exact (hE q hq).2 e)⟩), hc]
    rintro rfl
    rw [hg] at hc
    injection hc with hc
    injection hc with _ hc _
    exact (hE q hq).1 hc.symm)) (fun _ _ => trivial)
theorem PSt.blk {F : Nat → Prop} {w0 W : World} {g N : Nat} {p : PS} (h : PSt F w0 W g N p) : ∃ cs, W.heap[g]? = some (.cells cs 68 (0, 0)) := by
  obtain ⟨mb, A1, c1, vo, D, hg, _⟩ := h
  exact ⟨_, hg⟩
theorem PSt.below {F : Nat → Prop} {w0 W : World} {g N : Nat} {p : PS} (h : PSt F w0 W g N p) : Below w0.heap.size w0 W := by
  obtain ⟨mb, A1, c1, vo, D, hg, h1, h2, h3, h4, h5, h6, h7, h8, h9, h10, h11⟩ := h
  exact h10
/-- New memory alone does not turn a plan. -/
theorem PSt.step {F : Nat → Prop} {w0 W W1 : World} {g N : Nat} {p : PS} (h : PSt F w0 W g N p) (hb : Below W.heap.size W W1) : PSt F w0 W1 g N p := by
  obtain ⟨mb, A1, c1, vo, D, hg, h1, h2, h3, h4, h5, h6, h7, h8, h9, h10, h11⟩ := h
  exact ⟨mb, A1, c1, vo, D, (hb.block g (Array.getElem?_eq_some_iff.1 hg).1).trans hg, h1, h2, h3, h4, h5, h6.kept (grown_of_below hb none) (by simp), h7, h8, Kd.R_below h9 hb, below_then h10 h10.size hb, fun k hk => ⟨Nat.lt_of_lt_of_le (h11 k hk).1 hb.size, (h11 k hk).2⟩⟩

set_option maxHeartbeats 1000000 in
set_option maxRecDepth 100000 in
theorem chain_calls (F : Nat → Prop) (w0 W : World) (g N : Nat) (p : PS) (b : ByteArray) (hb : b.size ≤ 1000000) (hp : PSt F w0 W g N p) :
    Calls Try.prog 29 #[.pointer (some ⟨g, 0, none⟩), .string b] W fun e W' => e = .returned (.int .i64 (chainP p (piecesP b)).2) ∧ PSt F w0 W' g N (chainP p (piecesP b)).1 ∧ PK F g W W' := by
  have HP := Lib.hid hp
  clear hp
  go_enter Try.func29, Try.ntmps29
  go_wp2_with fail
  refine (shelf_pieces.calls (b.size + 1) b (piecesP b) W (pieces_f b hb)).mono ?_
  rintro e W1 ⟨v0, rfl, hR, hb1⟩
  obtain ⟨A, c, hv, hc, hC⟩ := Kd.R_reads hR
  subst hv
  have HR := Lib.hid (Kd.R_lower hR (HP.out.below.size))
  have HP1 := Lib.hid (HP.out.step hb1)
  have HK := Lib.hid (PK.below (F := F) (g := g) hb1)
  obtain ⟨l, hl⟩ : ∃ l, l = piecesP b := ⟨_, rfl⟩
  have hlen : l.length ≤ 1000000 := by rw [hl]; exact pieces_len b hb
  rw [← hl] at HR hc ⊢
  have HL := Lib.hid hl
  clear hR hb1 hC hl
  go_wp2_with fail
  go_loopw [5, 7] (fun v i wr => ∃ (j : Nat) (nx : Int) (ps : PS), j ≤ l.length ∧ i = .int .i64 ((j : Int) - 1) ∧ v = .int .i64 nx ∧ Hid (PSt F w0 wr g N ps ∧ PK F g W wr ∧ chainP p (l.drop j) = (ps, nx) ∧ Kd.R Kd.string 9 wr w0.heap.size (fun _ => True) (.slice A l.length c) l))
    (fun _ i _ => (intOf i + 1).toNat)
  case atStart => exact ⟨l.length, 0, p, Nat.le_refl _, rfl, rfl, Lib.hid ⟨HP1.out, HK.out, by rw [List.drop_length]; rfl, HR.out⟩⟩
  case round =>
    obtain ⟨j, nx, ps, hj, rfl, rfl, HI⟩ := hrel
    clear HR HP1 HK HP
    by_cases h0 : 1 ≤ j
    · obtain ⟨i, rfl⟩ : ∃ i, j = i + 1 := ⟨j - 1, by omega⟩
      have hi : i < l.length := by omega
      have hcast : ((i + 1 : Nat) : Int) - 1 = (i : Int) := by omega
      rw [hcast]
      obtain ⟨A', c', hv, hc', hC⟩ := Kd.R_reads HI.out.2.2.2
      injection hv with hv1 hv2 hv3
      subst hv1 hv3
      obtain ⟨ad, rfl, q0⟩ := Kd.at_string hC i (by omega) (by omega)
      obtain ⟨x, hx⟩ : ∃ x, x = rdOf ByteArray.empty l i := ⟨_, rfl⟩
      rw [← hx] at q0
      simp only [Int.toNat_natCast] at q0
      have hx2 : l.drop i = x :: l.drop (i + 1) := by
        rw [List.drop_eq_getElem_cons hi, hx]
        simp [rdOf, List.getD_eq_getElem?_getD, List.getElem?_eq_getElem hi]
      have Hx := Lib.hid hx2
      clear hx hx2 hC hcast
      go_wp2_with fail
      refine (sheet_Chain.calls 6 nx x (pageRes (chainB nx x)).1 (pageRes (chainB nx x)).2 wr (chain_f nx x)).mono ?_
      rintro e W2 ⟨rfl, hb2⟩
      have HS := Lib.hid (chainB_size nx x)
      have HP2 := Lib.hid (HI.out.1.step hb2)
      have HK2 := Lib.hid (HI.out.2.1.trans (PK.below (F := F) (g := g) hb2))
      have HR2 := Lib.hid (Kd.R_below HI.out.2.2.2 hb2)
      have HCH := Lib.hid (show chainP p (l.drop i) = putP ps (pageRes (chainB nx x)).1 (pageRes (chainB nx x)).2 by rw [Hx.out, chainP_cons, HI.out.2.2.1])
      clear HI Hx hb2 q0
      generalize pageRes (chainB nx x) = pr at HS HCH ⊢
      obtain ⟨pb, pi⟩ := pr
      go_wp2_with fail
      refine (put_calls F w0 W2 g N ps pb pi HS.out HP2.out).mono ?_
      rintro e W3 ⟨rfl, hp3, hk3⟩
      obtain ⟨cs, hcs⟩ := HP2.out.blk
      have HR3 := Lib.hid (R_PK HR2.out hcs (by decide) hk3)
      have HP3 := Lib.hid hp3
      have HK3 := Lib.hid (HK2.out.trans hk3)
      obtain ⟨n3, hn3⟩ : ∃ n3, n3 = (putP ps pb pi).2 := ⟨_, rfl⟩
      have HC3 := Lib.hid (show chainP p (l.drop i) = ((putP ps pb pi).1, n3) by rw [HCH.out, hn3])
      rw [← hn3]
      clear hp3 hk3 hcs hn3 HCH HS HP2 HK2 HR2
      go_wp2_with fail
      go_roundw
      case rel => exact ⟨i, n3, _, by omega, by go_num, rfl, Lib.hid ⟨HP3.out, HK3.out, HC3.out, HR3.out⟩⟩
      case measure => simp [intOf] <;> omega
    · obtain rfl : j = 0 := by omega
      obtain ⟨h1, h2, h3, h4⟩ := HI.out
      rw [List.drop_zero] at h3
      have H3 := Lib.hid h3
      clear h3 HI h4
      go_wp2_with fail
      go_ret
      exact ⟨by rw [← HL.out, H3.out]; rfl, by rw [← HL.out, H3.out]; exact h1, h2⟩
end Go.Proofs.Ytjnhbalclimmnaa.PA
