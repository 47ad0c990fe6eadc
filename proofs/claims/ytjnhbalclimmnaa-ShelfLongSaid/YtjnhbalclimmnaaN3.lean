/- The plain law of ShelfLong. -/
import Derived.Test.YtjnhbalclimmnaaN2
set_option linter.unusedSimpArgs false
set_option linter.unusedVariables false
namespace Go.Proofs.Ytjnhbalclimmnaa.PA
open Go Go.RowKit Go.Proofs.YtjnhbalclimmnaaW.PrintWords Go.Proofs.YtjnhbalclimmnaaW.PrintMore H L

/-- the fifth byte -/
def fifth (s : ByteArray) : UInt8 := s.data.toList.getD 4 0
theorem chainB_some {next : Int} {b : ByteArray} (hn : next = 0 ∨ pageOk next = true) (h0 : 0 < b.size) (h1 : b.size ≤ 120) : ∃ r, chainB next b = some r ∧ fifth r = hd b := by
  have hok : chainOk next b = true := by
    unfold chainOk
    rcases hn with h | h <;> simp [h, h0, h1]
  have hsz : (⟨(chainL next b).toArray⟩ : ByteArray).size ≤ 128 := by
    have e : (chainL next b).length = 4 + b.size := by
      unfold chainL
      rw [List.length_cons, List.length_append, List.length_cons, be_length, ← Lib.size_eq]
      omega
    have e2 : (⟨(chainL next b).toArray⟩ : ByteArray).size = (chainL next b).length := by rw [Lib.size_eq]
    omega
  refine ⟨(⟨(chainL next b).toArray⟩ : ByteArray) ++ zerosB (128 - (⟨(chainL next b).toArray⟩ : ByteArray).size), ?_, ?_⟩
  · unfold chainB fullPage
    rw [hok, if_pos rfl, if_pos hsz]
  · obtain ⟨x, l, hb⟩ : ∃ x l, b.data.toList = x :: l := by
      cases hb : b.data.toList with
      | nil => rw [Lib.size_eq, hb] at h0; exact absurd h0 (by decide)
      | cons x l => exact ⟨x, l, rfl⟩
    unfold fifth hd
    rw [hb]
    simp [ByteArray.data_append, chainL, be, hb]
theorem chain_new {p : PS} (he : p.e = 0) (hk : ∀ s, p.known s = none) (hg : ∀ n ∈ p.free, pageOk n = true) : ∀ L : List ByteArray, (∀ x ∈ L, 0 < x.size ∧ x.size ≤ 120) → (L.map hd).Nodup → L.length ≤ p.free.length →
    (chainP p L).1.e = 0 ∧ (chainP p L).1.out.length = p.out.length + L.length ∧ (chainP p L).1.free = p.free.drop L.length ∧ (L ≠ [] → pageOk (chainP p L).2 = true) ∧ ((chainP p L).2 = 0 ∨ pageOk (chainP p L).2 = true) ∧
      ∀ s n, (chainP p L).1.known s = some n → hd s = 67 ∧ fifth s ∈ L.map hd
  | [], _, _, _ => ⟨he, rfl, rfl, fun h => absurd rfl h, .inl rfl, fun s n h => by rw [show (chainP p []).1 = p from rfl, hk] at h; cases h⟩
  | b :: L, hs, hn, hl => by
    obtain ⟨h1, h2, h3, h4, h5, h6⟩ := chain_new he hk hg L (fun x hx => hs x (by simp [hx])) (by simp at hn; exact hn.2) (by simp at hl; omega)
    obtain ⟨r, hr, hf⟩ := chainB_some h5 (hs b (by simp)).1 (hs b (by simp)).2
    rw [chainP_cons, hr]
    simp only [pageRes]
    have hkr : (chainP p L).1.known r = none := by
      cases hc : (chainP p L).1.known r with
      | none => rfl
      | some n =>
        have := (h6 r n hc).2
        rw [hf] at this
        simp at hn
        exact absurd this (by simpa using hn.1)
    obtain ⟨n, rest, hfr⟩ : ∃ n rest, (chainP p L).1.free = n :: rest := by
      cases hc : (chainP p L).1.free with
      | nil => rw [h3] at hc; have := List.drop_eq_nil_iff.1 hc; simp at hl; omega
      | cons n rest => exact ⟨n, rest, rfl⟩
    have hpn : pageOk n = true := hg n (List.mem_of_mem_drop (by rw [← h3, hfr]; simp))
    rw [putP_new h1 hkr hfr]
    refine ⟨rfl, by simp [h2]; omega, ?_, fun _ => hpn, .inr hpn, fun s m hm => ?_⟩
    · have : p.free.drop (L.length + 1) = rest := by
        rw [← List.drop_drop, ← h3, hfr]; rfl
      simpa using this.symm
    · by_cases e : s = r
      · subst e
        exact ⟨chainB_hd hr, by rw [hf]; simp⟩
      · simp [e] at hm
        have := h6 s m hm
        exact ⟨this.1, by simp at this ⊢; exact .inr this.2⟩
theorem piecesGo_sizes : ∀ (n : Nat) (l : List UInt8), ∀ x ∈ piecesGo n l, 0 < x.size ∧ x.size ≤ 120
  | 0, l, x, hx => by simp [piecesGo] at hx
  | n + 1, l, x, hx => by
    unfold piecesGo at hx
    split at hx
    · cases hx
    · next hne =>
      rcases List.mem_cons.1 hx with rfl | hx
      · have : 0 < l.length := List.length_pos_iff.2 hne
        simp [ByteArray.size]
        omega
      · exact piecesGo_sizes n _ x hx
theorem piecesGo_heads : ∀ (fuel j : Nat) (l : List UInt8), l.length ≤ fuel → (∀ i (h : i < l.length), l[i] = UInt8.ofNat ((120 * j + i) / 120)) → (piecesGo fuel l).map hd = (List.range' j ((l.length + 119) / 120)).map UInt8.ofNat
  | 0, j, l, h, _ => by
    obtain rfl : l = [] := List.eq_nil_of_length_eq_zero (by omega)
    simp [piecesGo]
  | fuel + 1, j, l, h, hi => by
    unfold piecesGo
    by_cases hne : l = []
    · rw [if_pos hne, hne]
      simp
    · rw [if_neg hne]
      have hpos : 0 < l.length := List.length_pos_iff.2 hne
      have hc : (l.length + 119) / 120 = ((l.drop 120).length + 119) / 120 + 1 := by rw [List.length_drop]; omega
      rw [hc, List.range'_succ, List.map_cons, List.map_cons, piecesGo_heads fuel (j + 1) (l.drop 120) (by rw [List.length_drop]; omega) (fun i hlt => by
        rw [List.getElem_drop, hi _ (by rw [List.length_drop] at hlt; omega)]
        congr 2
        omega)]
      congr 1
      have h0 := hi 0 hpos
      rw [show (120 * j + 0) / 120 = j by omega] at h0
      rw [← h0]
      unfold hd
      cases l with
      | nil => exact absurd rfl hne
      | cons x r => simp
/-- what ShelfLong writes -/
def longL (n : Nat) : List Int := (List.range n).map fun i => ((i / 120 : Nat) : Int) % 256
theorem longL_bytes (n : Nat) : (strOfNums (longL n)).data.toList = (List.range n).map fun i => UInt8.ofNat (i / 120) := by
  simp [strOfNums, longL]
  intro a ha
  have : (((a : Int) / 120) % 256).toNat = (a / 120) % 256 := by omega
  rw [this]
  exact UInt8.toNat_inj.1 (by simp)
theorem long_need (n : Nat) (hn : n ≤ 900) : ((planP [⟨5, strOfNums (longL n)⟩] [] allP).1.length : Int) = if 24 < n then 2 + (((n + 119) / 120 : Nat) : Int) else 2 := by
  obtain ⟨b, hb⟩ : ∃ b, b = strOfNums (longL n) := ⟨_, rfl⟩
  have hsz : b.size = n := by rw [hb, Lib.size_eq, longL_bytes]; simp
  have hbt : b.data.toList = (List.range n).map fun i => UInt8.ofNat (i / 120) := by rw [hb, longL_bytes]
  rw [← hb]
  have hr : (⟨5, b⟩ : S45).f1.size ≤ 900 ∧ -1 < (⟨5, b⟩ : S45).f0 ∧ (⟨5, b⟩ : S45).f0 ≤ 2147483647 := ⟨by show b.size ≤ 900; omega, by show (-1 : Int) < 5; decide, by show (5 : Int) ≤ 2147483647; decide⟩
  have hrg : rightGo (-1) [(⟨5, b⟩ : S45)] = true := by
    unfold rightGo
    rw [if_neg (by show ¬ (5 : Int) ≤ -1; decide), if_neg (by show ¬ (5 : Int) > 2147483647; decide), if_neg (by show ¬ (b.size : Int) > 900; omega)]
    rfl
  have hfit : ∀ pg, (24 < b.size → pageOk pg = true) → (leafB [cellP (⟨5, b⟩ : S45) pg]).isSome = true := fun pg h => fits_one hr h
  have hlv : (leavesP ([(⟨5, b⟩ : S45)].map (cellP · 2))).length = 1 := by
    rw [List.map_cons, List.map_nil, leaves_one (hfit 2 (fun _ => by decide))]; rfl
  have hall : allP = (2 : Int) :: 3 :: 4 :: 5 :: 6 :: 7 :: 8 :: 9 :: 10 :: 11 :: ((List.range 188).map fun (i : Nat) => (i : Int) + 12) := by decide +kernel
  have hm : mayB [] allP = true := may_upTo (by omega)
  unfold planP
  rw [hrg, hm, Bool.and_self, if_pos rfl, hlv, if_neg (by decide)]
  by_cases h24 : 24 < n
  · rw [if_pos h24]
    obtain ⟨p0, hp0⟩ : ∃ p0 : PS, p0 = ⟨knownGo (fun _ => none) [], allP, [], 0⟩ := ⟨_, rfl⟩
    rw [← hp0]
    have hheads : (piecesP b).map hd = (List.range' 0 ((n + 119) / 120)).map UInt8.ofNat := by
      have h := piecesGo_heads b.size 0 b.data.toList (by rw [← Lib.size_eq]; exact Nat.le_refl _) (fun i hi => by
        have hi' : i < n := by rw [hbt] at hi; simpa using hi
        simp [hbt])
      rw [← Lib.size_eq, hsz] at h
      unfold piecesP
      rw [hsz]
      exact h
    have hlen : (piecesP b).length = (n + 119) / 120 := by
      have := congrArg List.length hheads
      simpa using this
    have hnd : ((piecesP b).map hd).Nodup := by
      rw [hheads]
      have h8 : (n + 119) / 120 ≤ 8 := by omega
      generalize (n + 119) / 120 = m at h8
      have : m = 0 ∨ m = 1 ∨ m = 2 ∨ m = 3 ∨ m = 4 ∨ m = 5 ∨ m = 6 ∨ m = 7 ∨ m = 8 := by omega
      rcases this with rfl | rfl | rfl | rfl | rfl | rfl | rfl | rfl | rfl <;> decide
    obtain ⟨g1, g2, g3, g4, _, g6⟩ := chain_new (p := p0) (by rw [hp0]) (fun s => by rw [hp0]; rfl) (fun m hm' => by rw [hp0] at hm'; exact (may_have hm).2 m hm') (piecesP b) (piecesGo_sizes _ _) hnd (by rw [hlen, hp0]; show _ ≤ allP.length; rw [show allP.length = 198 from upTo_length 198]; omega)
    have hq : chainsGo p0 [(⟨5, b⟩ : S45)] = ((chainP p0 (piecesP b)).1, [cellP ⟨5, b⟩ (chainP p0 (piecesP b)).2]) := by
      unfold chainsGo
      rw [if_pos (by show 24 < b.size; omega)]
      rfl
    obtain ⟨n1, n2, rest, hfree⟩ : ∃ n1 n2 rest, (chainP p0 (piecesP b)).1.free = n1 :: n2 :: rest := by
      rw [g3]
      have hL : 2 ≤ (p0.free.drop (piecesP b).length).length := by
        rw [List.length_drop, hlen, hp0]
        show 2 ≤ allP.length - _
        rw [show allP.length = 198 from upTo_length 198]
        omega
      match hx : p0.free.drop (piecesP b).length, hL with
      | n1 :: n2 :: rest, _ => exact ⟨n1, n2, rest, rfl⟩
    obtain ⟨b1, b2, hpl⟩ := plan_one hr hq g1 (fun _ => g4 (piecesP_ne (by omega))) (fun s hs => by
      cases hc : (chainP p0 (piecesP b)).1.known s with
      | none => rfl
      | some m =>
        have := (g6 s m hc).1
        rcases hs with h | h <;> rw [h] at this <;> exact absurd this (by decide)) hfree ((may_have hm).2 n1 (by
          have : n1 ∈ p0.free := List.mem_of_mem_drop (i := (piecesP b).length) (by rw [← g3, hfree]; simp)
          rw [hp0] at this
          exact this))
    rw [hpl]
    have hout : p0.out.length = 0 := by rw [hp0]; rfl
    rw [List.length_append, g2, hlen, hout]
    simp
    omega
  · rw [if_neg h24]
    have hq : chainsGo ⟨knownGo (fun _ => none) [], allP, [], 0⟩ [(⟨5, b⟩ : S45)] = (⟨knownGo (fun _ => none) [], allP, [], 0⟩, [cellP ⟨5, b⟩ 2]) := by
      unfold chainsGo
      rw [if_neg (by show ¬ 24 < b.size; omega)]
      rfl
    obtain ⟨b1, b2, hpl⟩ := plan_one hr hq rfl (fun h => absurd h (by show ¬ 24 < b.size; omega)) (fun s _ => rfl) hall (by decide)
    rw [hpl]
    rfl
theorem long_loop (n : Nat) (hn : n ≤ 900) : ∀ (d i : Nat), i + d = n → ∀ k, d + 200 < k → maquettelaw16_ShelfLong.l0 k (n : Int) (longL i ++ List.replicate (n - i) 0) (n : Int) (i : Int) = some true := by
  intro d
  induction d with
  | zero =>
    intro i hi k hk
    obtain ⟨k, rfl⟩ : ∃ m, k = m + 1 := ⟨k - 1, by omega⟩
    obtain rfl : i = n := by omega
    simp only [maquettelaw16_ShelfLong.l0]
    rw [if_neg (by omega), Nat.sub_self, List.replicate_zero, List.append_nil, need_f _ (by simp) k (by omega), long_need i hn]
    by_cases h : 24 < i
    · rw [if_pos (by omega), if_pos h, Option.bind_some]
      have e : wrap64 (2 + wrap64 ((wrap64 (wrap64 ((i : Int) + 120) - 1)).tdiv 120)) = 2 + (((i + 119) / 120 : Nat) : Int) := by
        have e1 : wrap64 (wrap64 ((i : Int) + 120) - 1) = ((i + 119 : Nat) : Int) := by unfold wrap64; omega
        rw [e1]
        have e2 : (((i + 119 : Nat) : Int)).tdiv 120 = (((i + 119) / 120 : Nat) : Int) := by
          rw [Int.tdiv_eq_ediv_of_nonneg (by omega)]
          omega
        rw [e2]
        unfold wrap64
        omega
      rw [e]
      simp
    · rw [if_neg (by omega), if_neg h, Option.bind_some]
      simp
  | succ d ih =>
    intro i hi k hk
    obtain ⟨k, rfl⟩ : ∃ m, k = m + 1 := ⟨k - 1, by omega⟩
    simp only [maquettelaw16_ShelfLong.l0]
    have hlen : (longL i ++ List.replicate (n - i) (0 : Int)).length = n := by simp [longL]; omega
    have hset : (longL i ++ List.replicate (n - i) (0 : Int)).set (i : Int).toNat (wrap64 ((i : Int).tdiv 120) % 256) = longL (i + 1) ++ List.replicate (n - (i + 1)) 0 := by
      have hli : (longL i).length = i := by simp [longL]
      have hrep : List.replicate (n - i) (0 : Int) = 0 :: List.replicate (n - (i + 1)) 0 := by
        rw [show n - i = (n - (i + 1)) + 1 by omega, List.replicate_succ]
      have e : (i : Int).tdiv 120 = ((i / 120 : Nat) : Int) := by rw [Int.tdiv_eq_ediv_of_nonneg (by omega)]; omega
      have e2 : wrap64 ((i / 120 : Nat) : Int) = ((i / 120 : Nat) : Int) := by unfold wrap64; omega
      rw [hrep, Int.toNat_natCast, List.set_append_right _ _ (by omega), hli, Nat.sub_self, List.set_cons_zero, e, e2]
      simp [longL, List.range_succ]
    have hw : wrap64 ((i : Int) + 1) = ((i + 1 : Nat) : Int) := by unfold wrap64; omega
    rw [if_pos (by omega), if_pos (by omega), if_pos (by omega), hset, hw, ih (i + 1) (by omega) k (by omega)]
theorem shelfLong : maquettelaw16_ShelfLong.Pure := by
  intro a0 _
  refine ⟨2000, ?_⟩
  have hj : maquettelaw16_ShelfLong.j0 2000 a0 true = some true := by
    show maquettelaw16_ShelfLong.j0 (1999 + 1) a0 true = some true
    simp only [maquettelaw16_ShelfLong.j0]
    rw [alive_f _ (by omega)]
    simp
  unfold maquettelaw16_ShelfLong.f
  by_cases h0 : a0 < 0
  · rw [if_pos h0, hj]
  · by_cases h9 : a0 > 900
    · rw [if_neg h0, if_pos h9, hj]
    · rw [if_neg h0, if_neg h9, alive_f _ (by omega), Option.bind_some]
      show maquettelaw16_ShelfLong.j0 (1999 + 1) a0 false = some true
      simp only [maquettelaw16_ShelfLong.j0]
      obtain ⟨n, rfl⟩ : ∃ n : Nat, a0 = n := ⟨a0.toNat, by omega⟩
      rw [if_neg (by simp), if_pos (by omega), if_pos (by omega), Option.bind_some, List.length_replicate, Int.toNat_natCast]
      have := long_loop n (by omega) n 0 (by omega) 1999 (by omega)
      simpa [longL] using this
end Go.Proofs.Ytjnhbalclimmnaa.PA
