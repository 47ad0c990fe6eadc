/- Contract of shelf.may, walked by hand. -/
import Derived.Test.YtjnhbalclimmnaaH1
import Derived.Test.YtjnhbalclimmnaaPAx8
set_option linter.unusedSimpArgs false
set_option linter.unusedVariables false
namespace Go.Proofs.Ytjnhbalclimmnaa.PA
open Go Go.RowKit Go.Proofs.YtjnhbalclimmnaaW.PrintWords H L

theorem at_int {w : World} {A : Option Addr} {l : List Int} (h : Kd.C (Kd.int .i64) w A l.length l) {k : Nat} (hk : k < l.length) : ∃ ad, A = some ad ∧ w.cell? (ad.add k) = some (.int .i64 (l.getD k 0)) := by
  obtain ⟨ad, e, hc⟩ := (Kd.reads_of_C (enc := Value.int .i64) (d := (0 : Int)) (h1 := fun _ => rfl) h).2.2 (by omega)
  exact ⟨ad, e, hc k hk⟩
theorem may_cl (n : Int) (w : World) : Calls Try.prog 52 #[.int .i64 n] w fun e w' => e = .returned (.bool (!pageOk n)) ∧ w = w' := by
  by_cases h : n < 2
  · have h1 : decide (n < 2) = true := decide_eq_true h
    have h2 : (!pageOk n) = true := by simp [pageOk]; omega
    rw [h2]
    clear h2
    go_enter Try.func52, Try.ntmps52
    go_wp2_with fail
    go_ret
    exact ⟨rfl, rfl⟩
  · have h1 : decide (n < 2) = false := decide_eq_false h
    by_cases h3 : 200 ≤ n
    · have h4 : decide (200 ≤ n) = true := decide_eq_true h3
      have h2 : (!pageOk n) = true := by simp [pageOk]; omega
      rw [h2]
      clear h2
      go_enter Try.func52, Try.ntmps52
      go_wp2_with fail
      go_ret
      exact ⟨rfl, rfl⟩
    · have h4 : decide (200 ≤ n) = false := decide_eq_false h3
      have h2 : (!pageOk n) = false := by simp [pageOk]; omega
      rw [h2]
      clear h2
      go_enter Try.func52, Try.ntmps52
      go_wp2_with fail
      go_ret
      exact ⟨rfl, rfl⟩
theorem may_idx (A : Option Addr) (c : Nat) (l : List Int) (w : World) (hr : Kd.C (Kd.int .i64) w A l.length l) (hm : l.length ≤ 9223372036854775807) :
    Calls Try.prog 79 #[.slice A l.length c, .func (.func 52) #[] #[]] w fun e w' => ∃ i : Int, e = .returned (.int .i64 i) ∧ decide (0 ≤ i) = l.any (fun n => !pageOk n) ∧ w = w' := by
  have HR := Lib.hid hr
  clear hr
  go_enter Try.func79, Try.ntmps79
  go_wp2_with fail
  go_loop [8] (fun i => ∃ k : Nat, k ≤ l.length ∧ i = .int .i64 k ∧ Hid ((l.take k).any (fun n => !pageOk n) = false)) (fun i => l.length - (intOf i).toNat)
  case atStart => exact ⟨0, Nat.zero_le _, rfl, Lib.hid rfl⟩
  case round =>
    obtain ⟨k, hk, rfl, HI⟩ := hrel
    by_cases hlt : k < l.length
    · obtain ⟨ad, rfl, q0⟩ := at_int HR.out hlt
      obtain ⟨x, hx⟩ : ∃ x, x = l.getD k 0 := ⟨_, rfl⟩
      rw [← hx] at q0
      have Hx := Lib.hid (show l.take (k + 1) = l.take k ++ [x] by rw [hx, List.take_succ_eq_append_getElem hlt, List.getD_eq_getElem?_getD, List.getElem?_eq_getElem hlt]; rfl)
      have HL := Lib.hid (show l = l.take k ++ x :: l.drop (k + 1) by rw [hx, List.getD_eq_getElem?_getD, List.getElem?_eq_getElem hlt]; simp)
      clear hx
      go_wp2_with fail
      refine (may_cl x _).mono ?_
      rintro e w' ⟨rfl, rfl⟩
      clear q0
      cases hb : pageOk x with
      | true =>
        go_wp2_with fail
        go_round
        case rel => exact ⟨k + 1, by omega, by go_num, Lib.hid (by rw [Hx.out, List.any_append, HI.out]; simp [hb])⟩
        case measure => simp [intOf]; omega
      | false =>
        go_wp2_with fail
        go_ret
        exact ⟨k, rfl, by rw [HL.out, List.any_append]; simp [hb], rfl⟩
    · obtain rfl : k = l.length := by omega
      go_wp2_with fail
      go_ret
      exact ⟨-1, rfl, by have := HI.out; rw [List.take_length] at this; rw [this]; rfl, rfl⟩
theorem may_any (A : Option Addr) (c : Nat) (l : List Int) (w : World) (hr : Kd.C (Kd.int .i64) w A l.length l) (hm : l.length ≤ 9223372036854775807) :
    Calls Try.prog 51 #[.slice A l.length c, .func (.func 52) #[] #[]] w fun e w' => e = .returned (.bool (l.any fun n => !pageOk n)) ∧ w = w' := by
  have HR := Lib.hid hr
  clear hr
  obtain ⟨b, hb⟩ : ∃ b, b = l.any fun n => !pageOk n := ⟨_, rfl⟩
  rw [← hb]
  have HB := Lib.hid hb
  clear hb
  go_enter Try.func51, Try.ntmps51
  go_wp2_with fail
  refine (may_idx A c l w HR.out hm).mono ?_
  rintro e w' ⟨i, rfl, hi, rfl⟩
  rw [← HB.out] at hi
  go_wp2_with fail
  go_ret
  exact ⟨rfl, rfl⟩

def sInt (xs : List Int) : List Value := nums .i64 xs
/-- what 'may' tells -/
def mayB (have_ : List S28) (free : List Int) : Bool :=
  let all := have_.map (·.f0)
  (List.range free.length).all (fun i => !(all.contains (free.getD i 0)) && !((free.take i).contains (free.getD i 0))) && (all ++ free).all pageOk
def shelf_may.f (l0 : List S28) (l1 : List Int) : Option Bool := if (l0.length + l1.length) * 8 ≤ 140737488355328 then some (mayB l0 l1) else none

theorem wrap_succ {i n : Nat} (h : i < n) (hm : n ≤ 140737488355328) : wrap64 ((i : Int) + 1) = ((i + 1 : Nat) : Int) := by
  unfold wrap64
  omega
theorem index_loop (l : List Int) (x : Int) (hm : l.length ≤ 140737488355328) : ∀ (d i : Nat), l.length - i = d → i ≤ l.length → ∀ k, d < k → ∃ r : Int, slices_Index_int_int.l0 k l x (l.length : Int) (i : Int) = some r ∧ decide (0 ≤ r) = (l.drop i).contains x := by
  intro d
  induction d with
  | zero =>
    intro i hd hi k hk
    obtain ⟨k, rfl⟩ : ∃ m, k = m + 1 := ⟨k - 1, by omega⟩
    refine ⟨-1, by simp only [slices_Index_int_int.l0]; rw [if_neg (by omega)], ?_⟩
    rw [List.drop_eq_nil_of_le (by omega)]
    rfl
  | succ d ih =>
    intro i hd hi k hk
    obtain ⟨k, rfl⟩ : ∃ m, k = m + 1 := ⟨k - 1, by omega⟩
    have hlt : i < l.length := by omega
    have hrd : rd l (i : Int) = l[i] := by simp [rd, List.getD_eq_getElem?_getD, List.getElem?_eq_getElem hlt]
    rw [List.drop_eq_getElem_cons hlt, List.contains_cons]
    simp only [slices_Index_int_int.l0]
    rw [if_pos (by omega), if_pos (by omega), if_pos (by omega), hrd]
    by_cases hx : x = l[i]
    · rw [if_pos hx]
      exact ⟨i, rfl, by simp [hx]⟩
    · rw [if_neg hx, wrap_succ hlt hm]
      obtain ⟨r, h1, h2⟩ := ih (i + 1) (by omega) (by omega) k (by omega)
      exact ⟨r, h1, by rw [h2]; simp [hx]⟩
theorem contains_f (l : List Int) (x : Int) (hm : l.length ≤ 140737488355328) : ∃ k, slices_Contains_int_int.f k l x = some (l.contains x) := by
  obtain ⟨r, h1, h2⟩ := index_loop l x hm l.length 0 (by omega) (by omega) (l.length + 1) (by omega)
  refine ⟨l.length + 1, ?_⟩
  unfold slices_Contains_int_int.f slices_Index_int_int.f
  rw [show ((0 : Nat) : Int) = 0 from rfl] at h1
  rw [h1, Option.bind_some]
  rw [List.drop_zero] at h2
  rw [← h2]
theorem may_no1 {l0 : List S28} {l1 : List Int} {al : List Int} {k : Nat} {x : Int} (ha : al = l0.map (·.f0)) (hk : k < l1.length) (hx : x = l1.getD k 0) (h : al.contains x = true) : mayB l0 l1 = false := by
  unfold mayB
  have : (List.range l1.length).all (fun i => !((l0.map (·.f0)).contains (l1.getD i 0)) && !((l1.take i).contains (l1.getD i 0))) = false := by
    rw [List.all_eq_false]
    exact ⟨k, List.mem_range.2 hk, by rw [← ha, ← hx, h]; simp⟩
  simp only [this, Bool.false_and]
theorem may_no2 {l0 : List S28} {l1 : List Int} {k : Nat} {x : Int} (hk : k < l1.length) (hx : x = l1.getD k 0) (h : (l1.take k).contains x = true) : mayB l0 l1 = false := by
  unfold mayB
  have : (List.range l1.length).all (fun i => !((l0.map (·.f0)).contains (l1.getD i 0)) && !((l1.take i).contains (l1.getD i 0))) = false := by
    rw [List.all_eq_false]
    exact ⟨k, List.mem_range.2 hk, by rw [← hx, h]; simp⟩
  simp only [this, Bool.false_and]
theorem may_end {l0 : List S28} {l1 : List Int} {al : List Int} (ha : al = l0.map (·.f0)) (h : (List.range l1.length).all (fun i => !(al.contains (l1.getD i 0)) && !((l1.take i).contains (l1.getD i 0))) = true) :
    (!((al ++ l1).any fun n => !pageOk n)) = mayB l0 l1 := by
  unfold mayB
  subst ha
  simp only [h, Bool.true_and]
  rw [List.not_any_eq_all_not]
  simp
theorem may_take {l0 : List S28} {k : Nat} (hk : k < l0.length) {x : S28} (hx : x = rd_T28 l0 k) : (l0.take (k + 1)).map (·.f0) = (l0.take k).map (·.f0) ++ [x.f0] := by
  rw [List.take_succ_eq_append_getElem hk, List.map_append, hx]
  simp [rd_T28, List.getD_eq_getElem?_getD, List.getElem?_eq_getElem hk]
set_option maxHeartbeats 1000000 in
set_option maxRecDepth 100000 in
theorem shelf_may.calls (A0 : Option Addr) (c0 : Nat) (l0 : List S28) (A1 : Option Addr) (c1 : Nat) (l1 : List Int) (r : Bool) (w : World) (hr0 : Kd.C k28 w A0 l0.length l0) (hc0 : l0.length ≤ c0) (hr1 : Kd.C (Kd.int .i64) w A1 l1.length l1) (hc1 : l1.length ≤ c1) (h : shelf_may.f l0 l1 = some r) :
    Calls Try.prog 26 #[.slice A0 l0.length c0, .slice A1 l1.length c1] w fun e w' => e = .returned (.bool r) ∧ Below w.heap.size w w' := by
  unfold shelf_may.f at h
  by_cases hs : (l0.length + l1.length) * 8 ≤ 140737488355328
  · rw [if_pos hs] at h
    have H := Lib.hid (Option.some.inj h)
    have HR0 := Lib.hid hr0
    have HR1 := Lib.hid hr1
    clear h hr0 hr1
    go_enter Try.func26, Try.ntmps26
    go_wp2_with fail
    go_loopw [5, 12] (fun v i wr => ∃ k : Nat, k ≤ l0.length ∧ i = .int .i64 k ∧ Hid (wr.ownsRow w.heap.size 3 1 v ((l0.take k).map (·.f0)).length (nums .i64 ((l0.take k).map (·.f0))) ∧ Below w.heap.size w wr))
      (fun _ i _ => l0.length - (intOf i).toNat)
    case atStart => exact ⟨0, Nat.zero_le _, rfl, Lib.hid ⟨World.ownsRow_nil _ _ _ _, Below.refl _ _⟩⟩
    case round =>
      obtain ⟨k, hk, rfl, HI⟩ := hrel
      by_cases hlt : k < l0.length
      · obtain ⟨ad, rfl, q0, q1⟩ := at_T28 (Kd.C_below HR0.out HI.out.2) k (by omega) (by omega)
        obtain ⟨x, hx⟩ : ∃ c, c = rd_T28 l0 k := ⟨_, rfl⟩
        rw [← hx] at q0 q1
        simp only [Int.toNat_natCast] at q0 q1
        have Hx := Lib.hid hx
        clear hx
        have HO := Lib.hid (HI.out.1.alloc (.cells #[.int .i64 x.f0, .string x.f1] 28))
        have HB := Lib.hid (below_alloc HI.out.2 (.cells #[.int .i64 x.f0, .string x.f1] 28))
        have HZ := Lib.hid (show w.heap.size ≤ (wr.alloc (.cells #[.int .i64 x.f0, .string x.f1] 28)).heap.size from HB.out.size)
        have HL := Lib.hid (show (((l0.take k).map (·.f0)).length + 1) * 8 ≤ 140737488355328 by simp; omega)
        have HC := Lib.hid (show (wr.alloc (.cells #[.int .i64 x.f0, .string x.f1] 28)).cell? ⟨wr.heap.size, 0, none⟩ = some (.int .i64 x.f0) by simp)
        go_upto_region 5 with (fail)
        generalize wr.alloc (.cells #[.int .i64 x.f0, .string x.f1] 28) = W at HO HB HZ HC ⊢
        have hc := HC.out
        clear q0 q1
        go_wp2_with (at_builtin; refine print_append_num (w0 := w) w.heap.size rfl (.tmp 16) (.tmp 19) 24 3 .i64 8 rfl Try.underlying24 info3 (by omega) u5 ((l0.take k).map (·.f0)) x.f0 rfl rfl HO.out HB.out HZ.out HL.out ?_; intro v1 w1 hown hb1 hg hat; have HN := Lib.hid (And.intro hown hb1); clear hown hb1 hg hat)
        go_roundw
        case rel => exact ⟨k + 1, by omega, by go_num, Lib.hid (by rw [may_take hlt Hx.out]; exact HN.out)⟩
        case measure => simp [intOf]; omega
      · obtain rfl : k = l0.length := by omega
        obtain ⟨ho, hb⟩ := HI.out
        rw [List.take_length] at ho
        obtain ⟨al, hal⟩ : ∃ al : List Int, al = l0.map (·.f0) := ⟨_, rfl⟩
        rw [← hal] at ho
        have HA := Lib.hid hal
        clear hal HI
        obtain ⟨A2, c2, rfl, h2, hr2⟩ := own_reads_of_le (enc := Value.int .i64) (d := (0 : Int)) ho
        have HO := Lib.hid ho
        have HB := Lib.hid hb
        have HR2 := Lib.hid (Kd.C_of_reads (d := (0 : Int)) (h1 := fun _ => rfl) hr2)
        clear ho hb hr2
        go_wp2_with fail
        obtain ⟨w0, rfl⟩ : ∃ w0 : World, w0 = wr := ⟨_, rfl⟩
        go_loopw [24] (fun i wr => ∃ k : Nat, k ≤ l1.length ∧ i = .int .i64 k ∧ Hid ((List.range k).all (fun i => !(al.contains (l1.getD i 0)) && !((l1.take i).contains (l1.getD i 0))) = true ∧ Below w0.heap.size w0 wr))
          (fun i _ => l1.length - (intOf i).toNat)
        case atStart => exact ⟨0, Nat.zero_le _, rfl, Lib.hid ⟨rfl, Below.refl _ _⟩⟩
        case round =>
          obtain ⟨k, hk, rfl, HI⟩ := hrel
          have HD := Lib.hid (below_then HB.out HB.out.size HI.out.2)
          by_cases hlt : k < l1.length
          · obtain ⟨ad, rfl, q0⟩ := at_int (Kd.C_below HR1.out HD.out) hlt
            obtain ⟨x, hx⟩ : ∃ x, x = l1.getD k 0 := ⟨_, rfl⟩
            rw [← hx] at q0
            have Hx := Lib.hid hx
            clear hx
            obtain ⟨k1, hk1⟩ := contains_f al x (by rw [HA.out, List.length_map]; omega)
            obtain ⟨k2, hk2⟩ := contains_f (l1.take k) x (by rw [List.length_take]; omega)
            have HC1 := Lib.hid hk1
            have HC2 := Lib.hid hk2
            clear hk1 hk2
            have HT := Lib.hid (show (l1.take k).length = k by rw [List.length_take]; omega)
            go_wp2_with fail
            refine (slices_Contains_int_int.calls k1 A2 c2 al x _ _ (Kd.C_below HR2.out HI.out.2) h2 HC1.out).mono ?_
            rintro e w1 ⟨rfl, hd1⟩
            have HD1 := Lib.hid (below_then HI.out.2 HI.out.2.size hd1.below)
            clear hd1 q0
            cases hca : al.contains x with
            | true =>
              obtain rfl : r = false := by rw [← H.out]; exact may_no1 HA.out hlt Hx.out hca
              go_wp2_with fail
              go_ret
              exact ⟨rfl, below_then HB.out HB.out.size HD1.out⟩
            | false =>
              have hkc : k ≤ c1 := by omega
              go_wp2_with fail
              have HK := slices_Contains_int_int.calls k2 (some ad) c1 (l1.take k) x _ w1 (Kd.C_take (Kd.C_below HR1.out (below_then HB.out HB.out.size HD1.out)) (by omega)) (by rw [HT.out]; omega) HC2.out
              rw [HT.out] at HK
              refine HK.mono ?_
              clear HK
              rintro e w2 ⟨rfl, hd2⟩
              have HD2 := Lib.hid (below_then HD1.out HD1.out.size hd2.below)
              clear hd2
              cases hcb : (l1.take k).contains x with
              | true =>
                obtain rfl : r = false := by rw [← H.out]; exact may_no2 hlt Hx.out hcb
                go_wp2_with fail
                go_ret
                exact ⟨rfl, below_then HB.out HB.out.size HD2.out⟩
              | false =>
                go_wp2_with fail
                go_roundw
                case rel => exact ⟨k + 1, by omega, by go_num, Lib.hid ⟨by rw [List.range_succ, List.all_append, HI.out.1]; simp only [List.all_cons, List.all_nil]; rw [← Hx.out, hca, hcb]; rfl, HD2.out⟩⟩
                case measure => simp [intOf]; omega
          · obtain rfl : k = l1.length := by omega
            have HO1 := Lib.hid (pw_own_below HO.out HI.out.2)
            have HR3 := Lib.hid (Kd.reads_of_C (enc := Value.int .i64) (d := (0 : Int)) (h1 := fun _ => rfl) (Kd.C_below HR1.out HD.out))
            have HL := Lib.hid (show (al.length + l1.length) * 8 ≤ 140737488355328 by rw [HA.out, List.length_map]; exact hs)
            go_wp2_with (at_builtin; refine print_append_row (w0 := w) w.heap.size rfl (.tmp 40) (.tmp 41) 24 3 .i64 8 rfl Try.underlying24 info3 (by omega) _ al l1 A1 l1.length c1 rfl rfl HO1.out HR3.out HD.out HD.out.size HL.out ?_; intro v1 w1 hown hb1 hg hat; have HN := Lib.hid (And.intro hown hb1); clear hown hb1 hg hat)
            obtain ⟨A3, c3, rfl, h3, hr3⟩ := own_reads_of_le (enc := Value.int .i64) (d := (0 : Int)) HN.out.1
            refine (may_any A3 c3 (al ++ l1) w1 (Kd.C_of_reads (d := (0 : Int)) (h1 := fun _ => rfl) hr3) (by rw [List.length_append, HA.out, List.length_map]; omega)).mono ?_
            rintro e w' ⟨rfl, rfl⟩
            have HF := Lib.hid (show (!((al ++ l1).any fun n => !pageOk n)) = r by rw [← H.out]; exact may_end HA.out HI.out.1)
            generalize ((al ++ l1).any fun n => !pageOk n) = bb at HF ⊢
            clear hr3
            go_wp2_with fail
            go_ret
            exact ⟨by rw [HF.out]; rfl, HN.out.2⟩
  · rw [if_neg hs] at h
    cases h
end Go.Proofs.Ytjnhbalclimmnaa.PA
