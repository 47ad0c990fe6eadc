/- The law ShelfRights, walked by hand. -/
import Derived.Test.YtjnhbalclimmnaaN6
import Derived.Test.YtjnhbalclimmnaaPAx10
set_option linter.unusedSimpArgs false
set_option linter.unusedVariables false
namespace Go.Proofs.Ytjnhbalclimmnaa.PA
open Go Go.RowKit Go.Proofs.YtjnhbalclimmnaaW.PrintWords Go.Proofs.YtjnhbalclimmnaaW.PrintMore H L

def inK (n : Int) : Bool := decide (0 ≤ n) && decide (n ≤ 2147483647)
theorem rights_cl (n : Int) (w : World) : Calls Try.prog 20 #[.int .i64 n] w fun e w' => e = .returned (.bool (inK n)) ∧ w = w' := by
  by_cases h : 0 ≤ n
  · have h1 : decide (0 ≤ n) = true := decide_eq_true h
    by_cases h3 : n ≤ 2147483647
    · have h4 : decide (n ≤ 2147483647) = true := decide_eq_true h3
      rw [show inK n = true from by simp [inK, h1, h4]]
      go_enter Try.func20, Try.ntmps20
      go_wp2_with fail
      go_ret
      exact ⟨rfl, rfl⟩
    · have h4 : decide (n ≤ 2147483647) = false := decide_eq_false h3
      rw [show inK n = false from by simp [inK, h1, h4]]
      go_enter Try.func20, Try.ntmps20
      go_wp2_with fail
      go_ret
      exact ⟨rfl, rfl⟩
  · have h1 : decide (0 ≤ n) = false := decide_eq_false h
    rw [show inK n = false from by simp [inK, h1]]
    go_enter Try.func20, Try.ntmps20
    go_wp2_with fail
    go_ret
    exact ⟨rfl, rfl⟩
theorem rights_cells (W : World) (a b : Int) (s : ByteArray) : Kd.C k45 (W.alloc (.cells #[.int .i64 a, .string s, .int .i64 b, .string ⟨#[]⟩] 45)) (some ⟨W.heap.size, 0, none⟩) ([⟨a, s⟩, ⟨b, ⟨#[]⟩⟩] : List S45).length [⟨a, s⟩, ⟨b, ⟨#[]⟩⟩] := by
  refine ⟨rfl, by simp [maxLen], fun _ => ⟨_, rfl, fun j x hj => ?_⟩⟩
  have hsz : k45.sz = 2 := by decide
  match j with
  | 0 =>
    injection hj with hj
    subst hj
    refine ⟨[.int .i64 a, .string s], rfl, k45_mk _ _, fun i u hu => ?_⟩
    match i with
    | 0 => injection hu with hu; rw [← hu]; simp [Addr.add, hsz]
    | 1 => injection hu with hu; rw [← hu]; simp [Addr.add, hsz]
    | i + 2 => cases hu
  | 1 =>
    injection hj with hj
    subst hj
    refine ⟨[.int .i64 b, .string ⟨#[]⟩], rfl, k45_mk _ _, fun i u hu => ?_⟩
    match i with
    | 0 => injection hu with hu; rw [← hu]; simp [Addr.add, hsz]
    | 1 => injection hu with hu; rw [← hu]; simp [Addr.add, hsz]
    | i + 2 => cases hu
  | j + 2 => cases hj
set_option maxHeartbeats 1000000 in
set_option maxRecDepth 100000 in
theorem shelfRights_calls (a b size : Int) (w : World) :
    Calls Try.prog 7 #[.int .i64 a, .int .i64 b, .int .i64 size] w fun e w' => e = .returned (.bool true) ∧ Below w.heap.size w w' := by
  have HAl := Lib.hid (alive_f 300 (by omega))
  by_cases hgood : 0 ≤ size ∧ size ≤ 1200
  · obtain ⟨h0, h1⟩ := hgood
    obtain ⟨n, rfl⟩ : ∃ n : Nat, size = n := ⟨size.toNat, by omega⟩
    have hn : n ≤ 1200 := by omega
    have d1 : decide ((n : Int) < 0) = false := by simp
    have d2 : decide ((1200 : Int) < (n : Int)) = false := by simp; omega
    clear h0 h1
    obtain ⟨l, hl⟩ : ∃ l, l = rightsL a b n := ⟨_, rfl⟩
    obtain ⟨m, hm⟩ : ∃ m, m = (planP l [] allP).1.length := ⟨_, rfl⟩
    obtain ⟨r, hr⟩ : ∃ r, r = rightsB a b n := ⟨_, rfl⟩
    have HNeed := Lib.hid (show shelf_Need.f 300 l = some (m : Int) by rw [hm]; exact need_f l (by rw [hl]; simp [rightsL]) 300 (by omega))
    have HRight := Lib.hid (show shelf_Right.f (l.length + 1) l = some r by rw [hr, Right_f l (by rw [hl]; simp [rightsL]), hl, rights_right])
    have HM := Lib.hid (show decide (0 < m) = r by rw [hm, hr, hl]; exact rights_need a b n)
    have HNeed0 := Lib.hid (show shelf_Need.f 300 [] = some 1 by rw [need_f [] (by decide) 300 (by omega), none_need]; rfl)
    have HRight0 := Lib.hid (show shelf_Right.f 1 [] = some true from Right_f [] (by decide))
    have HL := Lib.hid hl
    have HR := Lib.hid (show r = (inK a && inK b && decide (a < b) && decide ((n : Int) ≤ 900)) by rw [hr, show decide ((n : Int) ≤ 900) = decide (n ≤ 900) from decide_eq_decide.2 (by omega)]; rfl)
    have hz : strOfNums (List.replicate n 0) = zerosB n := by simp [strOfNums, zerosB]
    have HZ := Lib.hid hz
    have hn2 : n ≤ 281474976710656 := by omega
    clear hl hm hr hz
    go_enter Try.func7, Try.ntmps7
    go_wp2_with fail
    refine (maquettelaw16_alive.calls 300 true w HAl.out).mono ?_
    rintro e w2 ⟨rfl, hb2⟩
    have HB2 := Lib.hid hb2
    clear hb2 d1 d2
    go_wp2_with ((with_reducible refine gate_dst (N := 23) rfl ?_); refine Kd.R_make (Kd.int .u8) _ 5 rfl (N := 23) rfl 43 _ _ rfl (n : Int) rfl rfl Try.underlying43 (.int .u8 0) 1 info5 rfl (by decide) (by omega) 0 (ok := fun _ => True) (okp := fun _ => True) rfl (fun _ hk => hk) trivial (by omega) (by simp; omega) (Below.refl _ _) (Nat.le_refl _) ?_; intro v133 w5 ho6 hb hg_ hnew_; rw [Int.toNat_natCast] at ho6; have HB3 := Lib.hid (below_step HB2.out hb); have hcv7 := own_string (P := Try.prog) Try.underlying43 Try.underlying5 Try.underlying9 (Kd.own_of_R ho6); rw [HZ.out] at hcv7; clear hg_ hnew_ hb ho6)
    have HC := Lib.hid (show Kd.C k45 (w5.alloc (.cells #[.int .i64 a, .string (zerosB n), .int .i64 b, .string ⟨#[]⟩] 45)) (some ⟨w5.heap.size, 0, none⟩) l.length l by rw [HL.out]; exact rights_cells w5 a b (zerosB n))
    have HBW := Lib.hid (below_alloc HB3.out (.cells #[.int .i64 a, .string (zerosB n), .int .i64 b, .string ⟨#[]⟩] 45))
    have HLen := Lib.hid (show l.length = 2 by rw [HL.out]; rfl)
    clear hcv7 HB3 HB2
    generalize w5.alloc (.cells #[.int .i64 a, .string (zerosB n), .int .i64 b, .string ⟨#[]⟩] 45) = W at HC HBW ⊢
    generalize w5.heap.size = g at HC ⊢
    have hcase : (inK a = false ∧ r = false) ∨ (inK a = true ∧ inK b = false ∧ r = false) ∨ (inK a = true ∧ inK b = true ∧ decide (a < b) = false ∧ r = false) ∨ (inK a = true ∧ inK b = true ∧ decide (a < b) = true ∧ decide ((n : Int) ≤ 900) = false ∧ r = false) ∨
        (inK a = true ∧ inK b = true ∧ decide (a < b) = true ∧ decide ((n : Int) ≤ 900) = true ∧ r = true) := by
      rw [HR.out]
      cases inK a <;> cases inK b <;> cases decide (a < b) <;> cases decide ((n : Int) ≤ 900) <;> simp
    clear HR HL
    refine (rights_cl a _).mono ?_
    rintro e w' ⟨rfl, rfl⟩
    rcases hcase with ⟨ka, rfl⟩ | ⟨ka, kb, rfl⟩ | ⟨ka, kb, kc, rfl⟩ | ⟨ka, kb, kc, kd, rfl⟩ | ⟨ka, kb, kc, kd, rfl⟩
    · rw [ka]
      clear ka
      go_wp2_with fail
      have HK := shelf_Right.calls (l.length + 1) (some ⟨g, 0, none⟩) 2 l _ W HC.out (by rw [HLen.out]; exact Nat.le_refl _) HRight.out
      rw [HLen.out] at HK
      refine HK.mono ?_
      clear HK
      rintro e w6 ⟨rfl, hb6⟩
      have HB6 := Lib.hid (And.intro (below_then HBW.out HBW.out.size hb6) hb6)
      clear hb6
      go_wp2_with fail
      have HK := shelf_Need.calls 300 (some ⟨g, 0, none⟩) 2 l m w6 (Kd.C_below HC.out HB6.out.2) (by rw [HLen.out]; exact Nat.le_refl _) HNeed.out
      rw [HLen.out] at HK
      refine HK.mono ?_
      clear HK
      rintro e w7 ⟨rfl, hb7⟩
      have HB7 := Lib.hid (below_then HB6.out.1 HB6.out.1.size hb7)
      clear hb7 HB6
      have hm1 := HM.out
      go_wp2_with fail
      have HK := shelf_Right.calls 1 none 0 [] true w7 (Kd.C_nil _ _) (Nat.le_refl _) HRight0.out
      rw [show ([] : List S45).length = 0 from rfl] at HK
      refine HK.mono ?_
      clear HK
      rintro e w8 ⟨rfl, hb8⟩
      have HB8 := Lib.hid (below_then HB7.out HB7.out.size hb8)
      clear hb8 HB7
      go_wp2_with fail
      have HK := shelf_Need.calls 300 none 0 [] 1 w8 (Kd.C_nil _ _) (Nat.le_refl _) HNeed0.out
      rw [show ([] : List S45).length = 0 from rfl] at HK
      refine HK.mono ?_
      clear HK
      rintro e w9 ⟨rfl, hb9⟩
      have HB9 := Lib.hid (below_then HB8.out HB8.out.size hb9)
      clear hb9 HB8
      go_wp2_with fail
      go_ret
      exact ⟨rfl, HB9.out⟩
    all_goals
      rw [ka]
      clear ka
      go_wp2_with fail
      refine (rights_cl b _).mono ?_
      rintro e w' ⟨rfl, rfl⟩
      rw [kb]
      clear kb
      go_wp2_with fail
      have HK := shelf_Right.calls (l.length + 1) (some ⟨g, 0, none⟩) 2 l _ W HC.out (by rw [HLen.out]; exact Nat.le_refl _) HRight.out
      rw [HLen.out] at HK
      refine HK.mono ?_
      clear HK
      rintro e w6 ⟨rfl, hb6⟩
      have HB6 := Lib.hid (And.intro (below_then HBW.out HBW.out.size hb6) hb6)
      clear hb6
      go_wp2_with fail
      have HK := shelf_Need.calls 300 (some ⟨g, 0, none⟩) 2 l m w6 (Kd.C_below HC.out HB6.out.2) (by rw [HLen.out]; exact Nat.le_refl _) HNeed.out
      rw [HLen.out] at HK
      refine HK.mono ?_
      clear HK
      rintro e w7 ⟨rfl, hb7⟩
      have HB7 := Lib.hid (below_then HB6.out.1 HB6.out.1.size hb7)
      clear hb7 HB6
      have hm1 := HM.out
      go_wp2_with fail
      have HK := shelf_Right.calls 1 none 0 [] true w7 (Kd.C_nil _ _) (Nat.le_refl _) HRight0.out
      rw [show ([] : List S45).length = 0 from rfl] at HK
      refine HK.mono ?_
      clear HK
      rintro e w8 ⟨rfl, hb8⟩
      have HB8 := Lib.hid (below_then HB7.out HB7.out.size hb8)
      clear hb8 HB7
      go_wp2_with fail
      have HK := shelf_Need.calls 300 none 0 [] 1 w8 (Kd.C_nil _ _) (Nat.le_refl _) HNeed0.out
      rw [show ([] : List S45).length = 0 from rfl] at HK
      refine HK.mono ?_
      clear HK
      rintro e w9 ⟨rfl, hb9⟩
      have HB9 := Lib.hid (below_then HB8.out HB8.out.size hb9)
      clear hb9 HB8
      go_wp2_with fail
      go_ret
      exact ⟨rfl, HB9.out⟩
  · have hc : decide (size < 0) = true ∨ (decide (size < 0) = false ∧ decide ((1200 : Int) < size) = true) := by
      by_cases h1 : size < 0
      · exact .inl (decide_eq_true h1)
      · refine .inr ⟨decide_eq_false h1, decide_eq_true ?_⟩
        have : ¬ (0 ≤ size ∧ size ≤ 1200) := hgood
        omega
    clear hgood
    rcases hc with d1 | ⟨d1, d2⟩
    all_goals
      go_enter Try.func7, Try.ntmps7
      go_wp2_with fail
      refine (maquettelaw16_alive.calls 300 true w HAl.out).mono ?_
      rintro e w2 ⟨rfl, hb2⟩
      have HB2 := Lib.hid hb2
      clear hb2
      go_wp2_with fail
      go_ret
      exact ⟨rfl, HB2.out⟩
end Go.Proofs.Ytjnhbalclimmnaa.PA
