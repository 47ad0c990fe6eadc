/- The law ShelfErrors, walked by hand. -/
import Derived.Test.YtjnhbalclimmnaaN5
import Derived.Test.YtjnhbalclimmnaaH8
set_option linter.unusedSimpArgs false
set_option linter.unusedVariables false
namespace Go.Proofs.Ytjnhbalclimmnaa.PA
open Go Go.RowKit Go.Proofs.YtjnhbalclimmnaaW.PrintWords Go.Proofs.YtjnhbalclimmnaaW.PrintMore H L

theorem upTo_snoc (n : Nat) : upTo n ++ [(n : Int) + 2] = upTo (n + 1) := (upTo_succ n).symm
set_option maxHeartbeats 1000000 in
set_option maxRecDepth 100000 in
theorem shelfErrors_calls (A0 : Option Addr) (c0 : Nat) (l0 : List S45) (bad free : Int) (w : World) (hr0 : Kd.C k45 w A0 l0.length l0) (hc0 : l0.length ≤ c0) (hl : l0.length ≤ 140737488351232) :
    Calls Try.prog 6 #[.slice A0 l0.length c0, .int .i64 bad, .int .i64 free] w fun e w' => e = .returned (.bool true) ∧ Below w.heap.size w w' := by
  obtain ⟨b, hb, hb2⟩ := few_f l0 hl (l0.length + 1) (by omega)
  have HR0 := Lib.hid hr0
  have HF := Lib.hid hb
  have HAl := Lib.hid (alive_f 300 (by omega))
  clear hr0 hb
  by_cases hgood : b = true ∧ 0 ≤ free ∧ free ≤ 150
  · obtain ⟨rfl, h0, h150⟩ := hgood
    have hlen : l0.length ≤ 120 := hb2 rfl
    obtain ⟨n, rfl⟩ : ∃ n : Nat, free = n := ⟨free.toNat, by omega⟩
    have hn : n ≤ 150 := by omega
    have d1 : decide ((n : Int) < 0) = false := by simp
    have d2 : decide ((150 : Int) < (n : Int)) = false := by simp; omega
    clear h0 h150 hb2
    go_enter Try.func6, Try.ntmps6
    go_wp2_with fail
    refine (maquettelaw16_Few.calls (l0.length + 1) A0 c0 l0 true w HR0.out hc0 HF.out).mono ?_
    rintro e w1 ⟨rfl, hd1⟩
    have HB1 := Lib.hid hd1.below
    clear hd1
    go_wp2_with fail
    refine (maquettelaw16_alive.calls 300 true w1 HAl.out).mono ?_
    rintro e w2 ⟨rfl, hb2⟩
    have HB2 := Lib.hid (below_then HB1.out HB1.out.size hb2)
    clear hb2 HB1 d1 d2
    go_wp2_with fail
    go_loopw [7, 8] (fun v i wr => ∃ k : Nat, k ≤ n ∧ i = .int .i64 k ∧ Hid (wr.ownsRow w.heap.size 3 1 v (upTo k).length (nums .i64 (upTo k)) ∧ Below w.heap.size w wr))
      (fun _ i _ => n - (intOf i).toNat)
    case atStart => exact ⟨0, Nat.zero_le _, rfl, Lib.hid ⟨World.ownsRow_nil _ _ _ _, HB2.out⟩⟩
    case round =>
      obtain ⟨k, hk, rfl, HI⟩ := hrel
      by_cases hlt : k < n
      · have HO := Lib.hid HI.out.1
        have HB := Lib.hid HI.out.2
        have HL := Lib.hid (show ((upTo k).length + 1) * 8 ≤ 140737488355328 by rw [upTo_length]; omega)
        have HU := Lib.hid (upTo_snoc k)
        generalize upTo k = us at HO HL HU
        clear HI
        go_wp2_with (at_builtin; refine print_append_num (w0 := w) w.heap.size rfl (.tmp 38) (.tmp 41) 24 3 .i64 8 rfl Try.underlying24 info3 (by omega) u7 us ((k : Int) + 2) rfl rfl HO.out HB.out HB.out.size HL.out ?_; intro v1 w3 hown hb1 hg hat; have HN := Lib.hid (And.intro hown hb1); clear hown hb1 hg hat)
        go_roundw
        case rel => exact ⟨k + 1, by omega, by go_num, Lib.hid (by rw [← HU.out]; exact HN.out)⟩
        case measure => simp [intOf]; omega
      · obtain rfl : k = n := by omega
        have HB := Lib.hid HI.out.2
        obtain ⟨f, hf⟩ : ∃ f, f = upTo k := ⟨_, rfl⟩
        obtain ⟨A2, c2, rfl, h2, hr2⟩ := own_reads_of_le (enc := Value.int .i64) (d := (0 : Int)) HI.out.1
        rw [← hf] at hr2 h2
        rw [← hf]
        have HC2 := Lib.hid (Kd.C_of_reads (d := (0 : Int)) (h1 := fun _ => rfl) hr2)
        obtain ⟨m, hm⟩ : ∃ m, m = (planP l0 [] allP).1.length := ⟨_, rfl⟩
        obtain ⟨⟨t0, t1, t2⟩, hp⟩ : ∃ x, planP l0 [] f = x := ⟨_, rfl⟩
        obtain ⟨r, hr⟩ : ∃ r, r = rightGo (-1) l0 := ⟨_, rfl⟩
        have HNeed := Lib.hid (show shelf_Need.f 300 l0 = some (m : Int) by rw [hm]; exact need_f l0 (by omega) 300 (by omega))
        have HPlan := Lib.hid (show shelf_Plan.f l0 [] f = some (t0, t1, t2) by
          unfold shelf_Plan.f
          rw [if_pos ⟨by omega, by simp, by rw [hf, upTo_length]; omega, by simp⟩, hp])
        have HRight := Lib.hid (show shelf_Right.f (l0.length + 1) l0 = some r by rw [hr]; exact Right_f l0 (by omega))
        have HA := Lib.hid (show r = true → 0 < m → (t2 = 0 ↔ m ≤ k) by
          intro h1 h2
          have := errors_need (n := k) (l := l0) (by omega) (by rw [← hr]; exact h1) (by rw [← hm]; exact h2)
          rw [← hf, hp, ← hm] at this
          exact this)
        have HE := Lib.hid (show t2 = 0 ∨ t2 = 8 ∨ t2 = 9 ∨ t2 = 12 by
          have := plan_errs l0 [] f
          rw [hp] at this
          exact this)
        have HFK := Lib.hid hf
        clear HI hr2 hm hp hr HAl HF HB2 hf hlt
        go_wp2_with fail
        refine (shelf_Need.calls 300 A0 c0 l0 m wr (Kd.C_below HR0.out HB.out) hc0 HNeed.out).mono ?_
        rintro e w3 ⟨rfl, hb3⟩
        have HB3 := Lib.hid (And.intro (below_then HB.out HB.out.size hb3) hb3)
        clear hb3
        go_wp2_with fail
        have HK := shelf_Plan.calls A0 c0 l0 none 0 [] A2 c2 f t0 t1 t2 w3 (Kd.C_below HR0.out HB3.out.1) hc0 (Kd.C_nil _ _) (Nat.le_refl _) (Kd.C_below HC2.out HB3.out.2) h2 HPlan.out
        rw [show ([] : List S28).length = 0 from rfl] at HK
        refine HK.mono ?_
        clear HK
        rintro e w4 ⟨v4, rfl, -, hb4⟩
        have HB4 := Lib.hid (And.intro (below_then HB3.out.1 HB3.out.1.size hb4) (below_then HB3.out.2 HB3.out.2.size hb4))
        clear hb4 HB3
        go_wp2_with fail
        refine (shelf_Right.calls (l0.length + 1) A0 c0 l0 r w4 (Kd.C_below HR0.out HB4.out.1) hc0 HRight.out).mono ?_
        rintro e w5 ⟨rfl, hb5⟩
        have HB5 := Lib.hid (And.intro (below_then HB4.out.1 HB4.out.1.size hb5) (below_then HB4.out.2 HB4.out.2.size hb5))
        clear hb5 HB4
        have HBAD := Lib.hid (show ¬ ((k : Int) + 2 ≤ bad ∧ bad < 200) → (planP l0 [] (f ++ [bad])).2.2 = 9 by
          intro h
          rw [HFK.out]
          exact errors_bad (by omega) h)
        obtain ⟨⟨s0, s1, s2⟩, hp2⟩ : ∃ x, planP l0 [] (f ++ [bad]) = x := ⟨_, rfl⟩
        have HPlan2 := Lib.hid (show shelf_Plan.f l0 [] (f ++ [bad]) = some (s0, s1, s2) by
          unfold shelf_Plan.f
          rw [if_pos ⟨by omega, by simp, by rw [HFK.out, List.length_append, upTo_length]; simp; omega, by simp⟩, hp2])
        have HBAD2 := Lib.hid (show ¬ ((k : Int) + 2 ≤ bad ∧ bad < 200) → s2 = 9 by
          intro h
          have := HBAD.out h
          rw [hp2] at this
          exact this)
        have HFL := Lib.hid (show f.length = k by rw [HFK.out, upTo_length])
        clear hp2 HBAD
        have hend : ∀ W : World, Hid (Below w.heap.size w W ∧ Below wr.heap.size wr W) → True := fun _ _ => trivial
        clear hend
        have HO := Lib.hid (World.ownsRow_nil w5 w.heap.size 3 1)
        have HRR := Lib.hid (Kd.reads_of_C (enc := Value.int .i64) (d := (0 : Int)) (h1 := fun _ => rfl) (Kd.C_below HC2.out HB5.out.2))
        have HL := Lib.hid (show (([] : List Int).length + f.length) * 8 ≤ 140737488355328 by have := HFL.out; simp; omega)
        have HL2 := Lib.hid (show (f.length + 1) * 8 ≤ 140737488355328 by have := HFL.out; omega)
        clear HFK HNeed HPlan HRight
        have hcase : (r = false ∨ m = 0) ∨ (r = true ∧ 0 < m) := by
          cases r with
          | false => exact .inl (.inl rfl)
          | true =>
            by_cases h : m = 0
            · exact .inl (.inr h)
            · exact .inr ⟨rfl, by omega⟩
        have hE := HE.out
        have hk1 : r = true ∧ 0 < m → (t2 = 0 ∧ decide (m ≤ k) = true) ∨ (t2 ≠ 0 ∧ decide (m ≤ k) = false) := by
          rintro ⟨h1, h2⟩
          have := HA.out h1 h2
          by_cases h : t2 = 0
          · exact .inl ⟨h, decide_eq_true (by have := this.1 h; omega)⟩
          · exact .inr ⟨h, decide_eq_false (fun hh => h (this.2 (by omega)))⟩
        have hall : (r = false ∧ (t2 = 0 ∨ t2 = 8 ∨ t2 = 9 ∨ t2 = 12)) ∨ (r = true ∧ decide (0 < m) = false ∧ (t2 = 0 ∨ t2 = 8 ∨ t2 = 9 ∨ t2 = 12)) ∨
            (r = true ∧ decide (0 < m) = true ∧ (t2 = 0 ∧ decide (m ≤ k) = true)) ∨ (r = true ∧ decide (0 < m) = true ∧ decide (m ≤ k) = false ∧ (t2 = 8 ∨ t2 = 9 ∨ t2 = 12)) := by
          rcases hcase with (h | h) | h
          · exact .inl ⟨h, hE⟩
          · cases hr : r with
            | false => exact .inl ⟨rfl, hE⟩
            | true => exact .inr (.inl ⟨rfl, decide_eq_false (by omega), hE⟩)
          · have hm1 : decide (0 < m) = true := decide_eq_true (by omega)
            rcases hk1 h with h2 | ⟨h2, h3⟩
            · exact .inr (.inr (.inl ⟨h.1, hm1, h2⟩))
            · refine .inr (.inr (.inr ⟨h.1, hm1, h3, ?_⟩))
              rcases hE with h4 | h4
              · exact absurd h4 h2
              · exact h4
        clear hk1 hcase hE HE HA
        rcases hall with ⟨rfl, rfl | rfl | rfl | rfl⟩ | ⟨rfl, hm1, rfl | rfl | rfl | rfl⟩ | ⟨rfl, hm1, rfl, hm2⟩ | ⟨rfl, hm1, hm2, rfl | rfl | rfl⟩
        all_goals
          go_wp2_with (first
            | (at_builtin; refine print_append_row (w0 := w) w.heap.size rfl (.const (.slice none 0 0)) (.tmp 84) 24 3 .i64 8 rfl Try.underlying24 info3 (by omega) _ [] f A2 f.length c2 rfl rfl HO.out HRR.out HB5.out.1 HB5.out.1.size HL.out ?_; intro v1 w6 hown hb1 hg hat; have HN := Lib.hid (And.intro hown (And.intro hb1 trivial)); clear hown hb1 hg hat)
            | (at_builtin; refine print_append_num (w0 := w) w.heap.size rfl (.tmp 85) (.tmp 87) 24 3 .i64 8 rfl Try.underlying24 info3 (by omega) _ f bad rfl rfl HN.out.1 HN.out.2.1 HN.out.2.1.size HL2.out ?_; intro v2 w7 hown2 hb2 hg2 hat2; have HN2 := Lib.hid (And.intro hown2 hb2); clear hown2 hb2 hg2 hat2))
          obtain ⟨A3, c3, rfl, h3, hr3⟩ := own_reads_of_le (enc := Value.int .i64) (d := (0 : Int)) HN2.out.1
          have HK := shelf_Plan.calls A0 c0 l0 none 0 [] A3 c3 (f ++ [bad]) s0 s1 s2 w7 (Kd.C_below HR0.out HN2.out.2) hc0 (Kd.C_nil _ _) (Nat.le_refl _) (Kd.C_of_reads (d := (0 : Int)) (h1 := fun _ => rfl) hr3) h3 HPlan2.out
          rw [show ([] : List S28).length = 0 from rfl] at HK
          have HP := Lib.hid HK
          clear HK hr3
          generalize (f ++ [bad]).length = n3 at HP h3 ⊢
          refine HP.out.mono ?_
          rintro e w8 ⟨v8, rfl, -, hb8⟩
          have HB8 := Lib.hid (below_then HN2.out.2 HN2.out.2.size hb8)
          clear hb8 HN2 HN HP
          by_cases hb1 : (k : Int) + 2 ≤ bad
          · by_cases hb2 : bad < 200
            · go_wp2_with fail
              go_ret
              exact ⟨rfl, HB8.out⟩
            · have hb2' : decide (bad < 200) = false := decide_eq_false hb2
              obtain rfl : s2 = 9 := HBAD2.out (fun h => hb2 h.2)
              go_wp2_with fail
              go_ret
              exact ⟨rfl, HB8.out⟩
          · have hb1' : decide ((k : Int) + 2 ≤ bad) = false := decide_eq_false hb1
            obtain rfl : s2 = 9 := HBAD2.out (fun h => hb1 h.1)
            go_wp2_with fail
            go_ret
            exact ⟨rfl, HB8.out⟩
  · have hc : b = false ∨ (b = true ∧ decide (free < 0) = true) ∨ (b = true ∧ decide (free < 0) = false ∧ decide ((150 : Int) < free) = true) := by
      cases b with
      | false => exact .inl rfl
      | true =>
        by_cases h1 : free < 0
        · exact .inr (.inl ⟨rfl, decide_eq_true h1⟩)
        · refine .inr (.inr ⟨rfl, decide_eq_false h1, decide_eq_true ?_⟩)
          have : ¬ (0 ≤ free ∧ free ≤ 150) := fun h => hgood ⟨rfl, h⟩
          omega
    clear hgood hb2
    rcases hc with rfl | ⟨rfl, d1⟩ | ⟨rfl, d1, d2⟩
    all_goals
      go_enter Try.func6, Try.ntmps6
      go_wp2_with fail
      refine (maquettelaw16_Few.calls (l0.length + 1) A0 c0 l0 _ w HR0.out hc0 HF.out).mono ?_
      rintro e w1 ⟨rfl, hd1⟩
      have HB1 := Lib.hid hd1.below
      clear hd1
      go_wp2_with fail
      refine (maquettelaw16_alive.calls 300 true w1 HAl.out).mono ?_
      rintro e w2 ⟨rfl, hb2⟩
      have HB2 := Lib.hid (below_then HB1.out HB1.out.size hb2)
      clear hb2 HB1
      go_wp2_with fail
      go_ret
      exact ⟨rfl, HB2.out⟩
end Go.Proofs.Ytjnhbalclimmnaa.PA
