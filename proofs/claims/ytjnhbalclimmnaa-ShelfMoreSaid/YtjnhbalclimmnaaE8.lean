/- The law ShelfMore, walked by hand. -/
import Derived.Test.YtjnhbalclimmnaaN6
import Derived.Test.YtjnhbalclimmnaaPAx10
set_option linter.unusedSimpArgs false
set_option linter.unusedVariables false
namespace Go.Proofs.Ytjnhbalclimmnaa.PA
open Go Go.RowKit Go.Proofs.YtjnhbalclimmnaaW.PrintWords Go.Proofs.YtjnhbalclimmnaaW.PrintMore H L

theorem info45h : (Try.prog.info? 45).map (fun i => (i.zero, i.size, i.bytes)) = some (some (.agg #[.int .i64 0, .string ⟨#[]⟩]), 2, 24) := by kernel_rfl
theorem k45_KM {W : World} {base : Nat} {ok : Nat → Prop} : ∀ (x : S45) (cs : List Value), k45.K W x cs → k45.M W base ok x cs := fun x cs h => by
  obtain ⟨_, _, rfl, rfl, rfl⟩ := h
  exact k45_mkM _ _ _ x
set_option maxHeartbeats 1000000 in
set_option maxRecDepth 100000 in
theorem shelfMore_calls (A0 : Option Addr) (c0 : Nat) (l0 : List S45) (s : ByteArray) (w : World) (hr0 : Kd.C k45 w A0 l0.length l0) (hc0 : l0.length ≤ c0) (hl : l0.length ≤ 140737488351232) (hs : s.size ≤ 140737488351232) :
    Calls Try.prog 8 #[.slice A0 l0.length c0, .string s] w fun e w' => e = .returned (.bool true) ∧ Below w.heap.size w w' := by
  obtain ⟨b, hb, hb2⟩ := few_f l0 hl (l0.length + 1) (by omega)
  have HR0 := Lib.hid hr0
  have HF := Lib.hid hb
  have HAl := Lib.hid (alive_f 300 (by omega))
  clear hr0 hb
  by_cases hgood : b = true ∧ s.size ≤ 300
  · obtain ⟨rfl, h300⟩ := hgood
    have hlen : l0.length ≤ 120 := hb2 rfl
    have d2 : decide ((300 : Int) < (s.size : Int)) = false := by simp; omega
    obtain ⟨r, hr⟩ : ∃ r, r = rightGo (-1) l0 := ⟨_, rfl⟩
    have HRight := Lib.hid (show shelf_Right.f (l0.length + 1) l0 = some r by rw [hr]; exact Right_f l0 (by omega))
    obtain ⟨x, hx⟩ : ∃ x, x = (planP l0 [] allP).1.length := ⟨_, rfl⟩
    have HNeed := Lib.hid (show shelf_Need.f 300 l0 = some (x : Int) by rw [hx]; exact need_f l0 (by omega) 300 (by omega))
    have HXY := Lib.hid (fun (q : S45) => show shelf_Need.f 300 (l0 ++ [q]) = some (((planP (l0 ++ [q]) [] allP).1.length : Nat) : Int) ∧ (r = true → x = 0 ∨ (x ≠ 0 ∧ (planP (l0 ++ [q]) [] allP).1.length = 0) ∨ (x ≠ 0 ∧ (planP (l0 ++ [q]) [] allP).1.length ≠ 0 ∧ x ≤ (planP (l0 ++ [q]) [] allP).1.length)) by
      refine ⟨need_f _ (by rw [List.length_append, List.length_singleton]; omega) 300 (by omega), fun h => ?_⟩
      rw [hx]
      by_cases h1 : (planP l0 [] allP).1.length = 0
      · exact .inl h1
      by_cases h2 : (planP (l0 ++ [q]) [] allP).1.length = 0
      · exact .inr (.inl ⟨h1, h2⟩)
      · exact .inr (.inr ⟨h1, h2, plan_more (by rw [← hr]; exact h) h1 h2⟩))
    have HKey := Lib.hid (show r = true → ∀ j : Nat, j < l0.length → 0 ≤ (rd_T45 l0 j).f0 from fun h j hj => by
      have := right_all l0 (-1) (by rw [← hr]; exact h) l0[j] (List.getElem_mem hj)
      simp [rd_T45, List.getD_eq_getElem?_getD, List.getElem?_eq_getElem hj]
      omega)
    clear hr hx hb2
    obtain ⟨n, hn⟩ : ∃ n, n = l0.length := ⟨_, rfl⟩
    have HN := Lib.hid hn
    rw [← hn] at hc0 hlen hl ⊢
    clear hn
    have hkey : n = 0 ∨ ∃ j, n = j + 1 := by cases n with
      | zero => exact .inl rfl
      | succ j => exact .inr ⟨j, rfl⟩
    rcases hkey with rfl | ⟨j, rfl⟩
    · skip
      have HK := maquettelaw16_Few.calls (l0.length + 1) A0 c0 l0 true w HR0.out (by rw [← HN.out]; exact hc0) HF.out
      rw [← HN.out] at HK
      have HK2 := Lib.hid HK
      clear HK
      go_enter Try.func8, Try.ntmps8
      go_wp2_with fail
      refine HK2.out.mono ?_
      rintro e w1 ⟨rfl, hd1⟩
      have HB1 := Lib.hid hd1.below
      clear hd1 HK2
      go_wp2_with fail
      refine (maquettelaw16_alive.calls 300 true w1 HAl.out).mono ?_
      rintro e w2 ⟨rfl, hb2⟩
      have HB2 := Lib.hid (below_then HB1.out HB1.out.size hb2)
      clear hb2 HB1
      clear d2
      go_wp2_with fail
      have HK := shelf_Right.calls (l0.length + 1) A0 c0 l0 r w2 (Kd.C_below HR0.out HB2.out) (by rw [← HN.out]; exact hc0) HRight.out
      rw [← HN.out] at HK
      refine HK.mono ?_
      clear HK
      rintro e w3 ⟨rfl, hb3⟩
      have HB3 := Lib.hid (below_then HB2.out HB2.out.size hb3)
      clear hb3 HB2
      cases r with
      | false =>
        go_wp2_with fail
        go_ret
        exact ⟨rfl, HB3.out⟩
      | true =>
        obtain ⟨q, hq⟩ : ∃ q : S45, q = ⟨1, s⟩ := ⟨_, rfl⟩
        obtain ⟨hN2, hXY⟩ := HXY.out q
        have hXY2 := hXY rfl
        obtain ⟨y, hy⟩ : ∃ y, y = (planP (l0 ++ [q]) [] allP).1.length := ⟨_, rfl⟩
        rw [← hy] at hN2 hXY2
        have HNeed2 := Lib.hid hN2
        have HXY2 := Lib.hid hXY2
        have HQ := Lib.hid hq
        clear hN2 hXY hXY2 hy hq HXY
        have HO := Lib.hid (Kd.R_nil k45 45 w3 w.heap.size (fun _ => True))
        have HCr := Lib.hid (show Kd.C k45 w3 A0 (0) l0 by have := Kd.C_below HR0.out HB3.out; rw [← HN.out] at this; exact this)
        have HL := Lib.hid (show (([] : List S45).length + (0)) * 24 ≤ 140737488355328 by first | (simp; done) | (simp; omega))
        have HL2 := Lib.hid (show (l0.length + 1) * 24 ≤ 140737488355328 by rw [← HN.out]; omega)
        go_wp2_with (first
          | (at_builtin; refine Kd.R_append_rows k45 (w0 := w) w.heap.size rfl (.const (.slice none 0 0)) (.tmp 39) 22 45 (.agg #[.int .i64 0, .string ⟨#[]⟩]) 24 rfl Try.underlying22 info45h rfl (by decide) (by omega) _ [] l0 A0 (0) c0 (fun _ => True) (fun _ => False) rfl rfl HO.out HCr.out k45_KM (fun _ hk => hk.elim) (fun _ _ => trivial) HB3.out HB3.out.size HL.out ?_; intro v1 w6 hown hb1 hg hat; have HN1 := Lib.hid (And.intro hown hb1); clear hown hb1 hg hat)
          | (at_builtin; refine Kd.R_append k45 (w0 := w) w.heap.size rfl (.tmp 40) (.tmp 45) 22 45 (.agg #[.int .i64 0, .string ⟨#[]⟩]) 24 rfl Try.underlying22 info45h rfl (by decide) (by omega) _ l0 q [.int .i64 (1), .string s] (fun _ => True) (fun _ => False) rfl rfl (by rw [HQ.out]; exact k45_mkM _ _ _ _) (fun _ hk => hk.elim) (fun _ _ => trivial) HN1.out.1 HN1.out.2 HN1.out.2.size HL2.out ?_; intro v2 w7 hown2 hb2 hg2 hat2; have HN2 := Lib.hid (And.intro hown2 (And.intro hb2 trivial)); clear hown2 hb2 hg2 hat2))
        have HK := shelf_Need.calls 300 A0 c0 l0 x w7 (Kd.C_below HR0.out HN2.out.2.1) (by rw [← HN.out]; exact hc0) HNeed.out
        rw [← HN.out] at HK
        refine HK.mono ?_
        clear HK
        rintro e w8 ⟨rfl, hb8⟩
        have HB8 := Lib.hid (And.intro (below_then HN2.out.2.1 HN2.out.2.1.size hb8) (Kd.R_below HN2.out.1 hb8))
        clear hb8
        obtain ⟨A3, c3, rfl, hc3, hC3⟩ := Kd.R_reads HB8.out.2
        have HC3 := Lib.hid hC3
        clear hC3
        generalize hn3 : (l0 ++ [q]).length = n3
        have HN3 := Lib.hid hn3
        have HCC := Lib.hid hc3
        clear hn3 hc3
        go_wp2_with fail
        have HK := shelf_Need.calls 300 A3 c3 (l0 ++ [q]) y w8 HC3.out HCC.out HNeed2.out
        rw [HN3.out] at HK
        refine HK.mono ?_
        clear HK
        rintro e w9 ⟨rfl, hb9⟩
        have HB9 := Lib.hid (below_then HB8.out.1 HB8.out.1.size hb9)
        clear hb9
        rcases HXY2.out with rfl | ⟨h1, rfl⟩ | ⟨h1, h2, h3⟩
        · go_wp2_with fail
          go_ret
          exact ⟨rfl, HB9.out⟩
        · have h1' : ((x : Int) == 0) = false := by simp; omega
          go_wp2_with fail
          go_ret
          exact ⟨rfl, HB9.out⟩
        · have h1' : ((x : Int) == 0) = false := by simp; omega
          have h2' : ((y : Int) == 0) = false := by simp; omega
          have h3' : decide (x ≤ y) = true := decide_eq_true h3
          go_wp2_with fail
          go_ret
          exact ⟨rfl, HB9.out⟩
    · obtain ⟨ad, rfl, q0, -⟩ := at_T45 HR0.out j (by omega) (by have := HN.out; omega)
      obtain ⟨key, hk⟩ : ∃ key : Int, key = (rd_T45 l0 j).f0 := ⟨_, rfl⟩
      rw [← hk] at q0
      simp only [Int.toNat_natCast] at q0
      have HQ0 := Lib.hid q0
      have HKl := Lib.hid (show r = true → 0 ≤ key from fun h => by rw [hk]; exact HKey.out h j (by rw [← HN.out]; omega))
      clear hk q0
      have HK := maquettelaw16_Few.calls (l0.length + 1) (some ad) c0 l0 true w HR0.out (by rw [← HN.out]; exact hc0) HF.out
      rw [← HN.out] at HK
      have HK2 := Lib.hid HK
      clear HK
      go_enter Try.func8, Try.ntmps8
      go_wp2_with fail
      refine HK2.out.mono ?_
      rintro e w1 ⟨rfl, hd1⟩
      have HB1 := Lib.hid hd1.below
      clear hd1 HK2
      go_wp2_with fail
      refine (maquettelaw16_alive.calls 300 true w1 HAl.out).mono ?_
      rintro e w2 ⟨rfl, hb2⟩
      have HB2 := Lib.hid (below_then HB1.out HB1.out.size hb2)
      clear hb2 HB1
      have q0 := pw_cell_below HB2.out HQ0.out
      clear d2
      go_wp2_with fail
      have HK := shelf_Right.calls (l0.length + 1) (some ad) c0 l0 r w2 (Kd.C_below HR0.out HB2.out) (by rw [← HN.out]; exact hc0) HRight.out
      rw [← HN.out] at HK
      refine HK.mono ?_
      clear HK
      rintro e w3 ⟨rfl, hb3⟩
      have HB3 := Lib.hid (below_then HB2.out HB2.out.size hb3)
      clear hb3 HB2
      cases r with
      | false =>
        go_wp2_with fail
        go_ret
        exact ⟨rfl, HB3.out⟩
      | true =>
        by_cases hbig : 2147483647 ≤ key
        · have hbig' : decide (2147483647 ≤ key) = true := decide_eq_true hbig
          go_wp2_with fail
          go_ret
          exact ⟨rfl, HB3.out⟩
        · have hbig' : decide (2147483647 ≤ key) = false := decide_eq_false hbig
          have hk0 : 0 ≤ key := HKl.out rfl
          have hk1 : key < 2147483647 := by omega
          clear hbig
          obtain ⟨q, hq⟩ : ∃ q : S45, q = ⟨key + 1, s⟩ := ⟨_, rfl⟩
          obtain ⟨hN2, hXY⟩ := HXY.out q
          have hXY2 := hXY rfl
          obtain ⟨y, hy⟩ : ∃ y, y = (planP (l0 ++ [q]) [] allP).1.length := ⟨_, rfl⟩
          rw [← hy] at hN2 hXY2
          have HNeed2 := Lib.hid hN2
          have HXY2 := Lib.hid hXY2
          have HQ := Lib.hid hq
          clear hN2 hXY hXY2 hy hq HXY
          have HO := Lib.hid (Kd.R_nil k45 45 w3 w.heap.size (fun _ => True))
          have HCr := Lib.hid (show Kd.C k45 w3 (some ad) (j + 1) l0 by have := Kd.C_below HR0.out HB3.out; rw [← HN.out] at this; exact this)
          have HL := Lib.hid (show (([] : List S45).length + (j + 1)) * 24 ≤ 140737488355328 by first | (simp; done) | (simp; omega))
          have HL2 := Lib.hid (show (l0.length + 1) * 24 ≤ 140737488355328 by rw [← HN.out]; omega)
          go_wp2_with (first
            | (at_builtin; refine Kd.R_append_rows k45 (w0 := w) w.heap.size rfl (.const (.slice none 0 0)) (.tmp 39) 22 45 (.agg #[.int .i64 0, .string ⟨#[]⟩]) 24 rfl Try.underlying22 info45h rfl (by decide) (by omega) _ [] l0 (some ad) (j + 1) c0 (fun _ => True) (fun _ => False) rfl rfl HO.out HCr.out k45_KM (fun _ hk => hk.elim) (fun _ _ => trivial) HB3.out HB3.out.size HL.out ?_; intro v1 w6 hown hb1 hg hat; have HN1 := Lib.hid (And.intro hown hb1); clear hown hb1 hg hat)
            | (at_builtin; refine Kd.R_append k45 (w0 := w) w.heap.size rfl (.tmp 40) (.tmp 45) 22 45 (.agg #[.int .i64 0, .string ⟨#[]⟩]) 24 rfl Try.underlying22 info45h rfl (by decide) (by omega) _ l0 q [.int .i64 (key + 1), .string s] (fun _ => True) (fun _ => False) rfl rfl (by rw [HQ.out]; exact k45_mkM _ _ _ _) (fun _ hk => hk.elim) (fun _ _ => trivial) HN1.out.1 HN1.out.2 HN1.out.2.size HL2.out ?_; intro v2 w7 hown2 hb2 hg2 hat2; have HN2 := Lib.hid (And.intro hown2 (And.intro hb2 trivial)); clear hown2 hb2 hg2 hat2))
          have HK := shelf_Need.calls 300 (some ad) c0 l0 x w7 (Kd.C_below HR0.out HN2.out.2.1) (by rw [← HN.out]; exact hc0) HNeed.out
          rw [← HN.out] at HK
          refine HK.mono ?_
          clear HK
          rintro e w8 ⟨rfl, hb8⟩
          have HB8 := Lib.hid (And.intro (below_then HN2.out.2.1 HN2.out.2.1.size hb8) (Kd.R_below HN2.out.1 hb8))
          clear hb8
          obtain ⟨A3, c3, rfl, hc3, hC3⟩ := Kd.R_reads HB8.out.2
          have HC3 := Lib.hid hC3
          clear hC3
          generalize hn3 : (l0 ++ [q]).length = n3
          have HN3 := Lib.hid hn3
          have HCC := Lib.hid hc3
          clear hn3 hc3
          go_wp2_with fail
          have HK := shelf_Need.calls 300 A3 c3 (l0 ++ [q]) y w8 HC3.out HCC.out HNeed2.out
          rw [HN3.out] at HK
          refine HK.mono ?_
          clear HK
          rintro e w9 ⟨rfl, hb9⟩
          have HB9 := Lib.hid (below_then HB8.out.1 HB8.out.1.size hb9)
          clear hb9
          rcases HXY2.out with rfl | ⟨h1, rfl⟩ | ⟨h1, h2, h3⟩
          · go_wp2_with fail
            go_ret
            exact ⟨rfl, HB9.out⟩
          · have h1' : ((x : Int) == 0) = false := by simp; omega
            go_wp2_with fail
            go_ret
            exact ⟨rfl, HB9.out⟩
          · have h1' : ((x : Int) == 0) = false := by simp; omega
            have h2' : ((y : Int) == 0) = false := by simp; omega
            have h3' : decide (x ≤ y) = true := decide_eq_true h3
            go_wp2_with fail
            go_ret
            exact ⟨rfl, HB9.out⟩
  · have hc : b = false ∨ (b = true ∧ decide ((300 : Int) < (s.size : Int)) = true) := by
      cases b with
      | false => exact .inl rfl
      | true =>
        refine .inr ⟨rfl, decide_eq_true ?_⟩
        have : ¬ s.size ≤ 300 := fun h => hgood ⟨rfl, h⟩
        omega
    clear hgood hb2
    rcases hc with rfl | ⟨rfl, d1⟩
    all_goals
      go_enter Try.func8, Try.ntmps8
      go_wp2_with fail
      refine (maquettelaw16_Few.calls (l0.length + 1) A0 c0 l0 _ w HR0.out hc0 HF.out).mono ?_
      rintro e w1 ⟨rfl, hd1⟩
      have HB1 := Lib.hid hd1.below
      clear hd1
      go_wp2_with fail
      refine (maquettelaw16_alive.calls 300 true w1 HAl.out).mono ?_
      rintro e w2 ⟨rfl, hb2⟩
      have HB2 := Lib.hid (below_then HB1.out HB1.out.size hb2)
      clear hb2 HB1
      go_wp2_with fail
      go_ret
      exact ⟨rfl, HB2.out⟩
end Go.Proofs.Ytjnhbalclimmnaa.PA
