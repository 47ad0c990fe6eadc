/- The contract of the program's shelf.Plan, walked by hand. -/
import Derived.Test.YtjnhbalclimmnaaH7
import Derived.Deep.QuietTactic
import Derived.BigQuiet
set_option linter.unusedSimpArgs false
set_option linter.unusedVariables false
namespace Go.Proofs.Ytjnhbalclimmnaa.PA
open Go Go.RowKit Go.Proofs.YtjnhbalclimmnaaW.PrintWords Go.Proofs.YtjnhbalclimmnaaW.PrintMore H L

theorem putP_e {p : PS} {b : ByteArray} {is : Bool} (h : (putP p b is).1.e = 0) : p.e = 0 := by
  by_cases he : p.e = 0
  · exact he
  · have : putP p b is = (p, 0) := by unfold putP; rw [if_neg he]
    rw [this] at h
    exact h

set_option maxHeartbeats 1000000 in
set_option maxRecDepth 100000 in
theorem shelf_Plan.calls (A0 : Option Addr) (c0 : Nat) (l0 : List S45) (A1 : Option Addr) (c1 : Nat) (l1 : List S28) (A2 : Option Addr) (c2 : Nat) (l2 : List Int) (t0 : List S28) (t1 t2 : Int) (w : World)
    (hr0 : Kd.C k45 w A0 l0.length l0) (hc0 : l0.length ≤ c0) (hr1 : Kd.C k28 w A1 l1.length l1) (hc1 : l1.length ≤ c1) (hr2 : Kd.C (Kd.int .i64) w A2 l2.length l2) (hc2 : l2.length ≤ c2) (h : shelf_Plan.f l0 l1 l2 = some (t0, t1, t2)) :
    Calls Try.prog 12 #[.slice A0 l0.length c0, .slice A1 l1.length c1, .slice A2 l2.length c2] w fun e w' => ∃ v0 : Value, e = .returned (.tuple #[v0, .int .i64 t1, .int .i64 t2]) ∧ Kd.R k28 28 w' w.heap.size (fun _ => True) v0 t0 ∧ Below w.heap.size w w' := by
  unfold shelf_Plan.f at h
  by_cases hl : l0.length ≤ 1000000 ∧ l1.length ≤ 1000000 ∧ l2.length ≤ 1000000 ∧ (∀ x ∈ l1, x.f1.size ≤ 1000000)
  case neg => rw [if_neg hl] at h; cases h
  rw [if_pos hl] at h
  have H := Lib.hid (Option.some.inj h)
  obtain ⟨hl0, hl1, hl2, hls⟩ := hl
  have HLS := Lib.hid hls
  clear hls
  have HR0 := Lib.hid hr0
  have HR1 := Lib.hid hr1
  have HR2 := Lib.hid hr2
  clear h hr0 hr1 hr2
  cases hr : rightGo (-1) l0 with
  | false =>
    obtain ⟨rfl, rfl, rfl⟩ : t0 = [] ∧ t1 = 0 ∧ t2 = 9 := by
      have := H.out
      simp [planP, hr] at this
      exact ⟨this.1, this.2.1.symm, this.2.2.symm⟩
    have HF := Lib.hid (hr ▸ Right_f l0 hl0)
    clear H hr
    go_enter Try.func12, Try.ntmps12
    go_wp2_with fail
    refine (shelf_Right.calls (l0.length + 1) A0 c0 l0 false w HR0.out hc0 HF.out).mono ?_
    rintro e w1 ⟨rfl, hb1⟩
    have HB1 := Lib.hid hb1
    clear hb1
    go_wp2_with fail
    go_ret3
    exact ⟨_, rfl, Kd.R_nil _ _ _ _ _, HB1.out⟩
  | true =>
    have HF := Lib.hid (hr ▸ Right_f l0 hl0)
    go_enter Try.func12, Try.ntmps12
    go_wp2_with fail
    refine (shelf_Right.calls (l0.length + 1) A0 c0 l0 true w HR0.out hc0 HF.out).mono ?_
    rintro e w1 ⟨rfl, hb1⟩
    have HB1 := Lib.hid hb1
    clear hb1
    go_wp2_with fail
    refine (shelf_may.calls A1 c1 l1 A2 c2 l2 (mayB l1 l2) w1 (Kd.C_below HR1.out HB1.out) hc1 (Kd.C_below HR2.out HB1.out) hc2 (by unfold shelf_may.f; rw [if_pos (by omega)])).mono ?_
    rintro e w2 ⟨rfl, hb2⟩
    have HB2 := Lib.hid (below_then HB1.out HB1.out.size hb2)
    clear hb2 HB1 HF
    cases hm : mayB l1 l2 with
    | false =>
      obtain ⟨rfl, rfl, rfl⟩ : t0 = [] ∧ t1 = 0 ∧ t2 = 9 := by
        have := H.out
        simp [planP, hm] at this
        exact ⟨this.1, this.2.1.symm, this.2.2.symm⟩
      clear H hm hr
      go_wp2_with fail
      go_ret3
      exact ⟨_, rfl, Kd.R_nil _ _ _ _ _, HB2.out⟩
    | true =>
      have HM := Lib.hid hm
      have HRi := Lib.hid hr
      clear hm hr
      go_wp2_with fail
      go_loopw [9, 11, 34] (fun v b i wr => ∃ k : Nat, k ≤ l0.length ∧ i = .int .i64 k ∧ Hid (Kd.R k61 61 wr w.heap.size (fun _ => True) v ((l0.take k).map (cellP · 2)) ∧ Below w.heap.size w wr))
        (fun _ _ i _ => l0.length - (intOf i).toNat)
      case atStart => exact ⟨0, Nat.zero_le _, rfl, Lib.hid ⟨Kd.R_nil _ _ _ _ _, HB2.out⟩⟩
      case round =>
        obtain ⟨k, hk, rfl, HI⟩ := hrel
        by_cases hlt : k < l0.length
        · obtain ⟨ad, rfl, q0, q1⟩ := at_T45 (Kd.C_below HR0.out HI.out.2) k (by omega) (by omega)
          obtain ⟨x, hx⟩ : ∃ c, c = rd_T45 l0 k := ⟨_, rfl⟩
          rw [← hx] at q0 q1
          simp only [Int.toNat_natCast] at q0 q1
          have Hx := Lib.hid hx
          clear hx
          have HO := Lib.hid (Kd.R_alloc HI.out.1 (.cells #[.int .i64 x.f0, .string x.f1] 45))
          have HB := Lib.hid (below_alloc HI.out.2 (.cells #[.int .i64 x.f0, .string x.f1] 45))
          have HC := Lib.hid (show (wr.alloc (.cells #[.int .i64 x.f0, .string x.f1] 45)).cell? ⟨wr.heap.size, 0, none⟩ = some (.int .i64 x.f0) ∧ (wr.alloc (.cells #[.int .i64 x.f0, .string x.f1] 45)).cell? ⟨wr.heap.size, 1, none⟩ = some (.string x.f1) by simp)
          go_upto_region 7 with (fail)
          generalize wr.alloc (.cells #[.int .i64 x.f0, .string x.f1] 45) = W at HO HB HC ⊢
          obtain ⟨q2, q3⟩ := HC.out
          clear q0 q1 HC HI
          go_wp2_with fail
          refine (shelf_cell.calls x.f0 x.f1 2 (cellP x 2).f0 (cellP x 2).f1 (cellP x 2).f2 (cellP x 2).f3 W (cell_f x 2)).mono ?_
          rintro e w3 ⟨rfl, hb3⟩
          have HO3 := Lib.hid (Kd.R_below HO.out hb3)
          have HB3 := Lib.hid (below_then HB.out HB.out.size hb3)
          have HT := Lib.hid (take_map hlt Hx.out)
          have HL := Lib.hid (show (((l0.take k).map (cellP · 2)).length + 1) * 40 ≤ 140737488355328 by simp; omega)
          clear hb3 HO HB q2 q3 Hx
          generalize cellP x 2 = c at HT ⊢
          generalize (l0.take k).map (cellP · 2) = cs at HO3 HT HL
          go_wp2_with (at_builtin; refine Kd.R_append k61 (w0 := w) w.heap.size rfl (.tmp 38) (.tmp 41) 59 61 (.agg #[.int .i64 0, .int .i64 0, .int .i64 0, .string ⟨#[]⟩]) 40 rfl Try.underlying59 info61h rfl (by decide) (by omega) u9 cs c [.int .i64 c.f0, .int .i64 c.f1, .int .i64 c.f2, .string c.f3] (fun _ => True) (fun _ => False) rfl rfl (k61_mkM _ _ _ _) (fun _ hk => hk.elim) (fun _ _ => trivial) HO3.out HB3.out HB3.out.size HL.out ?_; intro v1 w4 hR4 hb4 hg4 hat4; have HN := Lib.hid (And.intro hR4 hb4); clear hR4 hb4 hg4 hat4)
          go_roundw
          case rel => exact ⟨k + 1, by omega, by go_num, Lib.hid (by rw [HT.out]; exact HN.out)⟩
          case measure => simp [intOf]; omega
        · obtain rfl : k = l0.length := by omega
          obtain ⟨hR, hb⟩ := HI.out
          rw [List.take_length] at hR
          have HB := Lib.hid hb
          obtain ⟨cells, hce⟩ : ∃ cells, cells = l0.map (cellP · 2) := ⟨_, rfl⟩
          rw [← hce] at hR
          obtain ⟨A, c, rfl⟩ := Kd.R_slice hR
          have HR := Lib.hid hR
          have hcl : cells.length = l0.length := by rw [hce]; exact List.length_map _
          have HCE := Lib.hid hce
          have HCL := Lib.hid hcl
          clear hR hb HI HB2 hcl hce
          go_wp2_with fail
          refine (shelf_leaves.calls (cells.length + 1) (fun k => True) A c cells (leavesP cells) wr (Kd.N_V (Kd.R_N HR.out)) (leaves_f cells (by have := HCL.out; omega))).mono ?_
          rintro e w3 ⟨v3, rfl, hN3, hb3⟩
          obtain ⟨A3, c3, rfl⟩ := Kd.N_slice hN3
          have HR3 := Lib.hid (Kd.R_below HR.out hb3)
          have HB3 := Lib.hid (below_then HB.out HB.out.size hb3)
          have hll : (leavesP cells).length ≤ cells.length + 1 := leavesGo_len cells []
          have hll2 : (leavesP cells).length ≤ 1000001 := by have := HCL.out; omega
          clear hN3 hb3 HR HB hll
          by_cases h21 : 21 < (leavesP cells).length
          · obtain ⟨rfl, rfl, rfl⟩ : t0 = [] ∧ t1 = 0 ∧ t2 = 12 := by
              have := H.out
              simp only [planP, HM.out, HRi.out, Bool.and_self, if_true] at this
              rw [← HCE.out, if_pos h21] at this
              simp at this
              exact ⟨this.1, this.2.1.symm, this.2.2.symm⟩
            clear H
            generalize (leavesP cells).length = nl at h21 hll2 ⊢
            have h21b : decide ((21 : Int) < (nl : Int)) = true := by simp; omega
            go_wp2_with fail
            go_ret3
            exact ⟨_, rfl, Kd.R_nil _ _ _ _ _, HB3.out⟩
          · have HP := Lib.hid (show planGo ⟨knownGo (fun _ => none) l1, l2, [], 0⟩ l0 = (t0, t1, t2) by
              have := H.out
              simp only [planP, HM.out, HRi.out, Bool.and_self, if_true] at this
              rwa [← HCE.out, if_neg h21] at this)
            clear H
            generalize (leavesP cells).length = nl at h21 hll2 ⊢
            have h21b : decide ((21 : Int) < (nl : Int)) = false := by simp; omega
            have hmm := @run_makeMap Try.prog
            obtain ⟨hok1, hok2⟩ := may_have HM.out
            have HN := Lib.hid (PSt.new HB3.out hc2 HR2.out (fun n hn => pageOk_range (hok2 n hn)) hl2)
            have HR4 := Lib.hid (Kd.R_alloc (Kd.R_alloc HR3.out (.map #[] 0)) (.cells #[.map (some w3.heap.size), .slice A2 l2.length c2, .slice none 0 0, .int .i64 0] 68))
            go_upto_region 12 with (fail)
            clear hmm
            obtain ⟨g, hg⟩ : ∃ g, g = w3.heap.size + 1 := ⟨_, rfl⟩
            rw [← hg] at HN ⊢
            generalize (w3.alloc (.map #[] 0)).alloc (.cells #[.map (some w3.heap.size), .slice A2 l2.length c2, .slice none 0 0, .int .i64 0] 68) = W4 at HN HR4 ⊢
            clear hg HR3 HB3 hll2 h21 h21b
            go_wp2_with fail
            go_loopw [14, 15, 16, 54] (fun b u v i wr => ∃ k : Nat, k ≤ l1.length ∧ i = .int .i64 k ∧ Hid (PSt (fun _ => False) w wr g k ⟨knownGo (fun _ => none) (l1.take k), l2, [], 0⟩ ∧ Kd.R k61 61 wr w.heap.size (fun _ => True) (.slice A cells.length c) cells))
              (fun _ _ _ i _ => l1.length - (intOf i).toNat)
            case atStart => exact ⟨0, Nat.zero_le _, rfl, Lib.hid ⟨HN.out, HR4.out⟩⟩
            case round =>
              obtain ⟨k, hk, rfl, HI⟩ := hrel
              clear HN HR4
              by_cases hlt : k < l1.length
              · obtain ⟨ad, rfl, q0, q1⟩ := at_T28 (Kd.C_below HR1.out HI.out.1.below) k (by omega) (by omega)
                obtain ⟨x, hx⟩ : ∃ c, c = rd_T28 l1 k := ⟨_, rfl⟩
                rw [← hx] at q0 q1
                simp only [Int.toNat_natCast] at q0 q1
                have hx2 : l1.take (k + 1) = l1.take k ++ [x] := by
                  rw [List.take_succ_eq_append_getElem hlt, hx]
                  simp [rd_T28, List.getD_eq_getElem?_getD, List.getElem?_eq_getElem hlt]
                have hx4 : x.f1.size ≤ 1000000 := HLS.out x (by rw [hx]; simp [rd_T28, List.getD_eq_getElem?_getD, List.getElem?_eq_getElem hlt])
                have hx3 : pageOk x.f0 = true := hok1 x (by rw [hx]; simp [rd_T28, List.getD_eq_getElem?_getD, List.getElem?_eq_getElem hlt])
                have Hx := Lib.hid (And.intro hx2 (And.intro hx3 hx4))
                clear hx hx2 hx3 hx4
                have HP2 := Lib.hid (HI.out.1.step (below_alloc (Below.refl _ _) (.cells #[.int .i64 x.f0, .string x.f1] 28)))
                have HR2' := Lib.hid (Kd.R_alloc HI.out.2 (.cells #[.int .i64 x.f0, .string x.f1] 28))
                have HC := Lib.hid (heap_alloc_new wr (.cells #[.int .i64 x.f0, .string x.f1] 28))
                go_upto_region 15 with (fail)
                generalize wr.alloc (.cells #[.int .i64 x.f0, .string x.f1] 28) = W at HP2 HR2' HC ⊢
                generalize wr.heap.size = gx at HC ⊢
                have q2 := Lib.cell_of_heap HC.out 0
                have q3 := Lib.cell_of_heap HC.out 1
                simp at q2 q3
                clear q0 q1 HI
                obtain ⟨mb, A1', c1', vo, D, hP⟩ := HP2.out
                have q0 := Lib.cell_of_heap hP.1 0
                obtain ⟨kn, hkn⟩ : ∃ kn, kn = knownGo (fun _ => none) (l1.take k) := ⟨_, rfl⟩
                have hlk : ∀ n, (Instr.lookup 66 (.map (some mb)) (.string x.f1) true).run Try.prog (W.drewN n) = .ok (.tuple #[.int .i64 ((kn x.f1).getD 0), .bool (kn x.f1).isSome]) (W.drewN n) := by
                  intro n
                  rw [hkn]
                  exact known_look (hP.2.2.2.2.2.2.1.kept (grown_of_below (pw_below_drewN (Below.refl _ _) n) none) (by simp)) hP.2.2.2.2.2.2.2.1 x.f1 Hx.out.2.2
                have HPM := Lib.hid hP
                have HKN := Lib.hid hkn
                simp at q0
                clear hP hkn
                go_quiet (fail)
                clear hlk
                have HPD := Lib.hid (HP2.out.step (pw_below_drewN (Below.refl _ _) nq))
                have HRD := Lib.hid (Kd.R_drewN HR2'.out nq)
                cases hkx : kn x.f1 with
                | some y =>
                  have hks : (kn x.f1).isSome = true := by rw [hkx]; rfl
                  have HK2 := Lib.hid (show knownGo (fun _ => none) (l1.take (k + 1)) = knownGo (fun _ => none) (l1.take k) by rw [Hx.out.1, knownGo_snoc, ← HKN.out, if_pos hks])
                  clear hkx hks
                  go_wp2_with fail
                  go_roundw
                  case rel => exact ⟨k + 1, by omega, by go_num, Lib.hid ⟨by rw [HK2.out]; exact HPD.out.more (by omega) (by omega), HRD.out⟩⟩
                  case measure => simp [intOf]; omega
                | none =>
                  have hks : (kn x.f1).isSome = false := by rw [hkx]; rfl
                  have HK2 := Lib.hid (show knownGo (fun _ => none) (l1.take (k + 1)) = (fun s => open Classical in if s = x.f1 then some x.f0 else knownGo (fun _ => none) (l1.take k) s) by rw [Hx.out.1, knownGo_snoc, ← HKN.out, hks]; rfl)
                  clear hkx hks
                  go_upto_region 17 with (fail)
                  have HKey := Lib.hid (WideMaps.keyOf_string_mk Try.underlying9 (s := x.f1) (by have := Hx.out.2.2; unfold maxLen; omega))
                  have HW := Lib.hid (show (Lit.int .i64 x.f0).wf = true by have := pageOk_range Hx.out.2.1; exact WalkArith.wf_i64 (by omega))
                  generalize hWd : W.drewN nq = Wd at HRD HPD ⊢
                  have hS0 : Wd.drew.cell? ⟨g, 0, none⟩ = some (.map (some mb)) ∧ Wd.drew.cell? ⟨gx, 1, none⟩ = some (.string x.f1) ∧ Wd.drew.cell? ⟨gx, 0, none⟩ = some (.int .i64 x.f0) := by
                    rw [← hWd]
                    exact ⟨by simpa using q0, by simpa using q3, by simpa using q2⟩
                  have HPX := Lib.hid (show PStM (fun _ => False) w Wd.drew g k ⟨knownGo (fun _ => none) (l1.take k), l2, [], 0⟩ mb A1' c1' vo D ∧ Kd.R k61 61 Wd.drew w.heap.size (fun _ => True) (.slice A cells.length c) cells ∧ Wd.drew.heap[gx]? = some (.cells #[.int .i64 x.f0, .string x.f1] 28 (0, 0)) by
                    rw [← hWd]
                    exact ⟨HPM.out.step (below_drew (pw_below_drewN (Below.refl _ _) nq)), Kd.R_drew (Kd.R_drewN HR2'.out nq), HC.out⟩)
                  clear q0 q2 q3 hWd HC
                  obtain ⟨W2, hrun, hm2, hg2⟩ := HPX.out.1.2.2.2.2.2.2.1.update law9 Try.underlying66 (by simp [maxLen]; omega) (key := .string x.f1) HKey.out (plainElem_int Try.underlying3 HW.out)
                  have HP2' := Lib.hid (PStM.next HPX.out.1 (by omega) hm2 hg2)
                  obtain ⟨es, cl, hmb, hrest⟩ := HPX.out.1.2.2.2.2.2.2.1
                  have HR2'' := Lib.hid (Kd.R_mono (Kd.R_grown (R_not_map HPX.out.2.1 hmb) hg2 (fun k hk => by simpa using hk)) (fun _ _ => trivial))
                  have hS2 : W2.cell? ⟨g, 0, none⟩ = some (.map (some mb)) ∧ W2.cell? ⟨gx, 1, none⟩ = some (.string x.f1) ∧ W2.cell? ⟨gx, 0, none⟩ = some (.int .i64 x.f0) := by
                    have e1 : g ≠ mb := by
                      rintro rfl
                      have := HPX.out.1.1
                      rw [hmb] at this
                      cases this
                    have e2 : gx ≠ mb := by
                      rintro rfl
                      have := HPX.out.2.2
                      rw [hmb] at this
                      cases this
                    have b1 := blk_grown HPX.out.1.1 hg2 (by simpa using e1)
                    have b2 := blk_grown HPX.out.2.2 hg2 (by simpa using e2)
                    exact ⟨by simpa using Lib.cell_of_heap b1 0, by simpa using Lib.cell_of_heap b2 1, by simpa using Lib.cell_of_heap b2 0⟩
                  clear hm2 hg2 hmb hrest
                  go_region_held3 (fun W' => W'.cell? ⟨g, 0, none⟩ = some (.map (some mb)) ∧ W'.cell? ⟨gx, 1, none⟩ = some (.string x.f1) ∧ W'.cell? ⟨gx, 0, none⟩ = some (.int .i64 x.f0))
                    (first | assumption)
                    ((first | fail))
                  clear hS0 hS2 hrun
                  go_wp2_with fail
                  go_roundw
                  case rel => exact ⟨k + 1, by omega, by go_num, Lib.hid ⟨by rw [HK2.out]; exact HP2'.out, HR2''.out⟩⟩
                  case measure => simp [intOf]; omega
              · obtain rfl : k = l1.length := by omega
                have HK := Lib.hid HI.out.1
                have HR5 := Lib.hid HI.out.2
                rw [List.take_length] at HK
                clear HI
                go_wp2_with fail
                obtain ⟨p0, hp0⟩ : ∃ p0 : PS, p0 = ⟨knownGo (fun _ => none) l1, l2, [], 0⟩ := ⟨_, rfl⟩
                rw [← hp0] at HK HP
                have HP0 := Lib.hid hp0
                clear hp0
                go_loopw [17, 18, 81] (fun u b i wr => ∃ (k : Nat) (ps : PS) (dn : List S61), k ≤ l0.length ∧ i = .int .i64 k ∧ Hid (dn.length = k ∧ PSt (fun _ => False) w wr g l1.length ps ∧ Kd.R k61 61 wr w.heap.size (fun _ => True) (.slice A cells.length c) (dn ++ (l0.drop k).map (cellP · 2)) ∧
                    chainsGo p0 l0 = ((chainsGo ps (l0.drop k)).1, dn ++ (chainsGo ps (l0.drop k)).2)))
                  (fun _ _ i _ => l0.length - (intOf i).toNat)
                case atStart => exact ⟨0, p0, [], Nat.zero_le _, rfl, Lib.hid ⟨rfl, HK.out, by rw [List.drop_zero, List.nil_append, ← HCE.out]; exact HR5.out, by simp⟩⟩
                case round =>
                  obtain ⟨k, ps, dn, hk, rfl, HI⟩ := hrel
                  clear HK HR5
                  by_cases hlt : k < l0.length
                  · obtain ⟨ad, rfl, q0, q1⟩ := at_T45 (Kd.C_below HR0.out HI.out.2.1.below) k (by omega) (by omega)
                    obtain ⟨x, hx⟩ : ∃ c, c = rd_T45 l0 k := ⟨_, rfl⟩
                    rw [← hx] at q0 q1
                    simp only [Int.toNat_natCast] at q0 q1
                    have hxe : x = l0[k] := by rw [hx]; simp [rd_T45, List.getD_eq_getElem?_getD, List.getElem?_eq_getElem hlt]
                    have Hx := Lib.hid (show l0.drop k = x :: l0.drop (k + 1) ∧ x.f1.size ≤ 900 by
                      rw [hxe]
                      exact ⟨List.drop_eq_getElem_cons hlt, (right_all l0 _ HRi.out _ (List.getElem_mem hlt)).1⟩)
                    clear hx hxe
                    have HB := Lib.hid (below_alloc (Below.refl wr.heap.size wr) (.cells #[.int .i64 x.f0, .string x.f1] 45))
                    have HC := Lib.hid (show (wr.alloc (.cells #[.int .i64 x.f0, .string x.f1] 45)).cell? ⟨wr.heap.size, 0, none⟩ = some (.int .i64 x.f0) ∧ (wr.alloc (.cells #[.int .i64 x.f0, .string x.f1] 45)).cell? ⟨wr.heap.size, 1, none⟩ = some (.string x.f1) by simp)
                    go_upto_region 22 with (fail)
                    generalize wr.alloc (.cells #[.int .i64 x.f0, .string x.f1] 45) = W at HB HC ⊢
                    have HP2 := Lib.hid (HI.out.2.1.step HB.out)
                    have HR2' := Lib.hid (Kd.R_below HI.out.2.2.1 HB.out)
                    have HCG := Lib.hid HI.out.2.2.2
                    have HDN := Lib.hid HI.out.1
                    generalize wr.heap.size = gx at HC ⊢
                    obtain ⟨q2, q3⟩ := HC.out
                    clear q0 q1 HC HI HB
                    by_cases hbig : 24 < x.f1.size
                    · have hbigb : decide ((24 : Int) < (x.f1.size : Int)) = true := by simp; omega
                      go_wp2_with fail
                      refine (chain_calls (fun _ => False) w W g l1.length ps x.f1 (by have := Hx.out.2; omega) HP2.out).mono ?_
                      rintro e W3 ⟨rfl, hp3, hk3⟩
                      obtain ⟨csg, hcsg⟩ := HP2.out.blk
                      have hR3 := R_PK HR2'.out hcsg (by decide) hk3
                      have hle : (dn ++ (l0.drop k).map (cellP · 2)).length = cells.length := by
                        rw [HCL.out, List.length_append, HDN.out, List.length_map, List.length_drop]; omega
                      obtain ⟨gc, cap, hv, hbg, hgl, cs', hgc⟩ := Kd.R_form hR3 (by rw [hle, HCL.out]; omega)
                      injection hv with hv1 hv2 hv3
                      subst hv1 hv3
                      have hxs : dn ++ (l0.drop k).map (cellP · 2) = dn ++ cellP x 2 :: (l0.drop (k + 1)).map (cellP · 2) := by rw [Hx.out.1]; rfl
                      rw [hxs] at hR3
                      obtain ⟨cc, hccl, hM, hcells, hfr⟩ := Kd.R_elem hR3 z61 (k : Int) (by omega) (by have := HCL.out; omega)
                      have hget : (dn ++ cellP x 2 :: (l0.drop (k + 1)).map (cellP · 2)).getD (k : Int).toNat z61 = cellP x 2 := by
                        have : (k : Int).toNat = dn.length := by rw [HDN.out]; simp
                        rw [this]
                        simp
                      rw [hget] at hM
                      have hcc := k61_openM hM
                      have HEl := Lib.hid (And.intro hcc (And.intro hcells hfr))
                      have HR3 := Lib.hid hR3
                      have HP3 := Lib.hid hp3
                      have HG := Lib.hid (And.intro hbg hgc)
                      have hkc : k < cells.length := by rw [HCL.out]; exact hlt
                      obtain ⟨pg, hpg⟩ : ∃ pg, pg = (chainP ps (piecesP x.f1)).2 := ⟨_, rfl⟩
                      rw [← hpg]
                      have Hpg := Lib.hid hpg
                      clear hcsg hR3 hle hbg hgl hgc hxs hM hcells hfr hget hcc hp3 hk3 hpg q2 q3 hv2 hccl HR2' HP2
                      have HCA := Lib.hid (show cellP x 2 = ⟨x.f0, x.f1.size, 2, ⟨#[]⟩⟩ ∧ cellP x pg = ⟨x.f0, x.f1.size, pg, ⟨#[]⟩⟩ by
                        constructor <;> (unfold cellP; rw [if_neg (by omega)]))
                      have HSet := Lib.hid (show (dn ++ cellP x 2 :: (l0.drop (k + 1)).map (cellP · 2)).set (k : Int).toNat (cellP x pg) = (dn ++ [cellP x pg]) ++ (l0.drop (k + 1)).map (cellP · 2) by
                        have : (k : Int).toNat = dn.length := by rw [HDN.out]; simp
                        rw [this, set_mid])
                      have HCG2 := Lib.hid (show chainsGo p0 l0 = ((chainsGo (chainP ps (piecesP x.f1)).1 (l0.drop (k + 1))).1, (dn ++ [cellP x pg]) ++ (chainsGo (chainP ps (piecesP x.f1)).1 (l0.drop (k + 1))).2) by
                        rw [HCG.out, Hx.out.1, chainsGo, if_pos hbig, Hpg.out]; simp)
                      clear HCG Hpg
                      go_wp2_with ((with_reducible refine gate_ (.store 3 (.tmp 97) (.tmp 95)) rfl ?_); refine Kd.R_store k61 (w0 := w) w.heap.size rfl rfl 3 (.tmp 97) (.tmp 95) rfl 61 (k : Int) 2 _ (cellP x pg) (.int .i64 pg) [.int .i64 pg] cc (fun _ => True) (fun _ => False) rfl (by show k * 4 + 2 = (k : Int).toNat * 4 + 2; simp) rfl rfl (by kernel_rfl) (by simp [Value.oneCell']) HR3.out (by omega) (by omega) (by rw [HEl.out.1]; rfl) HEl.out.2.1 (by show 2 + 1 ≤ 4; decide) (by rw [HEl.out.1, HCA.out.1, HCA.out.2]; exact k61_mkM _ _ _ _) (fun _ h => h.elim) HP3.out.below ?_; intro W4' hR4 hb4 hg4; have HR4' := Lib.hid hR4; have HP4 := Lib.hid (HP3.out.grown61 HG.out.2 HG.out.1 hg4); clear hR4 hb4 hg4)
                      go_roundw
                      case rel => exact ⟨k + 1, _, dn ++ [cellP x pg], by omega, by go_num, Lib.hid ⟨by rw [List.length_append, HDN.out]; rfl, HP4.out, by rw [← HSet.out]; exact HR4'.out, HCG2.out⟩⟩
                      case measure => simp [intOf]; omega
                    · have hbigb : decide ((24 : Int) < (x.f1.size : Int)) = false := by simp; omega
                      have HCG2 := Lib.hid (show chainsGo p0 l0 = ((chainsGo ps (l0.drop (k + 1))).1, (dn ++ [cellP x 2]) ++ (chainsGo ps (l0.drop (k + 1))).2) by
                        rw [HCG.out, Hx.out.1, chainsGo, if_neg hbig]; simp)
                      have HR3 := Lib.hid (show Kd.R k61 61 W w.heap.size (fun _ => True) (.slice A cells.length c) ((dn ++ [cellP x 2]) ++ (l0.drop (k + 1)).map (cellP · 2)) by
                        have := HR2'.out
                        rw [Hx.out.1] at this
                        simpa using this)
                      clear HCG HR2'
                      go_wp2_with fail
                      go_roundw
                      case rel => exact ⟨k + 1, ps, dn ++ [cellP x 2], by omega, by go_num, Lib.hid ⟨by rw [List.length_append, HDN.out]; rfl, HP2.out, HR3.out, HCG2.out⟩⟩
                      case measure => simp [intOf]; omega
                  · obtain rfl : k = l0.length := by omega
                    have HI2 := Lib.hid (show PSt (fun _ => False) w wr g l1.length ps ∧ Kd.R k61 61 wr w.heap.size (fun _ => True) (.slice A cells.length c) dn ∧ chainsGo p0 l0 = (ps, dn) ∧ dn.length = cells.length by
                      obtain ⟨h1, h2, h3, h4⟩ := HI.out
                      rw [List.drop_length] at h3 h4
                      simp [chainsGo] at h3 h4
                      exact ⟨h2, h3, h4, by rw [h1, HCL.out]⟩)
                    clear HI
                    have hdl : cells.length = dn.length := HI2.out.2.2.2.symm
                    have HG0 := Lib.hid (show PGood p0 by
                      rw [HP0.out]
                      exact ⟨knownGo_good l1 _ (fun _ _ h => by cases h) hok1, hok2⟩)
                    obtain ⟨csg, hcsg⟩ := HI2.out.1.blk
                    have HCSG := Lib.hid hcsg
                    have HV := Lib.hid (show Kd.V k61 61 wr wr.heap.size (fun k => ∃ cs, wr.heap[k]? = some (.cells cs 61 (0, 0))) (.slice A dn.length c) dn by
                      rw [← hdl]
                      refine Kd.N_V (Kd.R_N (Kd.R_mono (Kd.R_bound HI2.out.2.1) (fun k hk => ?_)))
                      obtain ⟨_, _, _, q, hq, cells', hc⟩ := hk
                      have : q = 61 := by revert hq; simp [k61, Kd.iso, Kd.pair, Kd.int, Kd.string, Kd.scalar]
                      rw [this] at hc
                      exact ⟨_, hc⟩)
                    have hdn2 : dn.length ≤ 1000000 := by rw [← hdl, HCL.out]; exact hl0
                    rw [hdl]
                    clear hcsg hdl
                    have HOK := Lib.hid (And.intro hok1 hok2)
                    clear hok1 hok2
                    go_wp2_with fail
                    refine (shelf_leaves.calls (dn.length + 1) _ A c dn (leavesP dn) wr HV.out (leaves_f dn hdn2)).mono ?_
                    rintro e w5 ⟨v5, rfl, hN5, hb5⟩
                    have hls : (leavesP dn).length ≤ dn.length + 1 := leavesGo_len dn []
                    have HQ := Lib.hid (show planGo p0 l0 = (if (putP (slotsGo ps (leavesP dn)).1 (pageRes (indexB (slotsGo ps (leavesP dn)).2)).1 (pageRes (indexB (slotsGo ps (leavesP dn)).2)).2).1.e = 0 then ((putP (slotsGo ps (leavesP dn)).1 (pageRes (indexB (slotsGo ps (leavesP dn)).2)).1 (pageRes (indexB (slotsGo ps (leavesP dn)).2)).2).1.out, (putP (slotsGo ps (leavesP dn)).1 (pageRes (indexB (slotsGo ps (leavesP dn)).2)).1 (pageRes (indexB (slotsGo ps (leavesP dn)).2)).2).2, 0) else ([], 0, (putP (slotsGo ps (leavesP dn)).1 (pageRes (indexB (slotsGo ps (leavesP dn)).2)).1 (pageRes (indexB (slotsGo ps (leavesP dn)).2)).2).1.e)) by
                      unfold planGo
                      simp only [HI2.out.2.2.1])
                    have HNE := Lib.hid (show ps.e = 0 → ∀ c ∈ leavesP dn, c ≠ [] by
                      obtain ⟨_, h2⟩ := chains_good l0 p0 HG0.out (right_all l0 _ HRi.out)
                      rw [HI2.out.2.2.1] at h2
                      exact fun he => leavesP_ne (h2 he).2)
                    have HP5 := Lib.hid (HI2.out.1.reF hb5)
                    have HB5 := Lib.hid hb5
                    have hN5' : Kd.N (Kd.slice 61 k61) 59 w5 wr.heap.size (LK wr w5) v5 (leavesP dn) := Kd.N_bound hN5
                    clear hN5 hb5 HI2 HV HG0
                    obtain ⟨ls, hlse⟩ : ∃ ls, ls = leavesP dn := ⟨_, rfl⟩
                    rw [← hlse] at hN5' hls HQ HNE
                    obtain ⟨A5, c5, rfl⟩ := Kd.N_slice hN5'
                    have HN5 := Lib.hid hN5'
                    have hlm : ls.length ≤ 1000001 := by omega
                    clear hN5' hls hlse
                    have hb45 : w.heap.size ≤ w5.heap.size := HP5.out.below.size
                    go_wp2_with fail
                    obtain ⟨wl, rfl⟩ : ∃ wl : World, wl = wr := ⟨_, rfl⟩
                    go_loopw [19, 21, 102] (fun s u i W => ∃ (j : Nat) (pt : PS) (sl : List S76), j ≤ ls.length ∧ i = .int .i64 j ∧ Hid (sl.length ≤ j ∧ PSt (fun k => wl.heap.size ≤ k ∧ k < w5.heap.size) w W g l1.length pt ∧ Kd.R k76 76 W w5.heap.size (fun _ => True) s sl ∧ KO wl w5 W ∧
                        slotsGo ps ls = ((slotsGo pt (ls.drop j)).1, sl ++ (slotsGo pt (ls.drop j)).2) ∧ (pt.e = 0 → ps.e = 0) ∧ w5.heap.size ≤ W.heap.size))
                      (fun _ _ i _ => ls.length - (intOf i).toNat)
                    case atStart => exact ⟨0, ps, [], Nat.zero_le _, rfl, Lib.hid ⟨Nat.le_refl _, HP5.out, Kd.R_nil _ _ _ _ _, KO.refl _ _, by simp, id, Nat.le_refl _⟩⟩
                    case round =>
                      obtain ⟨j, pt, sl, hj, rfl, HI⟩ := hrel
                      clear HP5
                      by_cases hlt : j < ls.length
                      · obtain ⟨g5, cap5, hv, _, _, _⟩ := Kd.N_form HN5.out (by omega)
                        injection hv with hv1 hv2 hv3
                        subst hv1 hv3
                        obtain ⟨Ai, ci, hci, hW⟩ := leaf_at HN5.out hlt
                        obtain ⟨lf, hlf⟩ : ∃ lf, lf = ls.getD j [] := ⟨_, rfl⟩
                        rw [← hlf] at hci hW
                        have q0 := (hW _ HI.out.2.2.2.1).1
                        have HW := Lib.hid hW
                        have HLF := Lib.hid (show ls.drop j = lf :: ls.drop (j + 1) ∧ lf ∈ ls by
                          rw [hlf]
                          refine ⟨?_, ?_⟩
                          · rw [List.drop_eq_getElem_cons hlt]
                            simp [List.getD_eq_getElem?_getD, List.getElem?_eq_getElem hlt]
                          · simp [List.getD_eq_getElem?_getD, List.getElem?_eq_getElem hlt])
                        obtain ⟨mb, A1', c1', vo, D, hP⟩ := HI.out.2.1
                        have q3 := Lib.cell_of_heap hP.1 3
                        simp at q3
                        clear hW hlf hP hv2
                        by_cases he : pt.e = 0
                        · have heb : (pt.e == 0) = true := by simp [he]
                          have hne : lf ≠ [] := HNE.out (HI.out.2.2.2.2.2.1 he) lf HLF.out.2
                          have hl0' : 0 < lf.length := List.length_pos_iff.2 hne
                          obtain ⟨ai, rfl, _⟩ := at_T61 (HW.out _ HI.out.2.2.2.1).2 0 (by omega) (by omega)
                          obtain ⟨kf, hkf⟩ : ∃ kf, kf = (rd_T61 lf 0).f0 := ⟨_, rfl⟩
                          have HKC := Lib.hid (show ∀ W, KO wl w5 W → W.cell? ai = some (.int .i64 kf) by
                            intro W hW
                            obtain ⟨ai', e, h, _⟩ := at_T61 (HW.out W hW).2 0 (by omega) (by omega)
                            injection e with e
                            subst e
                            rw [hkf]
                            simpa [Addr.add] using h)
                          have HS := Lib.hid (show slotsGo ps ls = ((slotsGo (putP pt (pageRes (leafB lf)).1 (pageRes (leafB lf)).2).1 (ls.drop (j + 1))).1, (sl ++ [⟨kf, (putP pt (pageRes (leafB lf)).1 (pageRes (leafB lf)).2).2⟩]) ++ (slotsGo (putP pt (pageRes (leafB lf)).1 (pageRes (leafB lf)).2).1 (ls.drop (j + 1))).2) by
                            rw [HI.out.2.2.2.2.1, HLF.out.1, slotsGo, if_pos he, hkf]; simp)
                          clear hkf hne he
                          go_upto_region 30 with (fail)
                          clear q0 q3
                          have hS0 : wr.drew.cell? ai = some (.int .i64 kf) ∧ Hid (KO wl w5 wr.drew) := ⟨HKC.out _ HI.out.2.2.2.1.drew, Lib.hid HI.out.2.2.2.1.drew⟩
                          have T0 := Lib.hid (And.intro (HI.out.2.1.step (below_drew (Below.refl _ _))) (Kd.R_drew HI.out.2.2.1))
                          have HSZ := Lib.hid (leafB_size lf)
                          have HSL := Lib.hid (show (sl.length + 1) * 16 ≤ 140737488355328 by have := HI.out.1; omega)
                          have HK0 := Lib.hid hS0.2.out
                          have HL0 := Lib.hid (HW.out _ hS0.2.out).2
                          go_region_held3 (fun W => W.cell? ai = some (.int .i64 kf) ∧ Hid (KO wl w5 W))
                            (first | assumption)
                            ((first
                              | (go_at_call 31; (with_reducible refine (sheet_Leaf.calls (some ai) ci lf (pageRes (leafB lf)).1 (pageRes (leafB lf)).2 _ HL0.out hci rfl).mono ?_); rintro e w7 ⟨rfl, hb7⟩; have hsz7 : wr.heap.size ≤ w7.heap.size := hb7.size; have HK7 := Lib.hid (HK0.out.step hb7); have T7 := Lib.hid (And.intro (PSt.step (hb := hb7) T0.out.1) (Kd.R_below (hb := hb7) T0.out.2)); have hS7 : w7.cell? ai = some (.int .i64 kf) ∧ Hid (KO wl w5 w7) := ⟨HKC.out _ HK7.out, HK7⟩)
                              | (go_at_call 30; (with_reducible refine (put_calls (fun k => wl.heap.size ≤ k ∧ k < w5.heap.size) w _ g l1.length pt (pageRes (leafB lf)).1 (pageRes (leafB lf)).2 HSZ.out T7.out.1).mono ?_); rintro e w8 ⟨rfl, hp8, hk8⟩; have HK8 := Lib.hid (HK7.out.put HB5.out HCSG.out hk8); have hS8 : w8.cell? ai = some (.int .i64 kf) ∧ Hid (KO wl w5 w8) := ⟨HKC.out _ HK8.out, HK8⟩; have HR8 := Lib.hid (R_PK T7.out.2 (PSt.blk T7.out.1).choose_spec (by decide) hk8);
                                  generalize (putP pt (pageRes (leafB lf)).1 (pageRes (leafB lf)).2).2 = pg at HS ⊢;
                                  have HB8 := Lib.hid (Nat.le_trans HI.out.2.2.2.2.2.2 (Nat.le_trans hsz7 hk8.1));
                                  have hS8a : (w8.alloc (.cells #[.int .i64 kf, .int .i64 pg] 76)).cell? ai = some (.int .i64 kf) ∧ Hid (KO wl w5 (w8.alloc (.cells #[.int .i64 kf, .int .i64 pg] 76))) := ⟨HKC.out _ (HK8.out.alloc _), Lib.hid (HK8.out.alloc _)⟩;
                                  have HP8 := Lib.hid hp8; clear hp8 hk8)
                              | (refine Kd.R_append_step k76 (w0 := w8) w5.heap.size rfl (.tmp 111) (.tmp 123) 71 76 (.agg #[.int .i64 0, .int .i64 0]) 16 rfl Try.underlying71 info76h rfl (by decide) (by omega) u19 sl (⟨kf, pg⟩ : S76) [.int .i64 kf, .int .i64 pg] (fun _ => True) (fun _ => False) rfl rfl (k76_mkM _ _ _ _) (fun _ hk => hk.elim) (fun _ _ => trivial) HR8.out (Below.refl _ _) HB8.out HSL.out ?_; intro v9 w9 hR9 hb9 hg9 hat9;
                                  have HK9 := Lib.hid (HK8.out.grown (fun k hk => Kd.R_base HR8.out k hk) hg9);
                                  have hS9 : w9.cell? ai = some (.int .i64 kf) ∧ Hid (KO wl w5 w9) := ⟨HKC.out _ HK9.out, HK9⟩;
                                  have HP9 := Lib.hid (PSt.grownR HP8.out (fun k hk => ⟨Nat.le_trans hb45 (Kd.R_base HR8.out k hk), (Kd.R_typed HR8.out k hk).elim fun cs hcs => ⟨cs, 76, hcs, by decide, by decide⟩⟩) hg9);
                                  have HR9 := Lib.hid hR9;
                                  have HSZ9 := Lib.hid (Nat.le_trans HB8.out hg9.size);
                                  obtain ⟨A9, c9, hv9⟩ := Kd.R_slice hR9; subst hv9; clear hR9 hg9 hb9 hat9)))
                          go_wp2_with fail
                          go_roundw
                          case rel => exact ⟨j + 1, _, sl ++ [⟨kf, pg⟩], by omega, by go_num, Lib.hid ⟨by have := HI.out.1; simp; omega, HP9.out, by have := HR9.out; simpa only [List.length_append, List.length_cons, List.length_nil, Nat.zero_add] using this, HK9.out, HS.out, fun h => HI.out.2.2.2.2.2.1 (putP_e h), HSZ9.out⟩⟩
                          case measure => simp [intOf]; omega
                        · have heb : (pt.e == 0) = false := by simp [he]
                          have HS := Lib.hid (show slotsGo ps ls = ((slotsGo pt (ls.drop (j + 1))).1, sl ++ (slotsGo pt (ls.drop (j + 1))).2) by
                            rw [HI.out.2.2.2.2.1, HLF.out.1, slotsGo, if_neg he])
                          go_wp2_with fail
                          go_roundw
                          case rel => exact ⟨j + 1, pt, sl, by omega, by go_num, Lib.hid ⟨Nat.le_succ_of_le HI.out.1, HI.out.2.1, HI.out.2.2.1, HI.out.2.2.2.1, HS.out, HI.out.2.2.2.2.2⟩⟩
                          case measure => simp [intOf]; omega
                      · obtain rfl : j = ls.length := by omega
                        have hsl : slotsGo ps ls = (pt, sl) := by
                          have := HI.out.2.2.2.2.1
                          rw [List.drop_length] at this
                          simpa [slotsGo] using this
                        obtain ⟨A9, c9, hv9, hc9, hC9⟩ := Kd.R_reads HI.out.2.2.1
                        subst hv9
                        have HC9 := Lib.hid hC9
                        have HP9 := Lib.hid HI.out.2.1
                        have HQ2 := Lib.hid (show (if (putP pt (pageRes (indexB sl)).1 (pageRes (indexB sl)).2).1.e = 0 then ((putP pt (pageRes (indexB sl)).1 (pageRes (indexB sl)).2).1.out, (putP pt (pageRes (indexB sl)).1 (pageRes (indexB sl)).2).2, 0) else ([], 0, (putP pt (pageRes (indexB sl)).1 (pageRes (indexB sl)).2).1.e)) = (t0, t1, t2) by
                          have := HP.out
                          rw [HQ.out, hsl] at this
                          exact this)
                        have HSZ := Lib.hid (indexB_size sl)
                        clear hC9 hsl HI HQ HNE HP
                        go_wp2_with fail
                        refine (sheet_Index.calls A9 c9 sl (pageRes (indexB sl)).1 (pageRes (indexB sl)).2 wr HC9.out hc9 rfl).mono ?_
                        rintro e w10 ⟨rfl, hb10⟩
                        have HP10 := Lib.hid (HP9.out.step hb10)
                        clear hb10 HC9 HP9
                        generalize pageRes (indexB sl) = pr at HSZ HQ2 ⊢
                        obtain ⟨pb, pi⟩ := pr
                        go_wp2_with fail
                        refine (put_calls (fun k => wl.heap.size ≤ k ∧ k < w5.heap.size) w w10 g l1.length pt pb pi HSZ.out HP10.out).mono ?_
                        rintro e w11 ⟨rfl, hp11, hk11⟩
                        have HQ3 := Lib.hid (show (if (putP pt pb pi).1.e = 0 then ((putP pt pb pi).1.out, (putP pt pb pi).2, 0) else ([], 0, (putP pt pb pi).1.e)) = (t0, t1, t2) from HQ2.out)
                        generalize putP pt pb pi = pq at hp11 HQ3 ⊢
                        obtain ⟨pq, rt⟩ := pq
                        obtain ⟨mb, A1', c1', vo, D, hP⟩ := hp11
                        have q3 := Lib.cell_of_heap hP.1 3
                        have q2 := Lib.cell_of_heap hP.1 2
                        simp at q3 q2
                        have HR11 := Lib.hid hP.2.2.2.2.2.2.2.2.2.1
                        have HB11 := Lib.hid hP.2.2.2.2.2.2.2.2.2.2.1
                        clear hk11 hP HQ2 HP10 HSZ
                        by_cases he : pq.e = 0
                        · have heb : (pq.e != 0) = false := by simp [he]
                          obtain ⟨rfl, rfl, rfl⟩ : pq.out = t0 ∧ rt = t1 ∧ t2 = 0 := by
                            have := HQ3.out
                            simp only [he, if_true] at this
                            injection this with h1 h2
                            injection h2 with h2 h3
                            exact ⟨h1, h2, h3.symm⟩
                          obtain ⟨Ao, co, hvo⟩ := Kd.R_slice HR11.out
                          subst hvo
                          clear HQ3
                          go_wp2_with fail
                          go_ret3
                          exact ⟨_, rfl, HR11.out, HB11.out⟩
                        · have heb : (pq.e != 0) = true := by simp [he]
                          obtain ⟨rfl, rfl, rfl⟩ : t0 = [] ∧ t1 = 0 ∧ pq.e = t2 := by
                            have := HQ3.out
                            simp only [he, if_false] at this
                            injection this with h1 h2
                            injection h2 with h2 h3
                            exact ⟨h1.symm, h2.symm, h3⟩
                          clear HQ3 q2
                          go_upto_region 34 with (fail)
                          go_quiet (fail)
                          go_wp2_with fail
                          go_ret3
                          exact ⟨_, rfl, Kd.R_nil _ _ _ _ _, pw_below_drewN HB11.out _⟩
end Go.Proofs.Ytjnhbalclimmnaa.PA
