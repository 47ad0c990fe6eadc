/- Contracts of the program's (*plan).put and (*plan).chain, walked by hand. -/
import Derived.Test.YtjnhbalclimmnaaH3
import Derived.Test.YtjnhbalclimmnaaPAx6
import Derived.Test.YtjnhbalclimmnaaPAx9
import Derived.Test.YtjnhbalclimmnaaH4
import Derived.Maps.OwnSet
set_option linter.unusedSimpArgs false
set_option linter.unusedVariables false
namespace Go.Proofs.Ytjnhbalclimmnaa.PA
open Go Go.RowKit Go.Proofs.YtjnhbalclimmnaaW.PrintWords H L

/-- What a plan holds. -/
structure PS where
  known : ByteArray → Option Int
  free : List Int
  out : List S28
  e : Int
open Classical in
/-- bytes come onto a page: which one -/
noncomputable def putP (p : PS) (b : ByteArray) (is : Bool) : PS × Int :=
  if p.e = 0 then
    if is then
      match p.known b with
      | some n => (p, n)
      | none => match p.free with
        | [] => ({ p with e := 8 }, 0)
        | n :: r => ({ known := fun s => if s = b then some n else p.known s, free := r, out := p.out ++ [⟨n, b⟩], e := 0 }, n)
    else ({ p with e := 9 }, 0)
  else (p, 0)
/-- A map as data, and the function that it is. -/
def KnownD (D : DataW Unit) (known : ByteArray → Option Int) : Prop :=
  Maps.IsMap D ∧ ∀ s : ByteArray, Maps.has D (.string s.data.toList) = (known s).isSome ∧ D.atKey (.string s.data.toList) (.lit (.int .i64 0)) = .lit (.int .i64 ((known s).getD 0))
theorem KnownD.empty : KnownD (.map []) (fun _ => none) := ⟨Maps.isMap_empty, fun s => ⟨rfl, rfl⟩⟩
theorem data_inj {s b : ByteArray} (h : s.data.toList = b.data.toList) : s = b := by
  cases s; cases b; simp at h; simp [h]
open Classical in
theorem KnownD.put {D : DataW Unit} {known : ByteArray → Option Int} (h : KnownD D known) (b : ByteArray) (n : Int) :
    KnownD (D.put (.string b.data.toList) (.lit (.int .i64 n))) (fun s => if s = b then some n else known s) := by
  refine ⟨h.1.put _ _, fun s => ?_⟩
  by_cases hs : s = b
  · subst hs
    show _ = (if s = s then some n else known s).isSome ∧ _ = DataW.lit (Lit.int IntKind.i64 ((if s = s then some n else known s).getD 0))
    rw [if_pos rfl]
    exact ⟨Maps.has_put_same h.1 (by simp [WideAt.IsKeyLit]) _, Maps.atKey_put_same h.1 (by simp [WideAt.IsKeyLit]) _ _⟩
  · show _ = (if s = b then some n else known s).isSome ∧ _ = DataW.lit (Lit.int IntKind.i64 ((if s = b then some n else known s).getD 0))
    rw [if_neg hs]
    have hne : (Lit.string s.data.toList) ≠ .string b.data.toList := fun e => hs (data_inj (by injection e))
    exact ⟨by rw [Maps.has_put_other hne]; exact (h.2 s).1, by rw [Maps.atKey_put_other hne]; exact (h.2 s).2⟩
/-- The plan at block g of W: its map, its free pages, its pages that are written. -/
@[reducible] def PStM (F : Nat → Prop) (w0 W : World) (g N : Nat) (p : PS) (mb : Nat) (A1 : Option Addr) (c1 : Nat) (vo : Value) (D : DataW Unit) : Prop :=
    W.heap[g]? = some (.cells #[.map (some mb), .slice A1 p.free.length c1, vo, .int .i64 p.e] 68 (0, 0)) ∧ w0.heap.size ≤ g ∧ w0.heap.size ≤ mb ∧
    p.free.length ≤ c1 ∧ Kd.C (Kd.int .i64) w0 A1 p.free.length p.free ∧ (∀ x ∈ p.free, 0 ≤ x ∧ x < 200) ∧
    W.ownsMap Try.prog 9 (plainElem Try.prog 3) mb (N + p.out.length) D ∧ KnownD D p.known ∧ (N ≤ 1000000 ∧ p.out.length + p.free.length ≤ 1000000) ∧
    Kd.R k28 28 W w0.heap.size (fun _ => True) vo p.out ∧ Below w0.heap.size w0 W ∧ (∀ k, F k → k < W.heap.size ∧ k ≠ g ∧ k ≠ mb ∧ some k ≠ vo.ownBlock)
def PSt (F : Nat → Prop) (w0 W : World) (g N : Nat) (p : PS) : Prop :=
  ∃ (mb : Nat) (A1 : Option Addr) (c1 : Nat) (vo : Value) (D : DataW Unit), PStM F w0 W g N p mb A1 c1 vo D
theorem known_eq {D : DataW Unit} {k : Lit} {c n : Int} {z : DataW Unit} (h : D.atKey k z = .lit (.int .i64 c)) (h2 : D.atKey k z = .lit (.int .i64 ((some n).getD 0))) : n = c := by
  have h3 := h.symm.trans h2
  injection h3 with h3
  injection h3 with h3 h4
  exact h4.symm
/-- What a put leaves as it was: all but the plan's own block, maps and rows of pages that are written. -/
def PK (F : Nat → Prop) (g : Nat) (W W' : World) : Prop :=
  W.heap.size ≤ W'.heap.size ∧ ∀ k o, W.heap[k]? = some o → k ≠ g → (F k ∨ ((∀ es c, o ≠ .map es c) ∧ (∀ c fz, o ≠ .cells c 28 fz))) → W'.heap[k]? = some o
theorem PK.refl (F : Nat → Prop) (g : Nat) (W : World) : PK F g W W := ⟨Nat.le_refl _, fun _ _ h _ _ => h⟩
theorem PK.trans {F : Nat → Prop} {g : Nat} {W W1 W2 : World} (h : PK F g W W1) (k : PK F g W1 W2) : PK F g W W2 :=
  ⟨Nat.le_trans h.1 k.1, fun i o hi hg hm => k.2 i o (h.2 i o hi hg hm) hg hm⟩
theorem PK.below {F : Nat → Prop} {g : Nat} {W W1 : World} (h : Below W.heap.size W W1) : PK F g W W1 :=
  ⟨h.size, fun i o hi _ _ => (h.block i (Array.getElem?_eq_some_iff.1 hi).1).trans hi⟩
theorem law9 : Maps.Keyed Try.prog 9 := Maps.string_keyed Try.underlying9
theorem zero3 (w : World) : (zeroValue 3).run Try.prog w = .ok (.int .i64 0) w := by kernel_rfl

theorem PSt.set3 {F : Nat → Prop} {w0 W : World} {g N : Nat} {p : PS} (h : PSt F w0 W g N p) (e : Int) : PSt F w0 (W.setCell ⟨g, 3, none⟩ (.int .i64 e)) g N { p with e := e } ∧ PK F g W (W.setCell ⟨g, 3, none⟩ (.int .i64 e)) := by
  obtain ⟨mb, A1, c1, vo, D, hg, h1, h2, h3, h4, h5, h6, h7, h8, h9, h10, h11⟩ := h
  have hne : mb ≠ g := by
    rintro rfl
    obtain ⟨es, cl, hm, _⟩ := h6
    rw [hg] at hm
    cases hm
  refine ⟨⟨mb, A1, c1, vo, D, by simpa using blk_set hg 3 (.int .i64 e), h1, h2, h3, h4, h5, h6.setCell hne _, h7, h8, Kd.R_set h9 hg (by decide) 3 _, h10.setCell h1 _, fun k hk => by simpa [World.setCell] using h11 k hk⟩, by simp [World.setCell], fun k o hk hkg _ => ?_⟩
  rw [Below.heap_setCell _ _ _ _ hkg]
  exact hk

/-- What stands behind the cut of the free pages. -/
def Mid (F : Nat → Prop) (w0 W W1 : World) (g N mb : Nat) (A2 : Option Addr) (c2 : Nat) (r : List Int) (vo : Value) (D : DataW Unit) (p : PS) : Prop :=
  W1.heap[g]? = some (.cells #[.map (some mb), .slice A2 r.length c2, vo, .int .i64 p.e] 68 (0, 0)) ∧ W1.ownsMap Try.prog 9 (plainElem Try.prog 3) mb (N + p.out.length) D ∧ Kd.R k28 28 W1 w0.heap.size (fun _ => True) vo p.out ∧ Below w0.heap.size w0 W1 ∧ PK F g W W1
theorem mid_of {F : Nat → Prop} {w0 W : World} {g N mb n1 : Nat} {A1 A2 : Option Addr} {c1 c2 : Nat} {r : List Int} {vo : Value} {D : DataW Unit} {p : PS} (hg : W.heap[g]? = some (.cells #[.map (some mb), .slice A1 n1 c1, vo, .int .i64 p.e] 68 (0, 0))) (h1 : w0.heap.size ≤ g)
    (hm : W.ownsMap Try.prog 9 (plainElem Try.prog 3) mb (N + p.out.length) D) (ho : Kd.R k28 28 W w0.heap.size (fun _ => True) vo p.out) (hb : Below w0.heap.size w0 W) :
    Mid F w0 W (W.setCell ⟨g, 1, none⟩ (.slice A2 r.length c2)) g N mb A2 c2 r vo D p := by
  have hne : mb ≠ g := by
    rintro rfl
    obtain ⟨es, cl, hm, _⟩ := hm
    rw [hg] at hm
    cases hm
  refine ⟨by simpa using blk_set hg 1 (.slice A2 r.length c2), hm.setCell hne _, Kd.R_set ho hg (by decide) 1 _, hb.setCell h1 _, by simp [World.setCell], fun k o hk hkg _ => ?_⟩
  rw [Below.heap_setCell _ _ _ _ hkg]
  exact hk
theorem info28h : (Try.prog.info? 28).map (fun i => (i.zero, i.size, i.bytes)) = some (some (.agg #[.int .i64 0, .string ⟨#[]⟩]), 2, 24) := by kernel_rfl
theorem R_not_map {α : Type} {d : Kd α} {e base mb : Nat} {W : World} {v : Value} {xs : List α} {es : Array MapEntry} {cl : Nat} (h : d.R e W base (fun _ => True) v xs) (hm : W.heap[mb]? = some (.map es cl)) : d.R e W base (fun k => k ≠ mb) v xs :=
  Kd.R_mono (Kd.R_bound h) (fun k hk => by
    obtain ⟨_, _, _, q, _, cells, hc⟩ := hk
    rintro rfl
    rw [hm] at hc
    cases hc)
theorem mid_two {F : Nat → Prop} {w0 W W1 W2 : World} {g N mb n2 : Nat} {A2 : Option Addr} {c2 : Nat} {r : List Int} {vo : Value} {D D2 : DataW Unit} {p : PS} (h : Mid F w0 W W1 g N mb A2 c2 r vo D p) (hF : ∀ k, F k → k < W.heap.size ∧ k ≠ g ∧ k ≠ mb ∧ some k ≠ vo.ownBlock) (h2 : w0.heap.size ≤ mb)
    (hm : W2.ownsMap Try.prog 9 (plainElem Try.prog 3) mb n2 D2) (hg : W1.grownBy W2 (some mb)) :
    W2.heap[g]? = some (.cells #[.map (some mb), .slice A2 r.length c2, vo, .int .i64 p.e] 68 (0, 0)) ∧ Kd.R k28 28 W2 w0.heap.size (fun _ => True) vo p.out ∧ Below w0.heap.size w0 W2 ∧ PK F g W1 W2 := by
  obtain ⟨g1, m1, o1, b1, k1⟩ := h
  obtain ⟨es, cl, hmb, _⟩ := m1
  have hne : g ≠ mb := by
    rintro rfl
    rw [g1] at hmb
    cases hmb
  refine ⟨(hg.block g (Array.getElem?_eq_some_iff.1 g1).1 (by simpa using hne)).trans g1, Kd.R_mono (Kd.R_grown (R_not_map o1 hmb) hg (fun k hk => by simpa using hk)) (fun _ _ => trivial), b1.grown hg b1.size (fun k hk => by cases hk; exact h2), hg.size, fun k o hk hkg hkm => ?_⟩
  refine (hg.block k (Array.getElem?_eq_some_iff.1 hk).1 ?_).trans hk
  intro e
  injection e with e
  subst e
  rcases hkm with hkm | hkm
  · exact (hF _ hkm).2.2.1 rfl
  · rw [hmb] at hk
    injection hk with hk
    exact hkm.1 _ _ hk.symm
theorem put_mid {W2 w3 : World} {g base : Nat} {vo : Value} {cs : Array Value} {xs : List S28} (h : W2.heap[g]? = some (.cells cs 68 (0, 0))) (hR : Kd.R k28 28 W2 base (fun _ => True) vo xs) (hg : W2.grownBy w3 vo.ownBlock) : w3.heap[g]? = some (.cells cs 68 (0, 0)) :=
  blk_grown h hg (Kd.R_ne hR h (by decide))
open Classical in
theorem put_end {F : Nat → Prop} {w0 W W1 W2 w3 : World} {g N mb : Nat} {A2 : Option Addr} {c2 : Nat} {n : Int} {r : List Int} {vo v3 : Value} {D : DataW Unit} {p : PS} {b : ByteArray} (h : Mid F w0 W W1 g N mb A2 c2 r vo D p) (hF : ∀ k, F k → k < W.heap.size ∧ k ≠ g ∧ k ≠ mb ∧ some k ≠ vo.ownBlock) (h1 : w0.heap.size ≤ g) (h2 : w0.heap.size ≤ mb)
    (hc : r.length ≤ c2) (hC : Kd.C (Kd.int .i64) w0 A2 r.length r) (hfr : ∀ x ∈ r, 0 ≤ x ∧ x < 200) (hD : KnownD D p.known) (hN : N ≤ 1000000 ∧ p.out.length + (n :: r).length ≤ 1000000) (he : p.e = 0)
    (hm2 : W2.ownsMap Try.prog 9 (plainElem Try.prog 3) mb (N + p.out.length + 1) (D.put (.string b.data.toList) (.lit (.int .i64 n)))) (hg2 : W1.grownBy W2 (some mb))
    (hR3 : Kd.R k28 28 w3 w0.heap.size (fun _ => True) v3 (p.out ++ [⟨n, b⟩])) (hb3 : Below w0.heap.size w0 w3) (hg3 : W2.grownBy w3 vo.ownBlock) (hat3 : v3.ownBlock = vo.ownBlock ∨ ∃ b, v3.ownBlock = some b ∧ W2.heap.size ≤ b) :
    PSt F w0 (w3.setCell ⟨g, 2, none⟩ v3) g N { known := fun s => if s = b then some n else p.known s, free := r, out := p.out ++ [⟨n, b⟩], e := 0 } ∧ PK F g W (w3.setCell ⟨g, 2, none⟩ v3) := by
  obtain ⟨g2, o2, b2, k2⟩ := mid_two h hF h2 hm2 hg2
  have hz2 : W.heap.size ≤ W2.heap.size := Nat.le_trans h.2.2.2.2.1 k2.1
  have hz3 : W2.heap.size ≤ w3.heap.size := hg3.size
  have g3 := put_mid g2 o2 hg3
  obtain ⟨es, cl, hmb, hrest⟩ := hm2
  have hm2 : W2.ownsMap Try.prog 9 (plainElem Try.prog 3) mb (N + p.out.length + 1) (D.put (.string b.data.toList) (.lit (.int .i64 n))) := ⟨es, cl, hmb, hrest⟩
  have hmv : some mb ≠ vo.ownBlock := by
    intro e
    obtain ⟨cells, hcl⟩ := Kd.R_typed o2 mb e.symm
    rw [hmb] at hcl
    cases hcl
  have m3 := hm2.kept hg3 hmv
  have hne : mb ≠ g := by
    rintro rfl
    rw [g2] at hmb
    cases hmb
  refine ⟨⟨mb, A2, c2, v3, _, by rw [he] at g3; simpa using blk_set g3 2 v3, h1, h2, hc, hC, hfr, (by simpa [Nat.add_assoc] using m3.setCell hne _), hD.put b n, ⟨hN.1, by have := hN.2; simp at this ⊢; omega⟩, Kd.R_set hR3 g3 (by decide) 2 _, hb3.setCell h1 _, fun k hk => ?_⟩, ?_⟩
  · obtain ⟨f1, f2, f3, f4⟩ := hF k hk
    refine ⟨by simp [World.setCell]; omega, f2, f3, ?_⟩
    rcases hat3 with e | ⟨b', e, hb'⟩
    · rw [e]; exact f4
    · rw [e]
      intro e'
      injection e' with e'
      omega
  refine (h.2.2.2.2.trans k2).trans ⟨?_, fun k o hk hkg hkc => ?_⟩
  · have := hg3.size; simp [World.setCell]; exact this
  · rw [Below.heap_setCell _ _ _ _ hkg]
    refine (hg3.block k (Array.getElem?_eq_some_iff.1 hk).1 ?_).trans hk
    intro e
    rcases hkc with hkc | hkc
    · exact (hF k hkc).2.2.2 e
    · obtain ⟨cells, hcl⟩ := Kd.R_typed o2 k e.symm
      rw [hk] at hcl
      injection hcl with hcl
      exact hkc.2 _ _ hcl
set_option maxHeartbeats 1000000 in
set_option maxRecDepth 100000 in
theorem put_calls (F : Nat → Prop) (w0 W : World) (g N : Nat) (p : PS) (b : ByteArray) (is : Bool) (hb : b.size ≤ 1000000) (hp : PSt F w0 W g N p) :
    Calls Try.prog 30 #[.pointer (some ⟨g, 0, none⟩), .string b, .bool is] W fun e W' => e = .returned (.int .i64 (putP p b is).2) ∧ PSt F w0 W' g N (putP p b is).1 ∧ PK F g W W' := by
  have HP := Lib.hid hp
  obtain ⟨mb, A1, c1, vo, D, hg, h1, h2, h3, h4, h5, h6, h7, h8, h9, h10, h11⟩ := hp
  have q0 := Lib.cell_of_heap hg 0
  have q1 := Lib.cell_of_heap hg 1
  have q2 := Lib.cell_of_heap hg 2
  have q3 := Lib.cell_of_heap hg 3
  have f1 := Lib.frozen_of_heap hg 1
  have f2 := Lib.frozen_of_heap hg 2
  have f3 := Lib.frozen_of_heap hg 3
  simp at q0 q1 q2 q3
  have HM := Lib.hid h6
  have HKey := Lib.hid (WideMaps.keyOf_string_mk Try.underlying9 (s := b) (by unfold maxLen; omega))
  have HG := Lib.hid hg
  have HF := Lib.hid h4
  have HFR := Lib.hid h5
  have HD := Lib.hid h7
  have HO := Lib.hid h9
  have HB := Lib.hid h10
  have HFF := Lib.hid h11
  obtain ⟨hN, hN2⟩ := h8
  have HN := Lib.hid (And.intro hN hN2)
  clear hg h4 h5 h6 h7 h9 h10 h11 hN hN2
  by_cases he : p.e = 0
  · have hpe : (p.e != 0) = false := by simp [he]
    cases is with
    | false =>
      have hput : putP p b false = ({ p with e := 9 }, 0) := by simp [putP, he]
      rw [hput]
      clear he hput
      go_enter Try.func30, Try.ntmps30
      go_wp2_with (at_lookup; refine wpList_lookup_own_ok_int _ rfl _ _ 66 rfl 9 3 .i64 law9 Try.underlying66 Try.underlying3 (zero3 _) mb _ D rfl HM.out _ _ rfl HKey.out ?_; intro c hat hwc; clear hat hwc)
      go_ret
      exact ⟨rfl, HP.out.set3 9⟩
    | true =>
      have hh := (HD.out.2 b).1
      cases hk : p.known b with
      | some n =>
        have hput : putP p b true = (p, n) := by simp [putP, he, hk]
        rw [hk] at hh
        have hat0 := (HD.out.2 b).2
        rw [hk] at hat0
        have HA := Lib.hid hat0
        clear hat0 hk
        rw [hput]
        clear he hput
        have hh2 : Maps.has D (.string b.data.toList) = true := hh
        clear hh
        go_enter Try.func30, Try.ntmps30
        go_wp2_with (at_lookup; refine wpList_lookup_own_ok_int _ rfl _ _ 66 rfl 9 3 .i64 law9 Try.underlying66 Try.underlying3 (zero3 _) mb _ D rfl HM.out _ _ rfl HKey.out ?_; intro c hat hwc; have hcn := known_eq hat HA.out; subst hcn; clear hat hwc)
        go_ret
        exact ⟨rfl, HP.out, PK.refl _ _ _⟩
      | none =>
        rw [hk] at hh
        have hh2 : Maps.has D (.string b.data.toList) = false := hh
        clear hh
        have HA := Lib.hid hk
        clear hk
        cases hf : p.free with
        | nil =>
          have hput : putP p b true = ({ p with e := 8 }, 0) := by simp [putP, he, HA.out, hf]
          have h8 := HP.out.set3 8
          rw [hput]
          have HP8 := Lib.hid h8
          clear h8 he hput
          rw [hf] at q1
          go_enter Try.func30, Try.ntmps30
          go_wp2_with (at_lookup; refine wpList_lookup_own_ok_int _ rfl _ _ 66 rfl 9 3 .i64 law9 Try.underlying66 Try.underlying3 (zero3 _) mb _ D rfl HM.out _ _ rfl HKey.out ?_; intro c hat hwc; clear hat hwc)
          go_ret
          exact ⟨rfl, HP8.out⟩
        | cons n r =>
          have hput : putP p b true = ({ known := fun s => if s = b then some n else p.known s, free := r, out := p.out ++ [⟨n, b⟩], e := 0 }, n) := by simp [putP, he, HA.out, hf]
          rw [hput]
          have HE := Lib.hid he
          rw [hf] at HF HFR HN HG h3 q1
          obtain ⟨ad, rfl, q4⟩ := at_int (Kd.C_below HF.out HB.out) (k := 0) (by simp)
          simp [Addr.add] at q4
          clear he hput hf
          have hc1 : 1 ≤ c1 := by simp at h3; omega
          have HC := Lib.hid (Kd.C_drop (m := 1) HF.out (by simp) h3)
          have HS1 := Lib.hid (fun (A2 : Option Addr) (c2 : Nat) => mid_of (F := F) (A2 := A2) (c2 := c2) (r := r) HG.out h1 HM.out HO.out HB.out)
          have hwf : (Lit.int .i64 n).wf = true := by have := HFR.out n (by simp); exact WalkArith.wf_i64 (by omega)
          have HW := Lib.hid hwf
          clear hwf
          by_cases hcap : c1 = 1
          case pos =>
            have HC2 := Lib.hid (show Kd.C (Kd.int .i64) w0 (some ad) r.length r by have := HC.out; rw [if_pos hcap] at this; simpa using this)
            subst hcap
            go_enter Try.func30, Try.ntmps30
            go_upto_region 14 with (at_lookup; refine wpList_lookup_own_ok_int _ rfl _ _ 66 rfl 9 3 .i64 law9 Try.underlying66 Try.underlying3 (zero3 _) mb _ D rfl HM.out _ _ rfl HKey.out ?_; intro c hat hwc; clear hat hwc)
            have MF := Lib.hid (HS1.out (some ad) 0)
            have HCP := Lib.hid (show r.length ≤ 0 by have h3' := h3; rw [List.length_cons] at h3'; omega)
            clear q0 q1 q2 q3 q4 f1 f2 f3 hc1 h3 HC HF
            generalize W.setCell ⟨g, 1, none⟩ (.slice (some ad) r.length 0) = W1 at MF ⊢
            obtain ⟨g1, m1, o1, b1, k1⟩ := MF.out
            have G1 := Lib.hid g1
            have q0 := Lib.cell_of_heap g1 0
            simp at q0
            have HM1 := Lib.hid m1
            clear g1 m1 o1 b1 k1
            go_upto_region 15 with (at_mapUpdate; refine wpList_mapUpdate_own _ rfl _ _ _ 66 rfl 9 3 law9 Try.underlying66 _ mb _ D rfl HM1.out (by have := HN.out; unfold maxLen; omega) _ _ _ rfl rfl HKey.out _ [] (plainElem_int Try.underlying3 HW.out) ?_; intro W2 hown2 hgrow2; have MF2 := Lib.hid (mid_two MF.out HFF.out h2 hown2 hgrow2); have M2 := Lib.hid hown2; have GR2 := Lib.hid hgrow2; clear hown2 hgrow2)
            clear q0
            have q2 := Lib.cell_of_heap MF2.out.1 2
            simp at q2
            go_wp2_with (at_builtin; refine Kd.R_append k28 (w0 := w0) w0.heap.size rfl (.tmp 68) (.tmp 72) 23 28 (.agg #[.int .i64 0, .string ⟨#[]⟩]) 24 rfl Try.underlying23 info28h rfl (by decide) (by omega) vo p.out (⟨n, b⟩ : S28) [.int .i64 n, .string b] (fun _ => True) (fun _ => False) rfl rfl (k28_mkM _ _ _ _) (fun _ hk => hk.elim) (fun _ _ => trivial) MF2.out.2.1 MF2.out.2.2.1 MF2.out.2.2.1.size (by have := HN.out; simp at this; omega) ?_; intro v3 w3 hR3 hb3 hg3 hat3; have MF3 := Lib.hid (put_end MF.out HFF.out h1 h2 HCP.out HC2.out (fun x hx => HFR.out x (by simp [hx])) HD.out HN.out HE.out M2.out GR2.out hR3 hb3 hg3 hat3); have q2' := (Lib.cell_of_heap (put_mid MF2.out.1 MF2.out.2.1 hg3) 2); have f2' := Lib.frozen_of_heap (put_mid MF2.out.1 MF2.out.2.1 hg3) 2; simp at q2'; obtain ⟨A3, c3, hv3⟩ := Kd.R_slice hR3; subst hv3; clear hR3 hb3 hg3 hat3)
            go_ret
            exact ⟨rfl, by simpa only [List.length_append, List.length_cons, List.length_nil, Nat.zero_add] using MF3.out⟩
          case neg =>
            have HC2 := Lib.hid (show Kd.C (Kd.int .i64) w0 (some (⟨ad.block, ad.off + 1, none⟩ : Addr)) r.length r by have := HC.out; rw [if_neg hcap] at this; exact this)
            have hcap2 : (c1 == 1) = false := by simp [hcap]
            go_enter Try.func30, Try.ntmps30
            go_upto_region 14 with (at_lookup; refine wpList_lookup_own_ok_int _ rfl _ _ 66 rfl 9 3 .i64 law9 Try.underlying66 Try.underlying3 (zero3 _) mb _ D rfl HM.out _ _ rfl HKey.out ?_; intro c hat hwc; clear hat hwc)
            have MF := Lib.hid (HS1.out (some (⟨ad.block, ad.off + 1, none⟩ : Addr)) (c1 - 1))
            have HCP := Lib.hid (show r.length ≤ c1 - 1 by have h3' := h3; rw [List.length_cons] at h3'; omega)
            clear q0 q1 q2 q3 q4 f1 f2 f3 hc1 h3 HC HF hcap hcap2
            generalize W.setCell ⟨g, 1, none⟩ (.slice (some (⟨ad.block, ad.off + 1, none⟩ : Addr)) r.length (c1 - 1)) = W1 at MF ⊢
            obtain ⟨g1, m1, o1, b1, k1⟩ := MF.out
            have G1 := Lib.hid g1
            have q0 := Lib.cell_of_heap g1 0
            simp at q0
            have HM1 := Lib.hid m1
            clear g1 m1 o1 b1 k1
            go_upto_region 15 with (at_mapUpdate; refine wpList_mapUpdate_own _ rfl _ _ _ 66 rfl 9 3 law9 Try.underlying66 _ mb _ D rfl HM1.out (by have := HN.out; unfold maxLen; omega) _ _ _ rfl rfl HKey.out _ [] (plainElem_int Try.underlying3 HW.out) ?_; intro W2 hown2 hgrow2; have MF2 := Lib.hid (mid_two MF.out HFF.out h2 hown2 hgrow2); have M2 := Lib.hid hown2; have GR2 := Lib.hid hgrow2; clear hown2 hgrow2)
            clear q0
            have q2 := Lib.cell_of_heap MF2.out.1 2
            simp at q2
            go_wp2_with (at_builtin; refine Kd.R_append k28 (w0 := w0) w0.heap.size rfl (.tmp 68) (.tmp 72) 23 28 (.agg #[.int .i64 0, .string ⟨#[]⟩]) 24 rfl Try.underlying23 info28h rfl (by decide) (by omega) vo p.out (⟨n, b⟩ : S28) [.int .i64 n, .string b] (fun _ => True) (fun _ => False) rfl rfl (k28_mkM _ _ _ _) (fun _ hk => hk.elim) (fun _ _ => trivial) MF2.out.2.1 MF2.out.2.2.1 MF2.out.2.2.1.size (by have := HN.out; simp at this; omega) ?_; intro v3 w3 hR3 hb3 hg3 hat3; have MF3 := Lib.hid (put_end MF.out HFF.out h1 h2 HCP.out HC2.out (fun x hx => HFR.out x (by simp [hx])) HD.out HN.out HE.out M2.out GR2.out hR3 hb3 hg3 hat3); have q2' := (Lib.cell_of_heap (put_mid MF2.out.1 MF2.out.2.1 hg3) 2); have f2' := Lib.frozen_of_heap (put_mid MF2.out.1 MF2.out.2.1 hg3) 2; simp at q2'; obtain ⟨A3, c3, hv3⟩ := Kd.R_slice hR3; subst hv3; clear hR3 hb3 hg3 hat3)
            go_ret
            exact ⟨rfl, by simpa only [List.length_append, List.length_cons, List.length_nil, Nat.zero_add] using MF3.out⟩
  · have hpe : (p.e != 0) = true := by simp [he]
    have hput : putP p b is = (p, 0) := by simp [putP, he]
    rw [hput]
    clear he hput
    go_enter Try.func30, Try.ntmps30
    go_wp2_with (at_lookup; refine wpList_lookup_own_ok_int _ rfl _ _ 66 rfl 9 3 .i64 law9 Try.underlying66 Try.underlying3 (zero3 _) mb _ D rfl HM.out _ _ rfl HKey.out ?_; intro c hat hwc; clear hat hwc)
    go_ret
    exact ⟨rfl, HP.out, PK.refl _ _ _⟩
end Go.Proofs.Ytjnhbalclimmnaa.PA
