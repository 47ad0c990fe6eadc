/- Contract of sheet.Leaf, walked by hand. -/
import Derived.Test.YtjnhbalclimmnaaH1
import Derived.Test.YtjnhbalclimmnaaPAx5
import Derived.Deep.RegionHeld3
set_option linter.unusedSimpArgs false
set_option linter.unusedVariables false
namespace Go.Proofs.Ytjnhbalclimmnaa.PA
open Go Go.RowKit Go.Proofs.YtjnhbalclimmnaaW.PrintWords H L

def rightB (c : S61) : Bool := if c.f1 ≤ 24 then decide ((c.f3.size : Int) = c.f1) && decide (c.f2 = 0) else decide (c.f1 ≤ 900) && decide (c.f3.size = 0) && pageOk c.f2
def cellB (c : S61) : List UInt8 := be 4 c.f0 ++ be 2 c.f1 ++ c.f3.data.toList ++ (if c.f1 ≤ 24 then [] else be 2 c.f2)
/-- the bytes of cells, behind a key -/
def cellsB : Int → List S61 → Option (List UInt8)
  | _, [] => some []
  | ahead, c :: r => if keyOk c.f0 ahead && rightB c then (cellsB c.f0 r).map (cellB c ++ ·) else none
def leafB (l : List S61) : Option ByteArray :=
  if l.length ≤ 128 then (cellsB (-1) l).bind fun t => fullPage ⟨(76 :: UInt8.ofNat l.length :: t).toArray⟩ else none
def sheet_Leaf.f (l0 : List S61) : Option (ByteArray × Bool) := some (pageRes (leafB l0))

/-- What holds of the world in Leaf's loop: nothing old has turned; the builder at block b holds acc. -/
structure BSt (w0 w : World) (b : Nat) (acc : List UInt8) : Prop where
  below : Below w0.heap.size w0 w
  bld : Lib.IsBuilderF 118 5 w0.heap.size b (Lib.byteCells acc) w
  lt : b < w.heap.size
theorem builderAt_step {w w1 : World} {B b : Nat} {p : Value} {bs : List Value} (h : Lib.BuilderAtF 118 5 B b p bs w) (hb : Below w.heap.size w w1) : Lib.BuilderAtF 118 5 B b p bs w1 := by
  have hlt := h.lt
  obtain ⟨h1, v, h2, h3, h4⟩ := h
  exact ⟨h1, v, (hb.block b hlt).trans h2, h3.kept (grown_of_below hb none) (by cases v.ownBlock <;> simp), h4⟩
theorem BSt.step {w0 w w1 : World} {b : Nat} {acc : List UInt8} (h : BSt w0 w b acc) (hb : Below w.heap.size w w1) : BSt w0 w1 b acc :=
  ⟨below_then h.below h.below.size hb, by
    rcases h.bld with h | h
    · exact .inl (builderAt_step h hb)
    · exact .inr (builderAt_step h hb), Nat.lt_of_lt_of_le h.lt hb.size⟩
theorem BSt.alloc {w0 w : World} {b : Nat} {acc : List UInt8} (h : BSt w0 w b acc) (o : Obj) : BSt w0 (w.alloc o) b acc := h.step (below_alloc (Below.refl _ _) o)
theorem BSt.drew {w0 w : World} {b : Nat} {acc : List UInt8} (h : BSt w0 w b acc) : BSt w0 w.drew b acc := h.step (below_drew (Below.refl _ _))
theorem BSt.new (w : World) : BSt w (w.alloc (.cells #[.pointer none, .slice none 0 0] 118)) w.heap.size [] :=
  ⟨below_alloc (Below.refl _ _) _, .of (Lib.fresh_isBuilder 118 5 w), by simp⟩
/-- WriteString in such a state. -/
theorem BSt.write {w0 w : World} {b : Nat} {acc : List UInt8} (h : BSt w0 w b acc) (s : ByteArray) (hl : acc.length + s.size ≤ 140737488355328) :
    Calls Try.prog 56 #[.pointer (some ⟨b, 0, none⟩), .string s] w fun e w' => e = .returned (.tuple #[.int .i64 s.size, .nilIface]) ∧ BSt w0 w' b (acc ++ s.data.toList) ∧ Lib.OthersKept 5 (some b) w w' := by
  refine (writeString w0.heap.size b (Lib.byteCells acc) s w h.bld (by simpa [Lib.byteCells] using hl) h.below.size).mono ?_
  rintro e w' ⟨rfl, h1, h2, h3⟩
  refine ⟨rfl, ⟨h.below.trans h2, .inr ?_, h1.lt⟩, h3⟩
  have : Lib.byteCells (acc ++ s.data.toList) = Lib.byteCells acc ++ Lib.strCells s := by simp [Lib.byteCells, Lib.strCells]
  rw [this]; exact h1
theorem two_bytes (x y : Int) : ∀ W : World, (convert 43 9 (.slice (some ⟨W.heap.size, 0, none⟩) 2 2)).run Try.prog (W.alloc (.cells #[.int .u8 x, .int .u8 y] 5)) = .ok (.string (strOfNums [x, y])) (W.alloc (.cells #[.int .u8 x, .int .u8 y] 5)) := by
  intro W
  refine own_string (P := Try.prog) (base := 0) (n := 2) (e' := 5) Try.underlying43 Try.underlying5 Try.underlying9 (xs := [x, y]) ?_
  exact ⟨by simp [nums], .inr ⟨W.heap.size, 2, #[.int .u8 x, .int .u8 y], rfl, Nat.zero_le _, heap_alloc_new W _, by simp, by decide, by simp, by simp [nums]⟩⟩

/-- A cell in a box of its own. -/
def CBox (W : World) (g : Nat) (c : S61) : Prop := W.heap[g]? = some (.cells #[.int .i64 c.f0, .int .i64 c.f1, .int .i64 c.f2, .string c.f3] 61 (0, 0))
theorem CBox.cells {W : World} {g : Nat} {c : S61} (h : CBox W g c) : W.cell? ⟨g, 0, none⟩ = some (.int .i64 c.f0) ∧ W.cell? ⟨g, 1, none⟩ = some (.int .i64 c.f1) ∧ W.cell? ⟨g, 2, none⟩ = some (.int .i64 c.f2) ∧ W.cell? ⟨g, 3, none⟩ = some (.string c.f3) :=
  ⟨Lib.cell_of_heap h 0, Lib.cell_of_heap h 1, Lib.cell_of_heap h 2, Lib.cell_of_heap h 3⟩
theorem CBox.lt {W : World} {g : Nat} {c : S61} (h : CBox W g c) : g < W.heap.size := (Array.getElem?_eq_some_iff.1 h).1
theorem CBox.step {W W1 : World} {g : Nat} {c : S61} (h : CBox W g c) (hb : Below W.heap.size W W1) : CBox W1 g c := (hb.block g h.lt).trans h
theorem CBox.others {W W1 : World} {g b : Nat} {c : S61} (h : CBox W g c) (hb : Lib.OthersKept 5 (some b) W W1) (hne : g ≠ b) : CBox W1 g c := hb g _ h (by simpa using hne) (by intro c fz; simp)
theorem CBox.new (W : World) (c : S61) : CBox (W.alloc (.cells #[.int .i64 c.f0, .int .i64 c.f1, .int .i64 c.f2, .string c.f3] 61)) W.heap.size c := heap_alloc_new W _
theorem key_f (a b : Int) : sheet_key.f a b = some (keyOk a b) := by
  unfold sheet_key.f keyOk
  by_cases h : b < a <;> simp [h]
theorem page_f (a : Int) : sheet_page.f a = some (pageOk a) := by
  unfold sheet_page.f pageOk
  by_cases h : (2 : Int) ≤ a <;> simp [h]
theorem toList_nil (s : ByteArray) : s.toList = [] ↔ s.size = 0 := by
  rw [Lib.toList_data, Lib.size_eq]
  exact ⟨fun h => by rw [h]; rfl, fun h => List.eq_nil_of_length_eq_zero h⟩
theorem right_f (c : S61) : sheet_right.f c.f0 c.f1 c.f2 c.f3 = some (rightB c) := by
  unfold sheet_right.f rightB
  simp only [page_f, toList_nil]
  by_cases h : c.f1 ≤ 24
  · by_cases h2 : (c.f3.size : Int) = c.f1
    · simp only [h, h2, if_true, decide_true, Bool.true_and]; congr 1
    · simp [h, h2]
  · by_cases h2 : c.f1 ≤ 900
    · by_cases h3 : c.f3.size = 0 <;> simp [h, h2, h3]
    · simp [h, h2]

/-- laid open for the walk -/
theorem CBox.laid {W : World} {g : Nat} {c : S61} (h : CBox W g c) :
    W.cell? ⟨g, 0, none⟩ = some (.int .i64 c.f0) ∧ W.cell? ⟨g, 1, none⟩ = some (.int .i64 c.f1) ∧ W.cell? ⟨g, 2, none⟩ = some (.int .i64 c.f2) ∧ W.cell? ⟨g, 3, none⟩ = some (.string c.f3) ∧ Hid (CBox W g c) :=
  ⟨h.cells.1, h.cells.2.1, h.cells.2.2.1, h.cells.2.2.2, Lib.hid h⟩
theorem drop_rd {l0 : List S61} {k : Nat} (hk : k < l0.length) {c : S61} (hc : c = rd_T61 l0 k) : l0.drop k = c :: l0.drop (k + 1) := by
  subst hc
  rw [List.drop_eq_getElem_cons hk]
  simp [rd_T61, List.getD_eq_getElem?_getD, List.getElem?_eq_getElem hk]
theorem leaf_stop {ahead : Int} {c : S61} {r : List S61} {acc : List UInt8} {r1 : ByteArray} {r2 : Bool} (h : (keyOk c.f0 ahead && rightB c) = false)
    (hp : pageRes ((cellsB ahead (c :: r)).bind fun t => fullPage ⟨(acc ++ t).toArray⟩) = (r1, r2)) : r1 = ⟨#[]⟩ ∧ r2 = false := by
  simp [cellsB, h, pageRes] at hp
  exact ⟨hp.1.symm, hp.2⟩
theorem right_size {c : S61} (h : rightB c = true) : c.f3.size ≤ 24 := by
  unfold rightB at h
  by_cases h1 : c.f1 ≤ 24
  · simp [h1] at h; omega
  · simp [h1] at h; rw [h.1.2]; exact Nat.zero_le _
theorem leaf_next {l0 : List S61} {k : Nat} (hk : k < l0.length) {ahead : Int} {c : S61} {acc : List UInt8} {r1 : ByteArray} {r2 : Bool} (hko : keyOk c.f0 ahead = true) (hro : rightB c = true) (hc : c = rd_T61 l0 k)
    {s4 s2 : ByteArray} (h4 : s4 = ⟨(be 4 c.f0).toArray⟩) (h2 : s2 = ⟨(be 2 c.f1).toArray⟩) (hp : pageRes ((cellsB ahead (l0.drop k)).bind fun t => fullPage ⟨(acc ++ t).toArray⟩) = (r1, r2)) :
    (c.f1 ≤ 24 → pageRes ((cellsB c.f0 (l0.drop (k + 1))).bind fun t => fullPage ⟨(acc ++ (s4 ++ s2 ++ c.f3).data.toList ++ t).toArray⟩) = (r1, r2)) ∧
      (¬ c.f1 ≤ 24 → ∀ s6 : ByteArray, s6 = ⟨(be 2 c.f2).toArray⟩ → pageRes ((cellsB c.f0 (l0.drop (k + 1))).bind fun t => fullPage ⟨(acc ++ (s4 ++ s2 ++ c.f3).data.toList ++ s6.data.toList ++ t).toArray⟩) = (r1, r2)) := by
  rw [drop_rd hk hc] at hp
  simp only [cellsB, hko, hro, Bool.and_self, if_true] at hp
  have e : ∀ a b : ByteArray, (a ++ b).data.toList = a.data.toList ++ b.data.toList := fun a b => by simp [ByteArray.data_append]
  have hm : ∀ (o : Option (List UInt8)) (u : List UInt8) (f : List UInt8 → Option ByteArray), (o.map (u ++ ·)).bind f = o.bind fun t => f (u ++ t) := by
    intro o u f; cases o <;> rfl
  rw [hm] at hp
  refine ⟨fun h => ?_, fun h s6 h6 => ?_⟩
  · rw [← hp]
    simp only [cellB, h, if_true, e, h4, h2, List.append_assoc, List.append_nil, List.nil_append]
  · rw [← hp]
    simp only [cellB, h, if_false, e, h4, h2, h6, List.append_assoc]
theorem be_num (v : Int) : ∃ k, sheet_number.f k v 4 = some ⟨(be 4 v).toArray⟩ := ⟨6, by simp [sheet_number.f, sheet_number.l0, wrap64, shr, be, strOfNums, IntKind.bits]⟩
theorem be_num2 (v : Int) : ∃ k, sheet_number.f k v 2 = some ⟨(be 2 v).toArray⟩ := ⟨6, by simp [sheet_number.f, sheet_number.l0, wrap64, shr, be, strOfNums, IntKind.bits]⟩

set_option maxHeartbeats 1000000 in
set_option maxRecDepth 100000 in
theorem sheet_Leaf.calls (A0 : Option Addr) (c0 : Nat) (l0 : List S61) (r1 : ByteArray) (r2 : Bool) (w : World) (hr0 : Kd.C k61 w A0 l0.length l0) (hc0 : l0.length ≤ c0) (h : sheet_Leaf.f l0 = some (r1, r2)) :
    Calls Try.prog 31 #[.slice A0 l0.length c0] w fun e w' => e = .returned (.tuple #[.string r1, .bool r2]) ∧ Below w.heap.size w w' := by
  have h := Option.some.inj h
  by_cases hs : l0.length ≤ 128
  · have h1 : decide (128 < l0.length) = false := by simp; omega
    have hcv := two_bytes 76 (l0.length : Int) (w.alloc (.cells #[.pointer none, .slice none 0 0] 118))
    have hsz : (w.alloc (.cells #[.pointer none, .slice none 0 0] 118)).heap.size = w.heap.size + 1 := by simp
    rw [hsz] at hcv
    clear hsz
    have HR := Lib.hid hr0
    have HH : Hid ((pageRes ((cellsB (-1) (l0.drop 0)).bind fun t => fullPage ⟨([76, UInt8.ofNat l0.length] ++ t).toArray⟩)) = (r1, r2)) := Lib.hid (by simpa [leafB, hs] using h)
    have hbs := (BSt.new w).alloc (.cells #[.int .u8 76, .int .u8 (l0.length : Int)] 5)
    have HC := Lib.hid (hbs.write (strOfNums [76, (l0.length : Int)]) (by simp [strOfNums_size]))
    clear h hr0 hbs
    go_enter Try.func31, Try.ntmps31
    go_wp2_with fail
    refine HC.out.mono ?_
    rintro e w1 ⟨rfl, hb1, -⟩
    have he : strOfNums [76, (l0.length : Int)] = ⟨#[76, UInt8.ofNat l0.length]⟩ := rfl
    rw [he] at hb1
    have Hb1 := Lib.hid hb1
    clear hb1 he HC hcv
    go_wp2_with fail
    go_loopw [5, 19] (fun a i wr => ∃ (k : Nat) (ahead : Int) (acc : List UInt8), k ≤ l0.length ∧ i = .int .i64 k ∧ a = .int .i64 ahead ∧ Hid (acc.length ≤ 2 + 40 * k ∧ BSt w wr w.heap.size acc ∧ pageRes ((cellsB ahead (l0.drop k)).bind fun t => fullPage ⟨(acc ++ t).toArray⟩) = (r1, r2)))
      (fun _ i _ => l0.length - (intOf i).toNat)
    case atStart => exact ⟨0, -1, [76, UInt8.ofNat l0.length], Nat.zero_le _, rfl, rfl, Lib.hid ⟨by simp, Hb1.out, HH.out⟩⟩
    case round =>
      obtain ⟨k, ahead, acc, hk, rfl, rfl, HI⟩ := hrel
      clear HH Hb1
      by_cases hlt : k < l0.length
      · obtain ⟨ad, hA, q0, q1, q2, q3⟩ := at_T61 (Kd.C_below HR.out HI.out.2.1.below) k (by omega) (by omega)
        obtain ⟨c, hc⟩ : ∃ c, c = rd_T61 l0 k := ⟨_, rfl⟩
        rw [← hc] at q0 q1 q2 q3
        simp only [Int.toNat_natCast] at q0 q1 q2 q3
        have Hc := Lib.hid hc
        clear hc
        go_wp2_with fail
        have B2 := CBox.new wr c
        refine (sheet_key.calls c.f0 ahead (keyOk c.f0 ahead) _ (key_f _ _)).mono ?_
        rintro e w2 ⟨rfl, hd⟩
        have S2 := Lib.hid (((HI.out.2.1).alloc _).step hd.below)
        replace B2 := Lib.hid (B2.step hd.below)
        clear hd q0 q1 q2 q3 hA
        obtain ⟨g, hg⟩ : ∃ g, g = wr.heap.size := ⟨_, rfl⟩
        have hgne : w.heap.size < g := by have := HI.out.2.1.lt; omega
        rw [← hg] at B2
        rw [← hg]
        clear hg
        cases hko : keyOk c.f0 ahead with
        | false =>
          obtain ⟨rfl, rfl⟩ := leaf_stop (by rw [hko]; rfl) (drop_rd hlt Hc.out ▸ HI.out.2.2)
          go_wp2_with fail
          go_ret2
          exact ⟨rfl, S2.out.below⟩
        | true =>
          obtain ⟨p0, p1, p2, p3⟩ := B2.out.cells
          go_wp2_with fail
          refine (sheet_right.calls c.f0 c.f1 c.f2 c.f3 (rightB c) _ (right_f c)).mono ?_
          rintro e w3 ⟨rfl, hb3⟩
          have S3 := Lib.hid (And.intro (S2.out.step hb3) (B2.out.step hb3))
          clear hb3 p0 p1 p2 p3 S2 B2
          cases hro : rightB c with
          | false =>
            obtain ⟨rfl, rfl⟩ := leaf_stop (by rw [hko, hro]; rfl) (drop_rd hlt Hc.out ▸ HI.out.2.2)
            go_wp2_with fail
            go_ret2
            exact ⟨rfl, S3.out.1.below⟩
          | true =>
            obtain ⟨p0, p1, p2, p3⟩ := S3.out.2.cells
            go_wp2_with fail
            have hS0 := (S3.out.2.step (below_drew (Below.refl w3.heap.size w3))).laid
            have T0 := Lib.hid (S3.out.1.drew)
            obtain ⟨k4, hk4⟩ := be_num c.f0
            obtain ⟨k2, hk2⟩ := be_num2 c.f1
            obtain ⟨s4, e4⟩ : ∃ s : ByteArray, s = ⟨(be 4 c.f0).toArray⟩ := ⟨_, rfl⟩
            obtain ⟨s2, e2⟩ : ∃ s : ByteArray, s = ⟨(be 2 c.f1).toArray⟩ := ⟨_, rfl⟩
            have z4 : s4.size = 4 := by rw [e4]; simp [ByteArray.size, be_length]
            have z2 : s2.size = 2 := by rw [e2]; simp [ByteArray.size, be_length]
            have z3 := right_size hro
            have hz1 : s4.size + s2.size ≤ 9223372036854775807 := by omega
            have hz2 : s4.size + s2.size + c.f3.size ≤ 9223372036854775807 := by omega
            have hz3 : (9223372036854775807 < s4.size + s2.size) = False := eq_false (by omega)
            have hz4 : (9223372036854775807 < s4.size + s2.size + c.f3.size) = False := eq_false (by omega)
            have HZS := Lib.hid (show s4.size + s2.size + c.f3.size ≤ 30 by omega)
            rw [← e4] at hk4
            rw [← e2] at hk2
            have HE := Lib.hid (And.intro e4 e2)
            have HK4 := Lib.hid hk4
            have HK2 := Lib.hid hk2
            clear hk4 hk2 e4 e2 z4 z2 z3
            have HZ := Lib.hid (show acc.length + (s4 ++ s2 ++ c.f3).size ≤ 140737488355328 by have := HI.out.1; have := HZS.out; simp only [ByteArray.size_append]; omega)
            go_region_held3 (fun W => W.cell? ⟨g, 0, none⟩ = some (.int .i64 c.f0) ∧ W.cell? ⟨g, 1, none⟩ = some (.int .i64 c.f1) ∧ W.cell? ⟨g, 2, none⟩ = some (.int .i64 c.f2) ∧ W.cell? ⟨g, 3, none⟩ = some (.string c.f3) ∧ Hid (CBox W g c))
              (first | assumption)
              ((first
                | (go_at_call 59; (with_reducible refine (sheet_number.calls k4 c.f0 4 _ _ HK4.out).mono ?_); rintro e w4 ⟨rfl, hb4⟩; go_split_ands; have T4 := Lib.hid (BSt.step (w0 := w) (b := w.heap.size) (acc := acc) (hb := hb4) (Hid.out (by assumption))); have hS4 := (CBox.step (c := c) (g := g) (hb := hb4) (Hid.out (by assumption))).laid)
                | (go_at_call 59; (with_reducible refine (sheet_number.calls k2 c.f1 2 _ _ HK2.out).mono ?_); rintro e w5 ⟨rfl, hb5⟩; go_split_ands; have T5 := Lib.hid (BSt.step (w0 := w) (b := w.heap.size) (acc := acc) (hb := hb5) (Hid.out (by assumption))); have hS5 := (CBox.step (c := c) (g := g) (hb := hb5) (Hid.out (by assumption))).laid)
                | (go_at_call 56; refine ((Hid.out T5).write (s4 ++ s2 ++ c.f3) HZ.out).mono ?_; rintro e w6 ⟨rfl, hb6, ho6⟩; go_split_ands; have hS6 := (CBox.others (c := c) (g := g) (hb := ho6) (Hid.out (by assumption)) (Nat.ne_of_gt hgne)).laid; have T6 := Lib.hid hb6; clear hb6 ho6)))
            have B6 := Lib.hid hS6.2.2.2.2.out
            clear hS6 p0 p1 p2 p3 S3 T0
            (repeat (clear left))
            obtain ⟨p0, p1, p2, p3⟩ := B6.out.cells
            by_cases h24 : c.f1 ≤ 24
            · have h24b : decide (24 < c.f1) = false := by simp; omega
              have HN := Lib.hid (leaf_next (Nat.lt_of_lt_of_le hlt (Nat.le_refl _)) hko hro Hc.out HE.out.1 HE.out.2 HI.out.2.2)
              go_wp2_with fail
              go_roundw
              case rel => exact ⟨k + 1, c.f0, _, by omega, by go_num, rfl, Lib.hid ⟨by have := HI.out.1; have := HZS.out; simp [ByteArray.size_append, ← Lib.size_eq]; omega, T6.out, (HN.out.1 h24)⟩⟩
              case measure => simp [intOf]; omega
            · have h24b : decide (24 < c.f1) = true := by simp; omega
              obtain ⟨k6, hk6⟩ := be_num2 c.f2
              obtain ⟨s6, e6⟩ : ∃ s : ByteArray, s = ⟨(be 2 c.f2).toArray⟩ := ⟨_, rfl⟩
              rw [← e6] at hk6
              have HK6 := Lib.hid hk6
              have z6 : s6.size = 2 := by rw [e6]; simp [ByteArray.size, be_length]
              have HN := Lib.hid (leaf_next (Nat.lt_of_lt_of_le hlt (Nat.le_refl _)) hko hro Hc.out HE.out.1 HE.out.2 HI.out.2.2)
              have Z6 := Lib.hid (And.intro z6 e6)
              clear hk6 e6 z6
              go_wp2_with fail
              refine (sheet_number.calls k6 c.f2 2 _ _ HK6.out).mono ?_
              rintro e w7 ⟨rfl, hb7⟩
              have T7 := Lib.hid (T6.out.step hb7)
              clear hb7 p0 p1 p2 p3 T6 B6
              go_wp2_with fail
              refine (T7.out.write s6 (by have := HI.out.1; have := HZS.out; have := Z6.out.1; simp [ByteArray.size_append, ← Lib.size_eq]; omega)).mono ?_
              rintro e w8 ⟨rfl, hb8, -⟩
              have T8 := Lib.hid hb8
              clear hb8
              go_wp2_with fail
              go_roundw
              case rel => exact ⟨k + 1, c.f0, _, by omega, by go_num, rfl, Lib.hid ⟨by have := HI.out.1; have := HZS.out; have := Z6.out.1; simp [ByteArray.size_append, ← Lib.size_eq]; omega, T8.out, (HN.out.2 h24 _ Z6.out.2)⟩⟩
              case measure => simp [intOf]; omega
      · obtain rfl : k = l0.length := by omega
        have HE : Hid (pageRes (fullPage ⟨acc.toArray⟩) = (r1, r2)) := Lib.hid (by have := HI.out.2.2; simpa [cellsB] using this)
        go_wp2_with fail
        refine (builderString w.heap.size w.heap.size acc wr HI.out.2.1.bld HI.out.2.1.below.size).mono ?_
        rintro e w2 ⟨rfl, -, hb2, -⟩
        have T2 := Lib.hid (HI.out.2.1.below.trans hb2)
        clear hb2
        go_wp2_with fail
        refine (sheet_full.calls ⟨acc.toArray⟩ r1 r2 _ (by rw [sheet_full.f, HE.out])).mono ?_
        rintro e w3 ⟨rfl, hb3⟩
        have T3 := Lib.hid (below_then T2.out T2.out.size hb3)
        clear hb3
        go_wp2_with fail
        go_ret2
        exact ⟨rfl, T3.out⟩
  · have h1 : decide (128 < l0.length) = true := by simp; omega
    obtain ⟨rfl, rfl⟩ : r1 = ⟨#[]⟩ ∧ r2 = false := by
      simp [leafB, pageRes, hs] at h; exact ⟨h.1.symm, h.2⟩
    clear h
    go_enter Try.func31, Try.ntmps31
    go_wp2
    go_ret2
    exact ⟨rfl, Below.refl _ _⟩
end Go.Proofs.Ytjnhbalclimmnaa.PA
