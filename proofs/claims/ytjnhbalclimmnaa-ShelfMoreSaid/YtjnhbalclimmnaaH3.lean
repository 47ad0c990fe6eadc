/- Contract of sheet.Index, walked by hand. -/
import Derived.Test.YtjnhbalclimmnaaH2
set_option linter.unusedSimpArgs false
set_option linter.unusedVariables false
namespace Go.Proofs.Ytjnhbalclimmnaa.PA
open Go Go.RowKit Go.Proofs.YtjnhbalclimmnaaW.PrintWords H L

def slotB (c : S76) : List UInt8 := be 4 c.f0 ++ be 2 c.f1
/-- the bytes of slots, behind a key -/
def slotsB : Int → List S76 → Option (List UInt8)
  | _, [] => some []
  | ahead, c :: r => if keyOk c.f0 ahead && pageOk c.f1 then (slotsB c.f0 r).map (slotB c ++ ·) else none
def indexB (l : List S76) : Option ByteArray :=
  if l.length ≤ 21 then (slotsB (-1) l).bind fun t => fullPage ⟨(73 :: UInt8.ofNat l.length :: t).toArray⟩ else none
def sheet_Index.f (l0 : List S76) : Option (ByteArray × Bool) := some (pageRes (indexB l0))

/-- A slot in a box of its own. -/
def IBox (W : World) (g : Nat) (c : S76) : Prop := W.heap[g]? = some (.cells #[.int .i64 c.f0, .int .i64 c.f1] 76 (0, 0))
theorem IBox.cells {W : World} {g : Nat} {c : S76} (h : IBox W g c) : W.cell? ⟨g, 0, none⟩ = some (.int .i64 c.f0) ∧ W.cell? ⟨g, 1, none⟩ = some (.int .i64 c.f1) :=
  ⟨Lib.cell_of_heap h 0, Lib.cell_of_heap h 1⟩
theorem IBox.lt {W : World} {g : Nat} {c : S76} (h : IBox W g c) : g < W.heap.size := (Array.getElem?_eq_some_iff.1 h).1
theorem IBox.step {W W1 : World} {g : Nat} {c : S76} (h : IBox W g c) (hb : Below W.heap.size W W1) : IBox W1 g c := (hb.block g h.lt).trans h
theorem IBox.others {W W1 : World} {g b : Nat} {c : S76} (h : IBox W g c) (hb : Lib.OthersKept 5 (some b) W W1) (hne : g ≠ b) : IBox W1 g c := hb g _ h (by simpa using hne) (by intro c fz; simp)
theorem IBox.new (W : World) (c : S76) : IBox (W.alloc (.cells #[.int .i64 c.f0, .int .i64 c.f1] 76)) W.heap.size c := heap_alloc_new W _
theorem IBox.laid {W : World} {g : Nat} {c : S76} (h : IBox W g c) :
    W.cell? ⟨g, 0, none⟩ = some (.int .i64 c.f0) ∧ W.cell? ⟨g, 1, none⟩ = some (.int .i64 c.f1) ∧ Hid (IBox W g c) :=
  ⟨h.cells.1, h.cells.2, Lib.hid h⟩
theorem drop_rd76 {l0 : List S76} {k : Nat} (hk : k < l0.length) {c : S76} (hc : c = rd_T76 l0 k) : l0.drop k = c :: l0.drop (k + 1) := by
  subst hc
  rw [List.drop_eq_getElem_cons hk]
  simp [rd_T76, List.getD_eq_getElem?_getD, List.getElem?_eq_getElem hk]
theorem index_stop {ahead : Int} {c : S76} {r : List S76} {acc : List UInt8} {r1 : ByteArray} {r2 : Bool} (h : (keyOk c.f0 ahead && pageOk c.f1) = false)
    (hp : pageRes ((slotsB ahead (c :: r)).bind fun t => fullPage ⟨(acc ++ t).toArray⟩) = (r1, r2)) : r1 = ⟨#[]⟩ ∧ r2 = false := by
  simp [slotsB, h, pageRes] at hp
  exact ⟨hp.1.symm, hp.2⟩
theorem index_next {l0 : List S76} {k : Nat} (hk : k < l0.length) {ahead : Int} {c : S76} {acc : List UInt8} {r1 : ByteArray} {r2 : Bool} (hko : keyOk c.f0 ahead = true) (hro : pageOk c.f1 = true) (hc : c = rd_T76 l0 k)
    {s4 s2 : ByteArray} (h4 : s4 = ⟨(be 4 c.f0).toArray⟩) (h2 : s2 = ⟨(be 2 c.f1).toArray⟩) (hp : pageRes ((slotsB ahead (l0.drop k)).bind fun t => fullPage ⟨(acc ++ t).toArray⟩) = (r1, r2)) :
    pageRes ((slotsB c.f0 (l0.drop (k + 1))).bind fun t => fullPage ⟨(acc ++ (s4 ++ s2).data.toList ++ t).toArray⟩) = (r1, r2) := by
  rw [drop_rd76 hk hc] at hp
  simp only [slotsB, hko, hro, Bool.and_self, if_true] at hp
  have e : ∀ a b : ByteArray, (a ++ b).data.toList = a.data.toList ++ b.data.toList := fun a b => by simp [ByteArray.data_append]
  have hm : ∀ (o : Option (List UInt8)) (u : List UInt8) (f : List UInt8 → Option ByteArray), (o.map (u ++ ·)).bind f = o.bind fun t => f (u ++ t) := by
    intro o u f; cases o <;> rfl
  rw [hm] at hp
  rw [← hp]
  simp only [slotB, e, h4, h2, List.append_assoc]

set_option maxHeartbeats 1000000 in
set_option maxRecDepth 100000 in
theorem sheet_Index.calls (A0 : Option Addr) (c0 : Nat) (l0 : List S76) (r1 : ByteArray) (r2 : Bool) (w : World) (hr0 : Kd.C k76 w A0 l0.length l0) (hc0 : l0.length ≤ c0) (h : sheet_Index.f l0 = some (r1, r2)) :
    Calls Try.prog 32 #[.slice A0 l0.length c0] w fun e w' => e = .returned (.tuple #[.string r1, .bool r2]) ∧ Below w.heap.size w w' := by
  have h := Option.some.inj h
  by_cases hs : l0.length ≤ 21
  · have h1 : decide (21 < l0.length) = false := by simp; omega
    have hcv := two_bytes 73 (l0.length : Int) (w.alloc (.cells #[.pointer none, .slice none 0 0] 118))
    have hsz : (w.alloc (.cells #[.pointer none, .slice none 0 0] 118)).heap.size = w.heap.size + 1 := by simp
    rw [hsz] at hcv
    clear hsz
    have HR := Lib.hid hr0
    have HH : Hid ((pageRes ((slotsB (-1) (l0.drop 0)).bind fun t => fullPage ⟨([73, UInt8.ofNat l0.length] ++ t).toArray⟩)) = (r1, r2)) := Lib.hid (by simpa [indexB, hs] using h)
    have hbs := (BSt.new w).alloc (.cells #[.int .u8 73, .int .u8 (l0.length : Int)] 5)
    have HC := Lib.hid (hbs.write (strOfNums [73, (l0.length : Int)]) (by simp [strOfNums_size]))
    clear h hr0 hbs
    go_enter Try.func32, Try.ntmps32
    go_wp2_with fail
    refine HC.out.mono ?_
    rintro e w1 ⟨rfl, hb1, -⟩
    have he : strOfNums [73, (l0.length : Int)] = ⟨#[73, UInt8.ofNat l0.length]⟩ := rfl
    rw [he] at hb1
    have Hb1 := Lib.hid hb1
    clear hb1 he HC hcv
    go_wp2_with fail
    go_loopw [5, 19] (fun a i wr => ∃ (k : Nat) (ahead : Int) (acc : List UInt8), k ≤ l0.length ∧ i = .int .i64 k ∧ a = .int .i64 ahead ∧ Hid (acc.length ≤ 2 + 40 * k ∧ BSt w wr w.heap.size acc ∧ pageRes ((slotsB ahead (l0.drop k)).bind fun t => fullPage ⟨(acc ++ t).toArray⟩) = (r1, r2)))
      (fun _ i _ => l0.length - (intOf i).toNat)
    case atStart => exact ⟨0, -1, [73, UInt8.ofNat l0.length], Nat.zero_le _, rfl, rfl, Lib.hid ⟨by simp, Hb1.out, HH.out⟩⟩
    case round =>
      obtain ⟨k, ahead, acc, hk, rfl, rfl, HI⟩ := hrel
      clear HH Hb1
      by_cases hlt : k < l0.length
      · obtain ⟨ad, hA, q0, q1⟩ := at_T76 (Kd.C_below HR.out HI.out.2.1.below) k (by omega) (by omega)
        obtain ⟨c, hc⟩ : ∃ c, c = rd_T76 l0 k := ⟨_, rfl⟩
        rw [← hc] at q0 q1
        simp only [Int.toNat_natCast] at q0 q1
        have Hc := Lib.hid hc
        clear hc
        go_wp2_with fail
        have B2 := IBox.new wr c
        refine (sheet_key.calls c.f0 ahead (keyOk c.f0 ahead) _ (key_f _ _)).mono ?_
        rintro e w2 ⟨rfl, hd⟩
        have S2 := Lib.hid (((HI.out.2.1).alloc _).step hd.below)
        replace B2 := Lib.hid (B2.step hd.below)
        clear hd q0 q1 hA
        obtain ⟨g, hg⟩ : ∃ g, g = wr.heap.size := ⟨_, rfl⟩
        have hgne : w.heap.size < g := by have := HI.out.2.1.lt; omega
        rw [← hg] at B2
        rw [← hg]
        clear hg
        cases hko : keyOk c.f0 ahead with
        | false =>
          obtain ⟨rfl, rfl⟩ := index_stop (by rw [hko]; rfl) (drop_rd76 hlt Hc.out ▸ HI.out.2.2)
          go_wp2_with fail
          go_ret2
          exact ⟨rfl, S2.out.below⟩
        | true =>
          obtain ⟨p0, p1⟩ := B2.out.cells
          go_wp2_with fail
          refine (sheet_page.calls c.f1 (pageOk c.f1) _ (page_f c.f1)).mono ?_
          rintro e w3 ⟨rfl, hd3⟩
          have S3 := Lib.hid (And.intro (S2.out.step hd3.below) (B2.out.step hd3.below))
          clear hd3 p0 p1 S2 B2
          cases hro : pageOk c.f1 with
          | false =>
            obtain ⟨rfl, rfl⟩ := index_stop (by rw [hko, hro]; rfl) (drop_rd76 hlt Hc.out ▸ HI.out.2.2)
            go_wp2_with fail
            go_ret2
            exact ⟨rfl, S3.out.1.below⟩
          | true =>
            obtain ⟨p0, p1⟩ := S3.out.2.cells
            go_wp2_with fail
            have hS0 := (S3.out.2.step (below_drew (Below.refl w3.heap.size w3))).laid
            have T0 := Lib.hid (S3.out.1.drew)
            obtain ⟨k4, hk4⟩ := be_num c.f0
            obtain ⟨k2, hk2⟩ := be_num2 c.f1
            obtain ⟨s4, e4⟩ : ∃ s : ByteArray, s = ⟨(be 4 c.f0).toArray⟩ := ⟨_, rfl⟩
            obtain ⟨s2, e2⟩ : ∃ s : ByteArray, s = ⟨(be 2 c.f1).toArray⟩ := ⟨_, rfl⟩
            have z4 : s4.size = 4 := by rw [e4]; simp [ByteArray.size, be_length]
            have z2 : s2.size = 2 := by rw [e2]; simp [ByteArray.size, be_length]
            have hz1 : s4.size + s2.size ≤ 9223372036854775807 := by omega
            have hz3 : (9223372036854775807 < s4.size + s2.size) = False := eq_false (by omega)
            have HZS := Lib.hid (show s4.size + s2.size ≤ 30 by omega)
            rw [← e4] at hk4
            rw [← e2] at hk2
            have HE := Lib.hid (And.intro e4 e2)
            have HK4 := Lib.hid hk4
            have HK2 := Lib.hid hk2
            clear hk4 hk2 e4 e2 z4 z2
            have HZ := Lib.hid (show acc.length + (s4 ++ s2).size ≤ 140737488355328 by have := HI.out.1; have := HZS.out; simp only [ByteArray.size_append]; omega)
            go_region_held3 (fun W => W.cell? ⟨g, 0, none⟩ = some (.int .i64 c.f0) ∧ W.cell? ⟨g, 1, none⟩ = some (.int .i64 c.f1) ∧ Hid (IBox W g c))
              (first | assumption)
              ((first
                | (go_at_call 59; (with_reducible refine (sheet_number.calls k4 c.f0 4 _ _ HK4.out).mono ?_); rintro e w4 ⟨rfl, hb4⟩; go_split_ands; have T4 := Lib.hid (BSt.step (w0 := w) (b := w.heap.size) (acc := acc) (hb := hb4) (Hid.out (by assumption))); have hS4 := (IBox.step (c := c) (g := g) (hb := hb4) (Hid.out (by assumption))).laid)
                | (go_at_call 59; (with_reducible refine (sheet_number.calls k2 c.f1 2 _ _ HK2.out).mono ?_); rintro e w5 ⟨rfl, hb5⟩; go_split_ands; have T5 := Lib.hid (BSt.step (w0 := w) (b := w.heap.size) (acc := acc) (hb := hb5) (Hid.out (by assumption))); have hS5 := (IBox.step (c := c) (g := g) (hb := hb5) (Hid.out (by assumption))).laid)
                | (go_at_call 56; refine ((Hid.out T5).write (s4 ++ s2) HZ.out).mono ?_; rintro e w6 ⟨rfl, hb6, ho6⟩; go_split_ands; have hS6 := (IBox.others (c := c) (g := g) (hb := ho6) (Hid.out (by assumption)) (Nat.ne_of_gt hgne)).laid; have T6 := Lib.hid hb6; clear hb6 ho6)))
            clear hS6 p0 p1 S3 T0
            have HN := Lib.hid (index_next hlt hko hro Hc.out HE.out.1 HE.out.2 HI.out.2.2)
            go_wp2_with fail
            go_roundw
            case rel => exact ⟨k + 1, c.f0, _, by omega, by go_num, rfl, Lib.hid ⟨by have := HI.out.1; have := HZS.out; simp [ByteArray.size_append, ← Lib.size_eq]; omega, T6.out, HN.out⟩⟩
            case measure => simp [intOf]; omega
      · obtain rfl : k = l0.length := by omega
        have HE : Hid (pageRes (fullPage ⟨acc.toArray⟩) = (r1, r2)) := Lib.hid (by have := HI.out.2.2; simpa [slotsB] using this)
        go_wp2_with fail
        refine (builderString w.heap.size w.heap.size acc wr HI.out.2.1.bld HI.out.2.1.below.size).mono ?_
        rintro e w2 ⟨rfl, -, hb2, -⟩
        have T2 := Lib.hid (HI.out.2.1.below.trans hb2)
        clear hb2
        go_wp2_with fail
        refine (sheet_full.calls ⟨acc.toArray⟩ r1 r2 _ (by rw [sheet_full.f, HE.out])).mono ?_
        rintro e w3 ⟨rfl, hb3⟩
        have T3 := Lib.hid (below_then T2.out T2.out.size hb3)
        clear hb3
        go_wp2_with fail
        go_ret2
        exact ⟨rfl, T3.out⟩
  · have h1 : decide (21 < l0.length) = true := by simp; omega
    obtain ⟨rfl, rfl⟩ : r1 = ⟨#[]⟩ ∧ r2 = false := by
      simp [indexB, pageRes, hs] at h; exact ⟨h.1.symm, h.2⟩
    clear h
    go_enter Try.func32, Try.ntmps32
    go_wp2
    go_ret2
    exact ⟨rfl, Below.refl _ _⟩
end Go.Proofs.Ytjnhbalclimmnaa.PA
