/- What is proved: laws of the instructions' forms; what Same of events, of both packages, and Lists answer; conditions: those typed. -/
import Derived.Test.YtclnohifgjjngaaWireT
import Derived.StillTailTactics
set_option linter.unusedSimpArgs false
set_option linter.unusedVariables false
namespace Go.Proofs.Ytclnohifgjjngaa
open Go.RowKit
set_option maxRecDepth 100000
set_option maxHeartbeats 8000000
theorem readE_zero {bs : List Int} (h : readE bs = 0) : (∀ j, j < 5 → eru bs j = 0) ∧ nu bs 4 ≤ 65536 ∧ nu bs 4 ≤ (rs bs 5).length ∧ (rs bs 5).drop (nu bs 4) = [] := by
  have h5 : ∀ j, j < 5 → eru bs j = 0 := by
    intro j hj
    have hc := h
    unfold readE at hc
    by_cases a0 : eru bs 0 = 0
    · rw [if_neg (by simp [a0])] at hc
      by_cases a1 : eru bs 1 = 0
      · rw [if_neg (by simp [a1])] at hc
        by_cases a2 : eru bs 2 = 0
        · rw [if_neg (by simp [a2])] at hc
          by_cases a3 : eru bs 3 = 0
          · rw [if_neg (by simp [a3])] at hc
            by_cases a4 : eru bs 4 = 0
            · exact pick5 (P := fun j => eru bs j = 0) a0 a1 a2 a3 a4 hj
            · rw [if_pos a4] at hc; exact absurd hc a4
          · rw [if_pos a3] at hc; exact absurd hc a3
        · rw [if_pos a2] at hc; exact absurd hc a2
      · rw [if_pos a1] at hc; exact absurd hc a1
    · rw [if_pos a0] at hc; exact absurd hc a0
  have hr := readE_rest h5
  rw [h] at hr
  generalize rs bs 5 = r5 at *
  generalize nu bs 4 = n4 at *
  refine ⟨h5, ?_, ?_, ?_⟩
  · by_cases c : 65536 < n4
    · rw [if_pos c] at hr; cases hr
    · omega
  · by_cases c : 65536 < n4
    · rw [if_pos c] at hr; cases hr
    · rw [if_neg c] at hr
      by_cases c2 : r5.length < n4
      · rw [if_pos c2] at hr; cases hr
      · omega
  · by_cases c : 65536 < n4
    · rw [if_pos c] at hr; cases hr
    · rw [if_neg c] at hr
      by_cases c2 : r5.length < n4
      · rw [if_pos c2] at hr; cases hr
      · rw [if_neg c2] at hr
        by_cases c3 : r5.drop n4 ≠ []
        · rw [if_pos c3] at hr; cases hr
        · exact Classical.not_not.1 c3
theorem rs_step {bs : List Int} (hx : okB bs) (k : Nat) (h : eru bs k = 0) : rs bs k = uintB (nu bs k) ++ rs bs (k + 1) ∧ nu bs k < 18446744073709551616 := by
  have h1 := readS_good (rs_ok hx k).1 h
  refine ⟨?_, h1.2.2.1⟩
  show _ = uintB (readS (rs bs k)).1 ++ (rs bs k).drop (readS (rs bs k)).2.1
  rw [h1.2.2.2, List.take_append_drop]
/-- What was read as an instruction is written as the bytes that were read. -/
theorem read_forms {bs : List Int} (hx : okB bs) (h : readE bs = 0) : (readD bs).length ≤ 65536 ∧ writeS (nu bs 0) (nu bs 1) (nu bs 2) (nu bs 3) (readD bs) = bs ∧ nu bs 0 < 18446744073709551616 ∧ nu bs 1 < 18446744073709551616 ∧ nu bs 2 < 18446744073709551616 ∧ nu bs 3 < 18446744073709551616 := by
  obtain ⟨h5, h6, h7, h8⟩ := readE_zero h
  obtain ⟨s0, b0⟩ := rs_step hx 0 (h5 0 (by omega))
  obtain ⟨s1, b1⟩ := rs_step hx 1 (h5 1 (by omega))
  obtain ⟨s2, b2⟩ := rs_step hx 2 (h5 2 (by omega))
  obtain ⟨s3, b3⟩ := rs_step hx 3 (h5 3 (by omega))
  obtain ⟨s4, b4⟩ := rs_step hx 4 (h5 4 (by omega))
  have hD : readD bs = (rs bs 5).take (nu bs 4) := by unfold readD; rw [if_pos h]
  have hz : rs bs 0 = bs := rfl
  rw [hz] at s0
  simp only [Nat.zero_add, Nat.reduceAdd] at s0 s1 s2 s3 s4
  rw [hD]
  generalize rs bs 5 = r5 at *
  generalize rs bs 4 = r4 at *
  generalize rs bs 3 = r3 at *
  generalize rs bs 2 = r2 at *
  generalize rs bs 1 = r1 at *
  generalize nu bs 0 = n0 at *
  generalize nu bs 1 = n1 at *
  generalize nu bs 2 = n2 at *
  generalize nu bs 3 = n3 at *
  generalize nu bs 4 = n4 at *
  have hl : (r5.take n4).length = n4 := by rw [List.length_take]; omega
  refine ⟨by omega, ?_, b0, b1, b2, b3⟩
  have e5 : r5.take n4 = r5 := by
    have := List.take_append_drop n4 r5
    rw [h8, List.append_nil] at this
    exact this
  unfold writeS
  rw [hl, e5]
  have e : pre5 (fun k => [n0, n1, n2, n3, n4].getD k 0) 5 = uintB n0 ++ (uintB n1 ++ (uintB n2 ++ (uintB n3 ++ uintB n4))) := by simp [pre5]
  rw [e, s0, s1, s2, s3, s4]
  simp
theorem step_form {bs rest : List Int} {k m : Nat} (h : rs bs k = uintB m ++ rest) (hm : m < 18446744073709551616) : nu bs k = m ∧ eru bs k = 0 ∧ rs bs (k + 1) = rest := by
  have e := readS_form hm rest
  refine ⟨?_, ?_, ?_⟩
  · show (readS (rs bs k)).1 = m
    rw [h, e]
  · show (readS (rs bs k)).2.2 = 0
    rw [h, e]
  · show (rs bs k).drop (readS (rs bs k)).2.1 = rest
    rw [h, e]
    exact List.drop_left
/-- An instruction that is written is read as it was. -/
theorem write_back {o n a t : Nat} {d : List Int} (ho : o < 18446744073709551616) (hn : n < 18446744073709551616) (ha : a < 18446744073709551616) (ht : t < 18446744073709551616) (hl : d.length ≤ 65536) :
    readE (writeS o n a t d) = 0 ∧ nu (writeS o n a t d) 0 = o ∧ nu (writeS o n a t d) 1 = n ∧ nu (writeS o n a t d) 2 = a ∧ nu (writeS o n a t d) 3 = t ∧ readD (writeS o n a t d) = d := by
  obtain ⟨bs, hbs⟩ : ∃ bs, writeS o n a t d = bs := ⟨_, rfl⟩
  have e : bs = uintB o ++ (uintB n ++ (uintB a ++ (uintB t ++ (uintB d.length ++ d)))) := by rw [← hbs]; simp [writeS, pre5]
  rw [hbs]
  obtain ⟨p0, q0, s1⟩ := step_form (bs := bs) (k := 0) (m := o) (rest := uintB n ++ (uintB a ++ (uintB t ++ (uintB d.length ++ d)))) e ho
  obtain ⟨p1, q1, s2⟩ := step_form (k := 0 + 1) s1 hn
  obtain ⟨p2, q2, s3⟩ := step_form (k := 0 + 1 + 1) s2 ha
  obtain ⟨p3, q3, s4⟩ := step_form (k := 0 + 1 + 1 + 1) s3 ht
  obtain ⟨p4, q4, s5⟩ := step_form (k := 0 + 1 + 1 + 1 + 1) s4 (by omega)
  simp only [Nat.zero_add, Nat.reduceAdd] at p0 q0 p1 q1 p2 q2 p3 q3 p4 q4 s5
  have h5 : ∀ j, j < 5 → eru bs j = 0 := fun j hj => pick5 (P := fun j => eru bs j = 0) q0 q1 q2 q3 q4 hj
  have hE : readE bs = 0 := by
    rw [readE_rest h5, p4, s5, if_neg (by omega), if_neg (by omega), if_neg (by simp)]
  refine ⟨hE, p0, p1, p2, p3, ?_⟩
  unfold readD
  rw [if_pos hE, s5, p4, List.take_length]
theorem equal_bytes (u v : Value) (xs ys : List Int) (w : World) (h : BB w u xs) (k : BB w v ys) :
    Calls Try.prog 46 #[u, v] w fun e w' => e = .returned (.bool (decide (xs = ys))) ∧ w' = w := by
  have e1 := bytes_str h
  have e2 := bytes_str k
  have e3 := str_inj h.ok k.ok
  have e4 : ((strOfNums xs).toList == (strOfNums ys).toList) = decide (xs = ys) := by
    rw [ByteArray.toList_eq, ByteArray.toList_eq]
    rw [Bool.eq_iff_iff, beq_iff_eq, decide_eq_true_iff, ← e3]
    exact ⟨fun h => by simpa [strOfNums] using h, fun h => by rw [h]⟩
  clear h k
  go_enter Try.func46, Try.ntmps46
  go_wp2_with fail
  go_ret
  exact ⟨rfl, rfl⟩
/-- Are two events the same? -/
def sameE (e f : Event) : Bool := decide (e.kind = f.kind ∧ e.bs = f.bs ∧ e.cols = f.cols ∧ e.rows = f.rows ∧ e.arrow = f.arrow)
theorem sameE_iff {e f : Event} : sameE e f = true ↔ e = f := by
  unfold sameE
  rw [decide_eq_true_iff]
  obtain ⟨a, b, c, d, g⟩ := e
  obtain ⟨a', b', c', d', g'⟩ := f
  simp
theorem rsameE_any (e f : Event) (u v : Value) (w : World) (hu : BB w u e.bs) (hv : BB w v f.bs) :
    Calls Try.prog 27 #[.agg (erow ⟨e, u⟩), .agg (erow ⟨f, v⟩)] w fun r w' => r = .returned (.bool (sameE e f)) ∧ Below w.heap.size w w' := by
  obtain ⟨ek, eb, ec, er, ea⟩ := e
  obtain ⟨fk, fb, fc, fr, fa⟩ := f
  have HSE : Hid (sameE ⟨ek, eb, ec, er, ea⟩ ⟨fk, fb, fc, fr, fa⟩ = decide (ek = fk ∧ eb = fb ∧ ec = fc ∧ er = fr ∧ ea = fa)) := Lib.hid rfl
  obtain ⟨sv, hsv⟩ : ∃ s, sameE ⟨ek, eb, ec, er, ea⟩ ⟨fk, fb, fc, fr, fa⟩ = s := ⟨_, rfl⟩
  rw [hsv] at HSE ⊢
  clear hsv
  unfold erow
  dsimp only at hu hv ⊢
  obtain ⟨A1, n1, c1, rfl⟩ : ∃ A n c, u = .slice A n c := by obtain ⟨_, _, A, c, h, _⟩ := hu; exact ⟨_, _, _, h⟩
  obtain ⟨A2, n2, c2, rfl⟩ : ∃ A n c, v = .slice A n c := by obtain ⟨_, _, A, c, h, _⟩ := hv; exact ⟨_, _, _, h⟩
  obtain ⟨B, hB⟩ : ∃ B, w.heap.size = B := ⟨_, rfl⟩
  obtain ⟨Wa, hWa⟩ : ∃ W, w.alloc (.cells #[.int .u8 ek, .slice A1 n1 c1, .int .i64 ec, .int .i64 er, .int .u8 ea] 55) = W := ⟨_, rfl⟩
  have hXa : Wa.heap.size = B + 1 := by rw [← hWa, ← hB]; simp
  obtain ⟨W, hW⟩ : ∃ W, Wa.alloc (.cells #[.int .u8 fk, .slice A2 n2 c2, .int .i64 fc, .int .i64 fr, .int .u8 fa] 55) = W := ⟨_, rfl⟩
  have hXb : W.heap.size = B + 2 := by rw [← hW]; simp [hXa]
  have HB0 : Hid (W.heap[B]? = some (.cells #[.int .u8 ek, .slice A1 n1 c1, .int .i64 ec, .int .i64 er, .int .u8 ea] 55 (0, 0))) := Lib.hid (by rw [← hW, heap_alloc_old _ _ (by omega), ← hWa, ← hB]; exact heap_alloc_last _ _)
  have HB1 : Hid (W.heap[B + 1]? = some (.cells #[.int .u8 fk, .slice A2 n2 c2, .int .i64 fc, .int .i64 fr, .int .u8 fa] 55 (0, 0))) := Lib.hid (by rw [← hW, ← hXa]; exact heap_alloc_last _ _)
  have HBA : Below w.heap.size w Wa := by rw [← hWa]; exact Below.alloc (Below.refl _ _) (Nat.le_refl _) _
  have HBW : Hid (Below w.heap.size w W) := Lib.hid (by rw [← hW]; exact Below.alloc HBA HBA.size _)
  have ze0 : W.cell? ⟨B, 0, none⟩ = some (.int .u8 ek) := (cell_of_row _ _ _ _ _ _ HB0.out).trans rfl
  have ze1 : W.cell? ⟨B, 1, none⟩ = some (.slice A1 n1 c1) := (cell_of_row _ _ _ _ _ _ HB0.out).trans rfl
  have ze2 : W.cell? ⟨B, 2, none⟩ = some (.int .i64 ec) := (cell_of_row _ _ _ _ _ _ HB0.out).trans rfl
  have ze3 : W.cell? ⟨B, 3, none⟩ = some (.int .i64 er) := (cell_of_row _ _ _ _ _ _ HB0.out).trans rfl
  have ze4 : W.cell? ⟨B, 4, none⟩ = some (.int .u8 ea) := (cell_of_row _ _ _ _ _ _ HB0.out).trans rfl
  have zf0 : W.cell? ⟨B + 1, 0, none⟩ = some (.int .u8 fk) := (cell_of_row _ _ _ _ _ _ HB1.out).trans rfl
  have zf1 : W.cell? ⟨B + 1, 1, none⟩ = some (.slice A2 n2 c2) := (cell_of_row _ _ _ _ _ _ HB1.out).trans rfl
  have zf2 : W.cell? ⟨B + 1, 2, none⟩ = some (.int .i64 fc) := (cell_of_row _ _ _ _ _ _ HB1.out).trans rfl
  have zf3 : W.cell? ⟨B + 1, 3, none⟩ = some (.int .i64 fr) := (cell_of_row _ _ _ _ _ _ HB1.out).trans rfl
  have zf4 : W.cell? ⟨B + 1, 4, none⟩ = some (.int .u8 fa) := (cell_of_row _ _ _ _ _ _ HB1.out).trans rfl
  have HS := Lib.hid (same_bytes _ _ eb fb W (hu.below HBW.out) (hv.below HBW.out))
  clear HBA hu hv
  by_cases h1 : ek = fk
  · subst h1
    by_cases h2 : eb = fb
    · have hd : decide (eb = fb) = true := decide_eq_true h2
      by_cases h3 : ec = fc
      · subst h3
        by_cases h4 : er = fr
        · subst h4
          by_cases h5 : ea = fa
          · subst h5
            have HT : Hid (sv = true) := Lib.hid (by rw [HSE.out]; simp [h2])
            go_enter Try.func27, Try.ntmps27
            go_wp2_with fail
            refine HS.out.mono ?_
            rintro e w1 ⟨rfl, hw1⟩
            subst w1
            rw [hd]
            go_wp2_with fail
            go_ret
            exact ⟨(by rw [HT.out] <;> rfl), (by first | exact HBW.out | exact hB ▸ HBW.out)⟩
          · have hb2 : (ea == fa) = false := by simpa using h5
            have HF : Hid (sv = false) := Lib.hid (by rw [HSE.out]; simp [h5])
            go_enter Try.func27, Try.ntmps27
            go_wp2_with fail
            refine HS.out.mono ?_
            rintro e w1 ⟨rfl, hw1⟩
            subst w1
            rw [hd]
            go_wp2_with fail
            go_ret
            exact ⟨(by rw [HF.out] <;> rfl), (by first | exact HBW.out | exact hB ▸ HBW.out)⟩
        · have hb1 : (er == fr) = false := by simpa using h4
          have HF : Hid (sv = false) := Lib.hid (by rw [HSE.out]; simp [h4])
          go_enter Try.func27, Try.ntmps27
          go_wp2_with fail
          refine HS.out.mono ?_
          rintro e w1 ⟨rfl, hw1⟩
          subst w1
          rw [hd]
          go_wp2_with fail
          go_ret
          exact ⟨(by rw [HF.out] <;> rfl), (by first | exact HBW.out | exact hB ▸ HBW.out)⟩
      · have hb0 : (ec == fc) = false := by simpa using h3
        have HF : Hid (sv = false) := Lib.hid (by rw [HSE.out]; simp [h3])
        go_enter Try.func27, Try.ntmps27
        go_wp2_with fail
        refine HS.out.mono ?_
        rintro e w1 ⟨rfl, hw1⟩
        subst w1
        rw [hd]
        go_wp2_with fail
        go_ret
        exact ⟨(by rw [HF.out] <;> rfl), (by first | exact HBW.out | exact hB ▸ HBW.out)⟩
    · have hd : decide (eb = fb) = false := decide_eq_false h2
      have HF : Hid (sv = false) := Lib.hid (by rw [HSE.out]; simp [h2])
      go_enter Try.func27, Try.ntmps27
      go_wp2_with fail
      refine HS.out.mono ?_
      rintro e w1 ⟨rfl, hw1⟩
      subst w1
      rw [hd]
      go_wp2_with fail
      go_ret
      exact ⟨(by rw [HF.out] <;> rfl), (by first | exact HBW.out | exact hB ▸ HBW.out)⟩
  · have hb : (ek == fk) = false := by simpa using h1
    have HF : Hid (sv = false) := Lib.hid (by rw [HSE.out]; simp [h1])
    go_enter Try.func27, Try.ntmps27
    go_wp2_with fail
    go_ret
    exact ⟨(by rw [HF.out] <;> rfl), (by first | exact HBW.out | exact hB ▸ HBW.out)⟩
theorem wsameE_any (e f : Event) (u v : Value) (w : World) (hu : BB w u e.bs) (hv : BB w v f.bs) :
    Calls Try.prog 26 #[.agg (erow ⟨e, u⟩), .agg (erow ⟨f, v⟩)] w fun r w' => r = .returned (.bool (sameE e f)) ∧ Below w.heap.size w w' := by
  obtain ⟨ek, eb, ec, er, ea⟩ := e
  obtain ⟨fk, fb, fc, fr, fa⟩ := f
  have HSE : Hid (sameE ⟨ek, eb, ec, er, ea⟩ ⟨fk, fb, fc, fr, fa⟩ = decide (ek = fk ∧ eb = fb ∧ ec = fc ∧ er = fr ∧ ea = fa)) := Lib.hid rfl
  obtain ⟨sv, hsv⟩ : ∃ s, sameE ⟨ek, eb, ec, er, ea⟩ ⟨fk, fb, fc, fr, fa⟩ = s := ⟨_, rfl⟩
  rw [hsv] at HSE ⊢
  clear hsv
  unfold erow
  dsimp only at hu hv ⊢
  obtain ⟨A1, n1, c1, rfl⟩ : ∃ A n c, u = .slice A n c := by obtain ⟨_, _, A, c, h, _⟩ := hu; exact ⟨_, _, _, h⟩
  obtain ⟨A2, n2, c2, rfl⟩ : ∃ A n c, v = .slice A n c := by obtain ⟨_, _, A, c, h, _⟩ := hv; exact ⟨_, _, _, h⟩
  obtain ⟨B, hB⟩ : ∃ B, w.heap.size = B := ⟨_, rfl⟩
  obtain ⟨Wa, hWa⟩ : ∃ W, w.alloc (.cells #[.int .u8 ek, .slice A1 n1 c1, .int .i64 ec, .int .i64 er, .int .u8 ea] 55) = W := ⟨_, rfl⟩
  have hXa : Wa.heap.size = B + 1 := by rw [← hWa, ← hB]; simp
  obtain ⟨W, hW⟩ : ∃ W, Wa.alloc (.cells #[.int .u8 fk, .slice A2 n2 c2, .int .i64 fc, .int .i64 fr, .int .u8 fa] 55) = W := ⟨_, rfl⟩
  have hXb : W.heap.size = B + 2 := by rw [← hW]; simp [hXa]
  have HB0 : Hid (W.heap[B]? = some (.cells #[.int .u8 ek, .slice A1 n1 c1, .int .i64 ec, .int .i64 er, .int .u8 ea] 55 (0, 0))) := Lib.hid (by rw [← hW, heap_alloc_old _ _ (by omega), ← hWa, ← hB]; exact heap_alloc_last _ _)
  have HB1 : Hid (W.heap[B + 1]? = some (.cells #[.int .u8 fk, .slice A2 n2 c2, .int .i64 fc, .int .i64 fr, .int .u8 fa] 55 (0, 0))) := Lib.hid (by rw [← hW, ← hXa]; exact heap_alloc_last _ _)
  have HBA : Below w.heap.size w Wa := by rw [← hWa]; exact Below.alloc (Below.refl _ _) (Nat.le_refl _) _
  have HBW : Hid (Below w.heap.size w W) := Lib.hid (by rw [← hW]; exact Below.alloc HBA HBA.size _)
  have ze0 : W.cell? ⟨B, 0, none⟩ = some (.int .u8 ek) := (cell_of_row _ _ _ _ _ _ HB0.out).trans rfl
  have ze1 : W.cell? ⟨B, 1, none⟩ = some (.slice A1 n1 c1) := (cell_of_row _ _ _ _ _ _ HB0.out).trans rfl
  have ze2 : W.cell? ⟨B, 2, none⟩ = some (.int .i64 ec) := (cell_of_row _ _ _ _ _ _ HB0.out).trans rfl
  have ze3 : W.cell? ⟨B, 3, none⟩ = some (.int .i64 er) := (cell_of_row _ _ _ _ _ _ HB0.out).trans rfl
  have ze4 : W.cell? ⟨B, 4, none⟩ = some (.int .u8 ea) := (cell_of_row _ _ _ _ _ _ HB0.out).trans rfl
  have zf0 : W.cell? ⟨B + 1, 0, none⟩ = some (.int .u8 fk) := (cell_of_row _ _ _ _ _ _ HB1.out).trans rfl
  have zf1 : W.cell? ⟨B + 1, 1, none⟩ = some (.slice A2 n2 c2) := (cell_of_row _ _ _ _ _ _ HB1.out).trans rfl
  have zf2 : W.cell? ⟨B + 1, 2, none⟩ = some (.int .i64 fc) := (cell_of_row _ _ _ _ _ _ HB1.out).trans rfl
  have zf3 : W.cell? ⟨B + 1, 3, none⟩ = some (.int .i64 fr) := (cell_of_row _ _ _ _ _ _ HB1.out).trans rfl
  have zf4 : W.cell? ⟨B + 1, 4, none⟩ = some (.int .u8 fa) := (cell_of_row _ _ _ _ _ _ HB1.out).trans rfl
  have HS := Lib.hid (equal_bytes _ _ eb fb W (hu.below HBW.out) (hv.below HBW.out))
  clear HBA hu hv
  by_cases h1 : ek = fk
  · subst h1
    by_cases h2 : eb = fb
    · have hd : decide (eb = fb) = true := decide_eq_true h2
      by_cases h3 : ec = fc
      · subst h3
        by_cases h4 : er = fr
        · subst h4
          by_cases h5 : ea = fa
          · subst h5
            have HT : Hid (sv = true) := Lib.hid (by rw [HSE.out]; simp [h2])
            go_enter Try.func26, Try.ntmps26
            go_wp2_with fail
            refine HS.out.mono ?_
            rintro e w1 ⟨rfl, hw1⟩
            subst w1
            rw [hd]
            go_wp2_with fail
            go_ret
            exact ⟨(by rw [HT.out] <;> rfl), (by first | exact HBW.out | exact hB ▸ HBW.out)⟩
          · have hb2 : (ea == fa) = false := by simpa using h5
            have HF : Hid (sv = false) := Lib.hid (by rw [HSE.out]; simp [h5])
            go_enter Try.func26, Try.ntmps26
            go_wp2_with fail
            refine HS.out.mono ?_
            rintro e w1 ⟨rfl, hw1⟩
            subst w1
            rw [hd]
            go_wp2_with fail
            go_ret
            exact ⟨(by rw [HF.out] <;> rfl), (by first | exact HBW.out | exact hB ▸ HBW.out)⟩
        · have hb1 : (er == fr) = false := by simpa using h4
          have HF : Hid (sv = false) := Lib.hid (by rw [HSE.out]; simp [h4])
          go_enter Try.func26, Try.ntmps26
          go_wp2_with fail
          refine HS.out.mono ?_
          rintro e w1 ⟨rfl, hw1⟩
          subst w1
          rw [hd]
          go_wp2_with fail
          go_ret
          exact ⟨(by rw [HF.out] <;> rfl), (by first | exact HBW.out | exact hB ▸ HBW.out)⟩
      · have hb0 : (ec == fc) = false := by simpa using h3
        have HF : Hid (sv = false) := Lib.hid (by rw [HSE.out]; simp [h3])
        go_enter Try.func26, Try.ntmps26
        go_wp2_with fail
        refine HS.out.mono ?_
        rintro e w1 ⟨rfl, hw1⟩
        subst w1
        rw [hd]
        go_wp2_with fail
        go_ret
        exact ⟨(by rw [HF.out] <;> rfl), (by first | exact HBW.out | exact hB ▸ HBW.out)⟩
    · have hd : decide (eb = fb) = false := decide_eq_false h2
      have HF : Hid (sv = false) := Lib.hid (by rw [HSE.out]; simp [h2])
      go_enter Try.func26, Try.ntmps26
      go_wp2_with fail
      refine HS.out.mono ?_
      rintro e w1 ⟨rfl, hw1⟩
      subst w1
      rw [hd]
      go_wp2_with fail
      go_ret
      exact ⟨(by rw [HF.out] <;> rfl), (by first | exact HBW.out | exact hB ▸ HBW.out)⟩
  · have hb : (ek == fk) = false := by simpa using h1
    have HF : Hid (sv = false) := Lib.hid (by rw [HSE.out]; simp [h1])
    go_enter Try.func26, Try.ntmps26
    go_wp2_with fail
    go_ret
    exact ⟨(by rw [HF.out] <;> rfl), (by first | exact HBW.out | exact hB ▸ HBW.out)⟩
/-- The same events, in two slices. -/
theorem lists_any (E : List Event) (u v : Value) (w : World) (hu : EvL w u E) (hv : EvL w v E) : Calls Try.prog 28 #[u, v] w fun e w' => e = .returned (.bool true) ∧ Below w.heap.size w w' := by
  have H1 := Lib.hid hu
  have H2 := Lib.hid hv
  obtain ⟨hlen, A1, c1, rfl, hn1, hl1, hm1, hi1⟩ := hu
  obtain ⟨_, A2, c2, rfl, hn2, hl2, hm2, hi2⟩ := hv
  have HI1 := Lib.hid hi1
  have HI2 := Lib.hid hi2
  obtain ⟨n, hn⟩ : ∃ n, E.length = n := ⟨_, rfl⟩
  rw [hn] at hlen hl1 hl2 HI1 HI2 ⊢
  clear hi1 hi2 hn1 hn2 hn
  go_enter Try.func28, Try.ntmps28
  go_wp2_with fail
  go_loopw [5] (fun i wr => ∃ k : Nat, k ≤ n ∧ i = .int .i64 k ∧ Hid (Below w.heap.size w wr)) (fun i _ => n - (intOf i).toNat)
  case atStart => exact ⟨0, by omega, rfl, Lib.hid (Below.refl _ _)⟩
  case round =>
    obtain ⟨k, hk, rfl, HB⟩ := hrel
    by_cases hkn : k < n
    · have hki : (k : Int) < (n : Int) := by omega
      have hk0 : (0 : Int) ≤ (k : Int) := by omega
      obtain ⟨b1, o1, rfl, he1⟩ := HI1.out k hkn
      obtain ⟨b2, o2, rfl, he2⟩ := HI2.out k hkn
      have hb1 : b1 < w.heap.size := by obtain ⟨u, q0, _⟩ := he1; exact block_lt_of_cell q0
      have hb2 : b2 < w.heap.size := by obtain ⟨u, q0, _⟩ := he2; exact block_lt_of_cell q0
      obtain ⟨u1, hu1, ok1, r1⟩ := run_load_ev he1
      obtain ⟨u2, hu2, ok2, r2⟩ := run_load_ev he2
      obtain ⟨e, hee⟩ : ∃ e, E.getD k zE = e := ⟨_, rfl⟩
      rw [hee] at hu1 hu2 r1 r2
      have HU1 := Lib.hid hu1
      have HU2 := Lib.hid hu2
      have HR1 := Lib.hid r1
      have HR2 := Lib.hid r2
      clear he1 he2 hu1 hu2 r1 r2 ok1 ok2
      go_wp2_with fail
      apply wp_region_effT _ _ (Inv.start0 wr fun _ => False) (hm := by kernel_rfl)
      case h =>
        (apply SeqF.pure; (focus (first | rfl | (go_simp; done) | (simp [Region.wanted, yielded]; done))); (focus (intro w; go_simp; with_reducible rfl)); go_simp)
        (apply SeqF.pure; (focus (first | rfl | (go_simp; done) | (simp [Region.wanted, yielded]; done))); (focus (intro w; go_simp; with_reducible rfl)); go_simp)
        (apply SeqF.pure; (focus (first | rfl | (go_simp; done) | (simp [Region.wanted, yielded]; done))); (focus (intro w; go_simp; with_reducible rfl)); go_simp)
        apply SeqF.read (v := .agg (erow ⟨e, u1⟩)) []
        · (first | rfl | (go_simp; done) | (simp [Region.wanted, yielded]; done))
        · exact fun γ' W hg hI => exec_load rfl rfl (HR1.out W ((hI.far b1 (by have := HB.out.size; omega) (fun h => h)).trans (HB.out.block b1 hb1)))
        go_simp
        (apply SeqF.pure; (focus (first | rfl | (go_simp; done) | (simp [Region.wanted, yielded]; done))); (focus (intro w; go_simp; with_reducible rfl)); go_simp)
        (apply SeqF.pure; (focus (first | rfl | (go_simp; done) | (simp [Region.wanted, yielded]; done))); (focus (intro w; go_simp; with_reducible rfl)); go_simp)
        (apply SeqF.pure; (focus (first | rfl | (go_simp; done) | (simp [Region.wanted, yielded]; done))); (focus (intro w; go_simp; with_reducible rfl)); go_simp)
        apply SeqF.read (v := .agg (erow ⟨e, u2⟩)) []
        · (first | rfl | (go_simp; done) | (simp [Region.wanted, yielded]; done))
        · exact fun γ' W hg hI => exec_load rfl rfl (HR2.out W ((hI.far b2 (by have := HB.out.size; omega) (fun h => h)).trans (HB.out.block b2 hb2)))
        go_simp
        apply SeqF.call (v := .bool true) [] 27 #[.agg (erow ⟨e, u1⟩), .agg (erow ⟨e, u2⟩)]
        · (first | rfl | (go_simp; done) | (simp [Region.wanted, yielded]; done))
        · intro w; kernel_rfl
        · intro γ' U hg hI
          have hU : Below w.heap.size w U := hI.belowS HB.out HB.out.size (fun _ h => h.elim)
          refine (rsameE_any e e u1 u2 U (HU1.out.below hU) (HU2.out.below hU)).mono ?_
          rintro r w' ⟨rfl, hb⟩
          exact ⟨by rw [sameE_iff.2 rfl], hI.below hb⟩
        go_simp
        (apply SeqF.pure; (focus (first | rfl | (go_simp; done) | (simp [Region.wanted, yielded]; done))); (focus (intro w; go_simp; with_reducible rfl)); go_simp)
        apply SeqF.done
        intro w9 hI9
        have HB9 := Lib.hid (hI9.belowS HB.out HB.out.size (fun _ h => h.elim))
        clear hI9
        go_simp
        go_wp2_with fail
        go_roundw
        case rel =>
          first
            | exact ⟨k + 1, by omega, by go_num, HB9⟩
            | ((repeat apply Exists.intro); refine ⟨?_, rfl⟩; exact ⟨k + 1, by omega, by go_num, HB9⟩)
        case measure => first | (simp [intOf]; done) | (simp [intOf]; omega)
      case hl => rfl
      case ho => kernel_rfl
    · have hki : ¬ (k : Int) < (n : Int) := by omega
      go_wp2_with fail
      go_ret
      exact ⟨rfl, HB.out⟩
end Go.Proofs.Ytclnohifgjjngaa
