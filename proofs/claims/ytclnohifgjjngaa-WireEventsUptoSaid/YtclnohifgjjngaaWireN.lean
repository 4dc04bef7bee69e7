/- What is proved: two instructions that read alike are the same; the law WireInstructions returns true when it is called; conditions: the numbers are of their kind, the slices read as they are said to. -/
import Derived.Test.YtclnohifgjjngaaWireM
import Derived.Test.YtclnohifgjjngaaWireA
set_option linter.unusedSimpArgs false
set_option linter.unusedVariables false
namespace Go.Proofs.Ytclnohifgjjngaa
open Go.RowKit
set_option maxRecDepth 100000
set_option maxHeartbeats 8000000
theorem rs_ok {bs : List Int} (h : okB bs) : ∀ k, okB (rs bs k) ∧ (rs bs k).length ≤ bs.length
  | 0 => ⟨h, Nat.le_refl _⟩
  | k + 1 => by
    obtain ⟨h1, h2⟩ := rs_ok h k
    exact ⟨h1.drop _, by show ((rs bs k).drop _).length ≤ _; rw [List.length_drop]; omega⟩
/-- The bytes that an instruction that was read carries. -/
def readD (bs : List Int) : List Int := if readE bs = 0 then (rs bs 5).take (nu bs 4) else []
theorem readD_ok {bs : List Int} (h : okB bs) : okB (readD bs) ∧ (readD bs).length ≤ bs.length := by
  have h5 := rs_ok h 5
  unfold readD
  generalize rs bs 5 = r at *
  split
  · exact ⟨h5.1.take _, by rw [List.length_take]; omega⟩
  · exact ⟨okB.nil, by simp⟩
theorem sameI_any (a b c d : Int) (u v : Value) (ds : List Int) (w : World) (hu : BB w u ds) (hv : BB w v ds) :
    Calls Try.prog 19 #[.agg #[.int .u64 a, .int .u64 b, .int .u64 c, .int .u64 d, u], .agg #[.int .u64 a, .int .u64 b, .int .u64 c, .int .u64 d, v]] w fun e w' => e = .returned (.bool true) ∧ Below w.heap.size w w' := by
  obtain ⟨A, n, cp, rfl⟩ : ∃ A n c, u = .slice A n c := by obtain ⟨_, _, A, c, h, _⟩ := hu; exact ⟨_, _, _, h⟩
  obtain ⟨A2, n2, cp2, rfl⟩ : ∃ A n c, v = .slice A n c := by obtain ⟨_, _, A, c, h, _⟩ := hv; exact ⟨_, _, _, h⟩
  obtain ⟨B, hB⟩ : ∃ B, w.heap.size = B := ⟨_, rfl⟩
  obtain ⟨Wa, hWa⟩ : ∃ W, w.alloc (.cells #[.int .u64 a, .int .u64 b, .int .u64 c, .int .u64 d, .slice A n cp] 34) = W := ⟨_, rfl⟩
  have hXa : Wa.heap.size = B + 1 := by rw [← hWa, ← hB]; simp
  obtain ⟨Wb, hWb⟩ : ∃ W, Wa.alloc (.cells #[.int .u64 a, .int .u64 b, .int .u64 c, .int .u64 d, .slice A2 n2 cp2] 34) = W := ⟨_, rfl⟩
  have hXb : Wb.heap.size = B + 2 := by rw [← hWb]; simp [hXa]
  have HB0 : Hid (Wb.heap[B]? = some (.cells #[.int .u64 a, .int .u64 b, .int .u64 c, .int .u64 d, .slice A n cp] 34 (0, 0))) := Lib.hid (by rw [← hWb, heap_alloc_old _ _ (by omega), ← hWa, ← hB]; exact heap_alloc_last _ _)
  have HB1 : Hid (Wb.heap[B + 1]? = some (.cells #[.int .u64 a, .int .u64 b, .int .u64 c, .int .u64 d, .slice A2 n2 cp2] 34 (0, 0))) := Lib.hid (by rw [← hWb, ← hXa]; exact heap_alloc_last _ _)
  have HBA : Below w.heap.size w Wa := by rw [← hWa]; exact Below.alloc (Below.refl _ _) (Nat.le_refl _) _
  have HBW : Hid (Below w.heap.size w Wb) := Lib.hid (by rw [← hWb]; exact Below.alloc HBA HBA.size _)
  have b0 : Wb.cell? ⟨B, 0, none⟩ = some (.int .u64 a) := (cell_of_row _ _ _ _ _ _ HB0.out).trans rfl
  have b1 : Wb.cell? ⟨B, 1, none⟩ = some (.int .u64 b) := (cell_of_row _ _ _ _ _ _ HB0.out).trans rfl
  have b2 : Wb.cell? ⟨B, 2, none⟩ = some (.int .u64 c) := (cell_of_row _ _ _ _ _ _ HB0.out).trans rfl
  have b3 : Wb.cell? ⟨B, 3, none⟩ = some (.int .u64 d) := (cell_of_row _ _ _ _ _ _ HB0.out).trans rfl
  have b4 : Wb.cell? ⟨B, 4, none⟩ = some (.slice A n cp) := (cell_of_row _ _ _ _ _ _ HB0.out).trans rfl
  have d0 : Wb.cell? ⟨B + 1, 0, none⟩ = some (.int .u64 a) := (cell_of_row _ _ _ _ _ _ HB1.out).trans rfl
  have d1 : Wb.cell? ⟨B + 1, 1, none⟩ = some (.int .u64 b) := (cell_of_row _ _ _ _ _ _ HB1.out).trans rfl
  have d2 : Wb.cell? ⟨B + 1, 2, none⟩ = some (.int .u64 c) := (cell_of_row _ _ _ _ _ _ HB1.out).trans rfl
  have d3 : Wb.cell? ⟨B + 1, 3, none⟩ = some (.int .u64 d) := (cell_of_row _ _ _ _ _ _ HB1.out).trans rfl
  have d4 : Wb.cell? ⟨B + 1, 4, none⟩ = some (.slice A2 n2 cp2) := (cell_of_row _ _ _ _ _ _ HB1.out).trans rfl
  have HS := Lib.hid (same_bytes _ _ ds ds Wb (hu.below HBW.out) (hv.below HBW.out))
  clear HBA hu hv
  rw [hB]
  go_enter Try.func19, Try.ntmps19
  go_wp2_with fail
  refine HS.out.mono ?_
  rintro e w1 ⟨rfl, hw1⟩
  subst w1
  simp only [decide_true]
  go_wp2_with fail
  go_ret
  exact ⟨rfl, by have := HBW.out; rwa [hB] at this⟩
theorem instructions_law (o n a t : Nat) (v u : Value) (d bs : List Int) (w : World) (hv : BB w v d) (hu : BB w u bs) (ho : o < 18446744073709551616) (hn : n < 18446744073709551616) (ha : a < 18446744073709551616) (ht : t < 18446744073709551616) :
    Calls Try.prog 4 #[.agg #[.int .u64 o, .int .u64 n, .int .u64 a, .int .u64 t, v], u] w fun e w' => e = .returned (.bool true) ∧ Below w.heap.size w w' := by
  obtain ⟨er, her⟩ : ∃ e : Nat, (if 65536 < d.length then 2 else 0) = e := ⟨_, rfl⟩
  obtain ⟨P, hP⟩ : ∃ P, (if 65536 < d.length then [] else writeS o n a t d) = P := ⟨_, rfl⟩
  have HPK : Hid (okB P ∧ P.length ≤ 140737488355328) := Lib.hid (by
    rw [← hP]
    split
    · exact ⟨okB.nil, by simp⟩
    · unfold writeS
      refine ⟨(pre5_ok _ ?_ 5).app hv.ok, ?_⟩
      · intro k
        match k with
        | 0 => exact ho
        | 1 => exact hn
        | 2 => exact ha
        | 3 => exact ht
        | 4 => show d.length < _; have := hv.len; omega
        | k + 5 => simp
      · rw [List.length_append]
        have := pre5_len (fun k => [o, n, a, t, d.length].getD k 0) 5
        omega)
  have HW : Hid (∀ W, BB W v d → Calls Try.prog 15 #[.agg #[.int .u64 o, .int .u64 n, .int .u64 a, .int .u64 t, v]] W fun e w' => (∃ u, e = .returned (.tuple #[u, .int .i64 er]) ∧ OwB w' W.heap.size u P) ∧ Below W.heap.size W w') := Lib.hid (fun W hW => by have := write_any o n a t v d W hW ho hn ha ht; rwa [her, hP] at this)
  have HRW : Hid (∀ W, BB W v d → Calls Try.prog 16 #[.agg #[.int .u64 o, .int .u64 n, .int .u64 a, .int .u64 t, v]] W fun e w' => (∃ u, e = .returned (.tuple #[u, .int .i64 er]) ∧ OwB w' W.heap.size u P) ∧ Below W.heap.size W w') := Lib.hid (fun W hW => by have := rwrite_any o n a t v d W hW ho hn ha ht; rwa [her, hP] at this)
  obtain ⟨er2, her2⟩ : ∃ e : Nat, readE bs = e := ⟨_, rfl⟩
  obtain ⟨D, hD⟩ : ∃ D, readD bs = D := ⟨_, rfl⟩
  have HDK : Hid (okB D ∧ D.length ≤ 140737488355328) := Lib.hid (by have h1 := readD_ok hu.ok; have h2 := hu.len; rw [← hD]; exact ⟨h1.1, by omega⟩)
  obtain ⟨f0, f1, f2, f3, hxr⟩ : ∃ f0 f1 f2 f3 : Int, ∀ u, xr bs (if readE bs = 0 then 4 else 0) u = #[.int .u64 f0, .int .u64 f1, .int .u64 f2, .int .u64 f3, u] := ⟨_, _, _, _, fun u => rfl⟩
  have HRP : Hid (∀ B0 e w', ReadPost bs B0 e w' → ∃ u, e = .returned (.tuple #[.agg #[.int .u64 f0, .int .u64 f1, .int .u64 f2, .int .u64 f3, u], .int .i64 er2]) ∧ OwB w' B0 u D) := Lib.hid (by
    rintro B0 e w' ⟨u, h1, h2⟩
    exact ⟨u, by rw [← her2, ← hxr u]; exact h1, by rw [← hD]; exact h2⟩)
  clear her hP her2 hD hxr
  obtain ⟨A, n9, cp, rfl⟩ : ∃ A n c, v = .slice A n c := by obtain ⟨_, _, A, c, h, _⟩ := hv; exact ⟨_, _, _, h⟩
  obtain ⟨B, hB⟩ : ∃ B, w.heap.size = B := ⟨_, rfl⟩
  obtain ⟨V, hV⟩ : ∃ W, w.alloc (.cells #[.int .u64 o, .int .u64 n, .int .u64 a, .int .u64 t, .slice A n9 cp] 34) = W := ⟨_, rfl⟩
  have hXV : V.heap.size = B + 1 := by rw [← hV, ← hB]; simp
  have hbV : Below w.heap.size w V := by rw [← hV]; exact Below.alloc (Below.refl _ _) (Nat.le_refl _) _
  have HBV := Lib.hid hbV
  have HB0 : Hid (V.heap[B]? = some (.cells #[.int .u64 o, .int .u64 n, .int .u64 a, .int .u64 t, .slice A n9 cp] 34 (0, 0))) := Lib.hid (by rw [← hV, ← hB]; exact heap_alloc_last _ _)
  have HV := Lib.hid (hv.below hbV)
  have HU := Lib.hid (hu.below hbV)
  clear hbV hv hu
  have hz : ∀ w, (zeroValue 34).run Try.prog w = .ok (.agg #[.int .u64 0, .int .u64 0, .int .u64 0, .int .u64 0, .slice none 0 0]) w := zero_ins
  go_enter Try.func4, Try.ntmps4
  go_wp2_with (with_reducible refine wpList_ldB (row := #[.int .u64 o, .int .u64 n, .int .u64 a, .int .u64 t, .slice A n9 cp]) insInfo insRow rfl (.tmp 2) rfl rfl HB0.out ?_)
  refine (HW.out V HV.out).mono ?_
  rintro e w1 ⟨⟨p, rfl, ho1⟩, hb⟩
  have HO1 := Lib.hid ho1
  have HB1 := Lib.hid ((hb.block B (lt_of_heap HB0.out)).trans HB0.out)
  have HBW1 := Lib.hid hb
  clear hb ho1
  go_wp2_with (with_reducible refine wpList_ldB (row := #[.int .u64 o, .int .u64 n, .int .u64 a, .int .u64 t, .slice A n9 cp]) insInfo insRow rfl (.tmp 2) rfl rfl HB1.out ?_)
  refine (HRW.out w1 (HV.out.below HBW1.out)).mono ?_
  rintro e w2 ⟨⟨q, rfl, ho2⟩, hb⟩
  have HO2 := Lib.hid ho2
  have HO1' := Lib.hid (HO1.out.below hb)
  have HBW2 := Lib.hid (bl_then HBW1.out HBW1.out.size hb)
  clear hb ho2 HBW1 HO1
  go_wp2_with fail
  refine (read_any u bs w2 (HU.out.below HBW2.out)).mono ?_
  rintro e w3 ⟨hr, hb⟩
  obtain ⟨y, rfl, hoy⟩ := HRP.out _ _ _ hr
  obtain ⟨Ay, cy, rfl⟩ := OwB.slice hoy
  obtain ⟨l, hl⟩ : ∃ l, D.length = l := ⟨_, rfl⟩
  have HLD := Lib.hid hl
  rw [hl] at hoy ⊢
  have HOY := Lib.hid hoy
  have HO1 := Lib.hid (HO1'.out.below hb)
  have HO2' := Lib.hid (HO2.out.below hb)
  have HBW3 := Lib.hid (bl_then HBW2.out HBW2.out.size hb)
  obtain ⟨X, hX⟩ : ∃ X, w3.heap.size = X := ⟨_, rfl⟩
  have HX0 : Hid ((w3.alloc (.cells #[.int .u64 0, .int .u64 0, .int .u64 0, .int .u64 0, .slice none 0 0] 34)).heap[X]? = some (.cells #[.int .u64 0, .int .u64 0, .int .u64 0, .int .u64 0, .slice none 0 0] 34 (0, 0))) := Lib.hid (by rw [← hX]; exact heap_alloc_last _ _)
  obtain ⟨w4, hw4⟩ : ∃ W, (w3.alloc (.cells #[.int .u64 0, .int .u64 0, .int .u64 0, .int .u64 0, .slice none 0 0] 34)).setRow X #[.int .u64 f0, .int .u64 f1, .int .u64 f2, .int .u64 f3, .slice Ay l cy] = W := ⟨_, rfl⟩
  have hb4 : Below w3.heap.size w3 w4 := by rw [← hw4, ← hX]; exact below_setRow (Below.alloc (Below.refl _ _) (Nat.le_refl _) _) (Nat.le_refl _) _
  have HX4 : Hid (w4.heap[X]? = some (.cells #[.int .u64 f0, .int .u64 f1, .int .u64 f2, .int .u64 f3, .slice Ay l cy] 34 (0, 0))) := Lib.hid (by rw [← hw4]; exact setRow_heap _ _ _ _ _ _ HX0.out)
  have HOY4 := Lib.hid (HOY.out.below hb4)
  have HO14 := Lib.hid (HO1.out.below hb4)
  have HO24 := Lib.hid (HO2'.out.below hb4)
  have HBW4 := Lib.hid (bl_then HBW3.out HBW3.out.size hb4)
  clear hr hb hl hoy HBW2 HO1' HO2 hb4 HOY HO1 HO2' HBW3
  go_wp2_with (with_reducible refine wpList_stB (row := #[.int .u64 f0, .int .u64 f1, .int .u64 f2, .int .u64 f3, .slice Ay l cy]) insInfo (by simp [Value.oneCell']) rfl (.tmp 9) (.tmp 26) rfl rfl rfl HX0.out rfl ?_)
  try rw [hw4]
  refine (rread_any u bs w4 (HU.out.below HBW4.out)).mono ?_
  rintro e w5 ⟨hr, hb⟩
  obtain ⟨z, rfl, hoz⟩ := HRP.out _ _ _ hr
  obtain ⟨Az, cz, rfl⟩ := OwB.slice hoz
  rw [HLD.out] at hoz ⊢
  have HOZ := Lib.hid hoz
  have HOY5 := Lib.hid (HOY4.out.below hb)
  have HO1 := Lib.hid (HO14.out.below hb)
  have HO2 := Lib.hid (HO24.out.below hb)
  have HX5 := Lib.hid ((hb.block X (lt_of_heap HX4.out)).trans HX4.out)
  have HBW5 := Lib.hid (bl_then HBW4.out HBW4.out.size hb)
  obtain ⟨Y, hY⟩ : ∃ X, w5.heap.size = X := ⟨_, rfl⟩
  have hXY : X < Y := by rw [← hY]; exact lt_of_heap HX5.out
  have HY0 : Hid ((w5.alloc (.cells #[.int .u64 0, .int .u64 0, .int .u64 0, .int .u64 0, .slice none 0 0] 34)).heap[Y]? = some (.cells #[.int .u64 0, .int .u64 0, .int .u64 0, .int .u64 0, .slice none 0 0] 34 (0, 0))) := Lib.hid (by rw [← hY]; exact heap_alloc_last _ _)
  obtain ⟨w6, hw6⟩ : ∃ W, (w5.alloc (.cells #[.int .u64 0, .int .u64 0, .int .u64 0, .int .u64 0, .slice none 0 0] 34)).setRow Y #[.int .u64 f0, .int .u64 f1, .int .u64 f2, .int .u64 f3, .slice Az l cz] = W := ⟨_, rfl⟩
  have hb6 : Below w5.heap.size w5 w6 := by rw [← hw6, ← hY]; exact below_setRow (Below.alloc (Below.refl _ _) (Nat.le_refl _) _) (Nat.le_refl _) _
  have HX6 := Lib.hid ((hb6.block X (lt_of_heap HX5.out)).trans HX5.out)
  have HY6 : Hid (w6.heap[Y]? = some (.cells #[.int .u64 f0, .int .u64 f1, .int .u64 f2, .int .u64 f3, .slice Az l cz] 34 (0, 0))) := Lib.hid (by rw [← hw6]; exact setRow_heap _ _ _ _ _ _ HY0.out)
  have HOZ6 := Lib.hid (HOZ.out.below hb6)
  have HOY6 := Lib.hid (HOY5.out.below hb6)
  have HO16 := Lib.hid (HO1.out.below hb6)
  have HO26 := Lib.hid (HO2.out.below hb6)
  have HBW6 := Lib.hid (bl_then HBW5.out HBW5.out.size hb6)
  clear hr hb hoz HBW4 hb6 HOZ HOY5 HO1 HO2 HBW5 HOY4 HO14 HO24 hX hw4
  go_wp2_with (with_reducible refine wpList_stB (row := #[.int .u64 f0, .int .u64 f1, .int .u64 f2, .int .u64 f3, .slice Az l cz]) insInfo (by simp [Value.oneCell']) rfl (.tmp 11) (.tmp 31) rfl rfl rfl HY0.out rfl ?_)
  try rw [hw6]
  refine (same_bytes _ _ P P w6 (HO16.out.rd HPK.out.1 HPK.out.2) (HO26.out.rd HPK.out.1 HPK.out.2)).mono ?_
  rintro e w7 ⟨rfl, hw7⟩
  subst w7
  simp only [decide_true]
  clear hw6 hY
  go_wp2_with (first | (with_reducible refine wpList_ldBh (row := #[.int .u64 f0, .int .u64 f1, .int .u64 f2, .int .u64 f3, .slice Ay l cy]) insInfo insRow (by simp [Region.wanted, yielded, Act.put]) (.tmp 9) rfl rfl HX6.out ?_) | (with_reducible refine wpList_ldBh (row := #[.int .u64 f0, .int .u64 f1, .int .u64 f2, .int .u64 f3, .slice Az l cz]) insInfo insRow (by simp [Region.wanted, yielded, Act.put]) (.tmp 11) rfl rfl HY6.out ?_))
  refine (sameI_any f0 f1 f2 f3 _ _ D w6 (HOY6.out.rd HDK.out.1 HDK.out.2) (HOZ6.out.rd HDK.out.1 HDK.out.2)).mono ?_
  rintro e w8 ⟨rfl, hb⟩
  have HBW8 := Lib.hid (bl_then HBW6.out HBW6.out.size hb)
  clear hb
  go_wp2_with fail
  refine (anchored_any _).mono ?_
  rintro e w9 ⟨rfl, hb⟩
  have HBW9 := Lib.hid (bl_then HBW8.out HBW8.out.size hb)
  clear hb
  go_wp2_with fail
  go_ret
  exact ⟨rfl, bl_then HBV.out HBV.out.size HBW9.out⟩
end Go.Proofs.Ytclnohifgjjngaa
