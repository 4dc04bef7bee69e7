/- What is proved: what One of the reference answers when it is called; the law FragmentBytes answers true; conditions: those typed. -/
import Derived.Test.YtnhhibdkojgnlaaFragE
set_option linter.unusedSimpArgs false
set_option linter.unusedVariables false
namespace Go.Proofs.Ytnhhibdkojgnlaa
open Go.RowKit
set_option maxRecDepth 100000
set_option maxHeartbeats 8000000
--% ONE := wayfarer/wayfarerref10.One
theorem one_any (id n : Int) (last : Bool) (v : Value) (bs : List Int) (id' n' : Int) (last' : Bool) (v' : Value) (bs' : List Int) (w : World) (hv : BB w v bs) (hv' : BB w v' bs') :
    Calls Try.prog 20 #[partV id n last v, partV id' n' last' v'] w fun e w' => e = .returned (.bool (decide (id = id' ∧ n = n' ∧ last = last' ∧ bs = bs'))) ∧ Below w.heap.size w w' := by
  obtain ⟨B, hB⟩ : ∃ B, w.heap.size = B := ⟨_, rfl⟩
  rw [hB]
  obtain ⟨V, hV⟩ : ∃ V, (w.alloc (.cells #[.int .u64 id, .int .i64 n, .bool last, v] 33)).alloc (.cells #[.int .u64 id', .int .i64 n', .bool last', v'] 33) = V := ⟨_, rfl⟩
  have HL := Lib.hid (show Below B w V by rw [← hV, ← hB]; (repeat' (first | (with_reducible exact Below.refl _ _) | (with_reducible assumption) | (with_reducible refine Below.alloc ?_ ?_ _) | (with_reducible refine below_setRow ?_ ?_ _) | (with_reducible refine bl_drew ?_) | (with_reducible refine bl_drewN ?_ _) | (with_reducible refine Below.setCell ?_ ?_ _) | (with_reducible refine bl_then ?_ ?_ hb) | (with_reducible refine bl_then ?_ ?_ hb1) | (with_reducible refine bl_then ?_ ?_ hb2) | (with_reducible refine bl_then ?_ ?_ hb3) | (with_reducible refine bl_then ?_ ?_ hb4) | (with_reducible refine bl_then ?_ ?_ hb5) | (with_reducible refine bl_then ?_ ?_ hb6) | (with_reducible refine bl_then ?_ ?_ hb7) | (with_reducible refine bl_then ?_ ?_ hb8) | (with_reducible exact Nat.le_refl _) | omega | (simp only [World.size_alloc, World.size_setCell, World.size_drew, size_setRow]; omega) | (simp; omega) | (simp; done))))
  have h1 : V.heap[B]? = some (.cells #[.int .u64 id, .int .i64 n, .bool last, v] 33 (0, 0)) := by rw [← hV, ← hB]; (simp only [heap_setRow_if, heap_alloc_if, heap_setCell_if, World.size_alloc, size_setRow, World.size_setCell]; simp)
  have h2 : V.heap[B + 1]? = some (.cells #[.int .u64 id', .int .i64 n', .bool last', v'] 33 (0, 0)) := by rw [← hV, ← hB]; (simp only [heap_setRow_if, heap_alloc_if, heap_setCell_if, World.size_alloc, size_setRow, World.size_setCell]; simp)
  have HV := Lib.hid (hv.below (by rw [hB]; exact HL.out))
  have HV' := Lib.hid (hv'.below (by rw [hB]; exact HL.out))
  clear hv hv'
  have b0 : V.cell? ⟨B, 0, none⟩ = some (.int .u64 id) := (cell_of_row _ _ _ _ _ _ h1).trans rfl
  have b1 : V.cell? ⟨B, 1, none⟩ = some (.int .i64 n) := (cell_of_row _ _ _ _ _ _ h1).trans rfl
  have b2 : V.cell? ⟨B, 2, none⟩ = some (.bool last) := (cell_of_row _ _ _ _ _ _ h1).trans rfl
  have b3 : V.cell? ⟨B, 3, none⟩ = some v := (cell_of_row _ _ _ _ _ _ h1).trans rfl
  have c0 : V.cell? ⟨B + 1, 0, none⟩ = some (.int .u64 id') := (cell_of_row _ _ _ _ _ _ h2).trans rfl
  have c1 : V.cell? ⟨B + 1, 1, none⟩ = some (.int .i64 n') := (cell_of_row _ _ _ _ _ _ h2).trans rfl
  have c2 : V.cell? ⟨B + 1, 2, none⟩ = some (.bool last') := (cell_of_row _ _ _ _ _ _ h2).trans rfl
  have c3 : V.cell? ⟨B + 1, 3, none⟩ = some v' := (cell_of_row _ _ _ _ _ _ h2).trans rfl
  have e1 : partV id n last v = .agg #[.int .u64 id, .int .i64 n, .bool last, v] := rfl
  have e2 : partV id' n' last' v' = .agg #[.int .u64 id', .int .i64 n', .bool last', v'] := rfl
  rw [e1, e2]
  clear e1 e2 h1 h2
  have fin : ∀ {b : Bool}, decide (id = id' ∧ n = n' ∧ last = last' ∧ bs = bs') = b → Calls Try.prog 20 #[.agg #[.int .u64 id, .int .i64 n, .bool last, v], .agg #[.int .u64 id', .int .i64 n', .bool last', v']] w (fun e w' => e = .returned (.bool b) ∧ Below B w w') → Calls Try.prog 20 #[.agg #[.int .u64 id, .int .i64 n, .bool last, v], .agg #[.int .u64 id', .int .i64 n', .bool last', v']] w (fun e w' => e = .returned (.bool (decide (id = id' ∧ n = n' ∧ last = last' ∧ bs = bs'))) ∧ Below B w w') := fun h k => by rw [h]; exact k
  obtain ⟨d, hd⟩ : ∃ d, decide (bs = bs') = d := ⟨_, rfl⟩
  have HS := Lib.hid (same_bytes v v' bs bs' V HV.out HV'.out)
  rw [hd] at HS
  by_cases h0 : id = id'
  · by_cases h1 : n = n'
    · by_cases h2 : last = last'
      · refine fin (b := d) (by rw [← hd]; simp [h0, h1, h2]) ?_
        have hi : (id == id') = true := by simp [h0]
        have hn : (n == n') = true := by simp [h1]
        have hl : (last == last') = true := by simp [h2]
        clear fin h0 h1 h2 hd HV HV'
        go_enter Try.func20, Try.ntmps20
        go_wp2_with fail
        refine HS.out.mono ?_
        rintro e w1 ⟨rfl, rfl⟩
        go_wp2_with fail
        go_ret
        exact ⟨rfl, HL.out⟩
      · refine fin (b := false) (by simp [h2]) ?_
        have hi : (id == id') = true := by simp [h0]
        have hn : (n == n') = true := by simp [h1]
        have hl : (last == last') = false := by simpa using h2
        clear fin h0 h1 h2 hd HV HV' HS
        go_enter Try.func20, Try.ntmps20
        go_wp2_with fail
        go_ret
        exact ⟨rfl, HL.out⟩
    · refine fin (b := false) (by simp [h1]) ?_
      have hi : (id == id') = true := by simp [h0]
      have hn : (n == n') = false := by simpa using h1
      clear fin h0 h1 hd HV HV' HS
      go_enter Try.func20, Try.ntmps20
      go_wp2_with fail
      go_ret
      exact ⟨rfl, HL.out⟩
  · refine fin (b := false) (by simp [h0]) ?_
    have hi : (id == id') = false := by simpa using h0
    clear fin h0 hd HV HV' HS
    go_enter Try.func20, Try.ntmps20
    go_wp2_with fail
    go_ret
    exact ⟨rfl, HL.out⟩
-- LAW
theorem readPF_none {bs : List Int} {er : Nat} (h : readPF bs = (er, none)) : er ≠ 0 := by
  unfold readPF at h
  split at h
  · simp only [Prod.mk.injEq] at h; omega
  · split at h
    · simp only [Prod.mk.injEq] at h; omega
    · split at h
      · simp at h
      · simp only [Prod.mk.injEq] at h; omega
theorem readPF_some {bs : List Int} {er : Nat} {x : Nat × Nat × Bool × List Int} (h : readPF bs = (er, some x)) : er = 0 := by
  unfold readPF at h
  split at h
  · simp at h
  · split at h
    · simp at h
    · split at h
      · simp only [Prod.mk.injEq] at h; omega
      · simp at h
theorem writeF_ok {id n : Nat} {last : Bool} {bs : List Int} (hid : id < 18446744073709551616) (hm : mayB n last bs.length = true) (hx : okB bs) : okB (writeF id n last bs) ∧ (writeF id n last bs).length ≤ 140737488355328 := by
  simp only [mayB, Bool.and_eq_true, decide_eq_true_eq] at hm
  have h2 : 2 * n + last.toNat < 18446744073709551616 := by cases last <;> simp <;> omega
  have o1 := uintB_ok hid
  have o2 := uintB_ok h2
  have l1 := uintB_len id
  have l2 := uintB_len (2 * n + last.toNat)
  unfold writeF
  refine ⟨fun x h => ?_, ?_⟩
  · rcases List.mem_append.1 h with h | h
    · exact o1 x h
    · rcases List.mem_append.1 h with h | h
      · exact o2 x h
      · exact hx x h
  simp only [List.length_append]
  omega
/-- A part in its block, bytes and bytes. -/
structure FB (w W : World) (B : Nat) (row : Array Value) (v u : Value) (bs cs : List Int) : Prop where
  hB : W.heap[B]? = some (.cells row 33 (0, 0))
  bv : BB W v bs
  bu : BB W u cs
  bel : Below B w W
theorem FB.lt {w W : World} {B : Nat} {row : Array Value} {v u : Value} {bs cs : List Int} (h : FB w W B row v u bs cs) : B + 1 ≤ W.heap.size := lt_of_heap h.hB
theorem FB.below {w W W' : World} {B : Nat} {row : Array Value} {v u : Value} {bs cs : List Int} (h : FB w W B row v u bs cs) (hb : Below W.heap.size W W') : FB w W' B row v u bs cs :=
  ⟨(hb.block B (lt_of_heap h.hB)).trans h.hB, h.bv.below hb, h.bu.below hb, bl_then h.bel (by have := h.lt; omega) hb⟩
theorem below_new {W : World} (r r' : Array Value) (t : TypeId) : Below W.heap.size W ((W.alloc (.cells r t)).setRow W.heap.size r') := below_setRow (by (repeat' (first | (with_reducible exact Below.refl _ _) | (with_reducible assumption) | (with_reducible refine Below.alloc ?_ ?_ _) | (with_reducible refine below_setRow ?_ ?_ _) | (with_reducible refine bl_drew ?_) | (with_reducible refine bl_drewN ?_ _) | (with_reducible refine Below.setCell ?_ ?_ _) | (with_reducible refine bl_then ?_ ?_ hb) | (with_reducible refine bl_then ?_ ?_ hb1) | (with_reducible refine bl_then ?_ ?_ hb2) | (with_reducible refine bl_then ?_ ?_ hb3) | (with_reducible refine bl_then ?_ ?_ hb4) | (with_reducible refine bl_then ?_ ?_ hb5) | (with_reducible refine bl_then ?_ ?_ hb6) | (with_reducible refine bl_then ?_ ?_ hb7) | (with_reducible refine bl_then ?_ ?_ hb8) | (with_reducible exact Nat.le_refl _) | omega | (simp only [World.size_alloc, World.size_setCell, World.size_drew, size_setRow]; omega) | (simp; omega) | (simp; done)))) (Nat.le_refl _) _
theorem heap_new {W : World} (r r' : Array Value) (t : TypeId) : ((W.alloc (.cells r t)).setRow W.heap.size r').heap[W.heap.size]? = some (.cells r' t (0, 0)) := setRow_heap _ _ _ _ _ _ (heap_alloc_last _ _)
theorem one_row {w : World} {base : Nat} {v : Value} {xs : List Int} (id n : Int) (last : Bool) (h : OwB w base v xs) : (#[.int .u64 id, .int .i64 n, .bool last, v] : Array Value).all (·.oneCell') = true := by
  obtain ⟨A, c, rfl⟩ := h.slice
  simp [Value.oneCell']
theorem bytes_law (id : Nat) (n : Int) (last : Bool) (v u : Value) (bs cs : List Int) (w : World) (hv : BB w v bs) (hu : BB w u cs) (hid : id < 18446744073709551616) :
    Calls Try.prog 6 #[partV id n last v, u] w fun e w' => e = .returned (.bool true) ∧ Below w.heap.size w w' := by
  obtain ⟨B, hB⟩ : ∃ B, w.heap.size = B := ⟨_, rfl⟩
  rw [hB]
  obtain ⟨row, hrow⟩ : ∃ r, r = (#[.int .u64 id, .int .i64 n, .bool last, v] : Array Value) := ⟨_, rfl⟩
  obtain ⟨w0, hw0⟩ : ∃ w0, w.alloc (.cells #[.int .u64 id, .int .i64 n, .bool last, v] 33) = w0 := ⟨_, rfl⟩
  have F0 : Hid (FB w w0 B #[.int .u64 id, .int .i64 n, .bool last, v] v u bs cs) := Lib.hid {
    hB := by rw [← hw0, ← hB]; exact heap_alloc_last _ _
    bv := hv.below (by rw [← hw0]; (repeat' (first | (with_reducible exact Below.refl _ _) | (with_reducible assumption) | (with_reducible refine Below.alloc ?_ ?_ _) | (with_reducible refine below_setRow ?_ ?_ _) | (with_reducible refine bl_drew ?_) | (with_reducible refine bl_drewN ?_ _) | (with_reducible refine Below.setCell ?_ ?_ _) | (with_reducible refine bl_then ?_ ?_ hb) | (with_reducible refine bl_then ?_ ?_ hb1) | (with_reducible refine bl_then ?_ ?_ hb2) | (with_reducible refine bl_then ?_ ?_ hb3) | (with_reducible refine bl_then ?_ ?_ hb4) | (with_reducible refine bl_then ?_ ?_ hb5) | (with_reducible refine bl_then ?_ ?_ hb6) | (with_reducible refine bl_then ?_ ?_ hb7) | (with_reducible refine bl_then ?_ ?_ hb8) | (with_reducible exact Nat.le_refl _) | omega | (simp only [World.size_alloc, World.size_setCell, World.size_drew, size_setRow]; omega) | (simp; omega) | (simp; done))))
    bu := hu.below (by rw [← hw0]; (repeat' (first | (with_reducible exact Below.refl _ _) | (with_reducible assumption) | (with_reducible refine Below.alloc ?_ ?_ _) | (with_reducible refine below_setRow ?_ ?_ _) | (with_reducible refine bl_drew ?_) | (with_reducible refine bl_drewN ?_ _) | (with_reducible refine Below.setCell ?_ ?_ _) | (with_reducible refine bl_then ?_ ?_ hb) | (with_reducible refine bl_then ?_ ?_ hb1) | (with_reducible refine bl_then ?_ ?_ hb2) | (with_reducible refine bl_then ?_ ?_ hb3) | (with_reducible refine bl_then ?_ ?_ hb4) | (with_reducible refine bl_then ?_ ?_ hb5) | (with_reducible refine bl_then ?_ ?_ hb6) | (with_reducible refine bl_then ?_ ?_ hb7) | (with_reducible refine bl_then ?_ ?_ hb8) | (with_reducible exact Nat.le_refl _) | omega | (simp only [World.size_alloc, World.size_setCell, World.size_drew, size_setRow]; omega) | (simp; omega) | (simp; done))))
    bel := by rw [← hw0, ← hB]; (repeat' (first | (with_reducible exact Below.refl _ _) | (with_reducible assumption) | (with_reducible refine Below.alloc ?_ ?_ _) | (with_reducible refine below_setRow ?_ ?_ _) | (with_reducible refine bl_drew ?_) | (with_reducible refine bl_drewN ?_ _) | (with_reducible refine Below.setCell ?_ ?_ _) | (with_reducible refine bl_then ?_ ?_ hb) | (with_reducible refine bl_then ?_ ?_ hb1) | (with_reducible refine bl_then ?_ ?_ hb2) | (with_reducible refine bl_then ?_ ?_ hb3) | (with_reducible refine bl_then ?_ ?_ hb4) | (with_reducible refine bl_then ?_ ?_ hb5) | (with_reducible refine bl_then ?_ ?_ hb6) | (with_reducible refine bl_then ?_ ?_ hb7) | (with_reducible refine bl_then ?_ ?_ hb8) | (with_reducible exact Nat.le_refl _) | omega | (simp only [World.size_alloc, World.size_setCell, World.size_drew, size_setRow]; omega) | (simp; omega) | (simp; done))) }
  clear hv hu hrow
  have hz : ∀ w, (zeroValue 33).run Try.prog w = .ok (.agg #[.int .u64 0, .int .i64 0, .bool false, .slice none 0 0]) w := zero_part
  have e1 : partV id n last v = .agg #[.int .u64 id, .int .i64 n, .bool last, v] := rfl
  rw [e1]
  clear e1
  go_enter Try.func6, Try.ntmps6
  go_wp2_with (with_reducible refine wpList_ldB (row := #[.int .u64 id, .int .i64 n, .bool last, v]) partInfo partRow rfl (.tmp 2) rfl rfl F0.out.hB ?_)
  refine (write_any id n last v bs _ F0.out.bv hid).mono ?_
  rintro e w1 ⟨⟨vr, rfl, ho⟩, hb1⟩
  have F1 := Lib.hid (F0.out.below hb1)
  clear hb1 F0 hw0 hB
  cases hm : mayB n last bs.length with
  | false =>
    have HM := Lib.hid hm
    have HER : Hid (errT false = 2) := Lib.hid rfl
    rw [HER.out]
    clear hm ho
    go_wp2_with fail
    as_aux_lemma =>
      refine (read_any u cs w1 F1.out.bu).mono ?_
      rintro e w5 ⟨hr, hb5⟩
      obtain ⟨er, o, hro⟩ : ∃ er o, readPF cs = (er, o) := ⟨_, _, rfl⟩
      rw [hro] at hr
      have HRO := Lib.hid hro
      clear hro
      obtain ⟨vb5, rfl, ho5⟩ := hr
      have F5 := Lib.hid (F1.out.below hb5)
      clear hb5 F1
      obtain ⟨Y, hY⟩ : ∃ Y, w5.heap.size = Y := ⟨_, rfl⟩
      have hBY : B < Y := by have := F5.out.lt; omega
      have HY : Hid ((w5.alloc (.cells #[.int .u64 0, .int .i64 0, .bool false, .slice none 0 0] 33)).heap[Y]? = some (.cells #[.int .u64 0, .int .i64 0, .bool false, .slice none 0 0] 33 (0, 0))) := Lib.hid (by rw [← hY]; exact heap_alloc_last _ _)
      rcases o with _ | ⟨id5, n5, last5, bs5⟩
      · have hne : ¬ (er : Int) = 0 := by have := readPF_none HRO.out; omega
        have HE5 : Hid (partV (((none : Option (Nat × Nat × Bool × List Int)).getD (0, 0, false, [])).1 : Int) (((none : Option (Nat × Nat × Bool × List Int)).getD (0, 0, false, [])).2.1 : Int) ((none : Option (Nat × Nat × Bool × List Int)).getD (0, 0, false, [])).2.2.1 vb5 = .agg #[.int .u64 0, .int .i64 0, .bool false, vb5]) := Lib.hid rfl
        have hbn : Below w5.heap.size w5 ((w5.alloc (.cells #[.int .u64 0, .int .i64 0, .bool false, .slice none 0 0] 33)).setRow Y #[.int .u64 0, .int .i64 0, .bool false, vb5]) := by rw [← hY]; exact below_new _ _ _
        have F6 := Lib.hid (F5.out.below hbn)
        have HONE := Lib.hid (one_row 0 0 false ho5)
        rw [HE5.out]
        clear hbn F5 ho5 HE5
        go_wp2_with (with_reducible refine wpList_stB (row := #[.int .u64 0, .int .i64 0, .bool false, vb5]) partInfo HONE.out rfl (.tmp 9) (.tmp 36) rfl rfl rfl HY.out rfl ?_)
        refine (anchored_any _).mono ?_
        rintro e w7 ⟨rfl, hb7⟩
        have F7 := Lib.hid (F6.out.below hb7)
        clear hb7 F6 HY hY
        go_wp2_with (with_reducible refine wpList_ldBh (row := #[.int .u64 id, .int .i64 n, .bool last, v]) partInfo partRow (by simp [Region.wanted, yielded, Act.put]) (.tmp 2) rfl rfl F7.out.hB ?_)
        refine (rmay_any id n last v bs _ F7.out.bv).mono ?_
        rintro e w8 ⟨rfl, hb8⟩
        rw [HM.out]
        have F8 := Lib.hid (F7.out.below hb8)
        clear hb8 F7
        go_wp2_with fail
        go_ret
        exact ⟨rfl, F8.out.bel⟩
      · have he0 : er = 0 := readPF_some HRO.out
        subst he0
        have HE5 : Hid (partV (((some (id5, n5, last5, bs5)).getD (0, 0, false, [])).1 : Int) (((some (id5, n5, last5, bs5)).getD (0, 0, false, [])).2.1 : Int) ((some (id5, n5, last5, bs5)).getD (0, 0, false, [])).2.2.1 vb5 = .agg #[.int .u64 id5, .int .i64 n5, .bool last5, vb5]) := Lib.hid rfl
        have HWR := Lib.hid (write_readP F5.out.bu.ok HRO.out)
        have ho5' : OwB w5 w1.heap.size vb5 bs5 := ho5
        have hok5 : okB bs5 := by
          intro x hx
          refine F5.out.bu.ok x ?_
          rw [← HWR.out.1]
          unfold writeF
          simp [hx]
        have hlen5 : bs5.length ≤ 140737488355328 := by
          have := HWR.out.2.1
          simp only [mayB, Bool.and_eq_true, decide_eq_true_eq] at this
          omega
        have hbn : Below w5.heap.size w5 ((w5.alloc (.cells #[.int .u64 0, .int .i64 0, .bool false, .slice none 0 0] 33)).setRow Y #[.int .u64 id5, .int .i64 n5, .bool last5, vb5]) := by rw [← hY]; exact below_new _ _ _
        have F6 := Lib.hid (F5.out.below hbn)
        have HO6 := Lib.hid ((ho5'.below hbn).rd hok5 hlen5)
        have HY6 : Hid (((w5.alloc (.cells #[.int .u64 0, .int .i64 0, .bool false, .slice none 0 0] 33)).setRow Y #[.int .u64 id5, .int .i64 n5, .bool last5, vb5]).heap[Y]? = some (.cells #[.int .u64 id5, .int .i64 n5, .bool last5, vb5] 33 (0, 0))) := Lib.hid (by rw [← hY]; exact heap_new _ _ _)
        have HONE := Lib.hid (one_row (id5 : Int) (n5 : Int) last5 ho5')
        rw [HE5.out]
        clear hbn F5 ho5 ho5' HE5 hok5 hlen5
        go_wp2_with (first | (with_reducible refine wpList_stB (row := #[.int .u64 id5, .int .i64 n5, .bool last5, vb5]) partInfo HONE.out rfl (.tmp 9) (.tmp 36) rfl rfl rfl HY.out rfl ?_) | (with_reducible refine wpList_ldB (row := #[.int .u64 id5, .int .i64 n5, .bool last5, vb5]) partInfo partRow rfl (.tmp 9) rfl rfl HY6.out ?_))
        refine (write_any id5 n5 last5 vb5 bs5 _ HO6.out HWR.out.2.2).mono ?_
        rintro e w7 ⟨⟨vy, rfl, hoy⟩, hb7⟩
        have HER5 : Hid (errT (mayB (n5 : Int) last5 bs5.length) = 0) := Lib.hid (by rw [HWR.out.2.1]; rfl)
        rw [HER5.out]
        have F7 := Lib.hid (F6.out.below hb7)
        have HOY := Lib.hid (show OwB w7 _ vy cs by
          have h := hoy
          rw [HWR.out.2.1] at h
          have e : writeR true id5 (n5 : Int).toNat last5 bs5 = cs := HWR.out.1
          rw [e] at h
          exact h)
        clear hb7 F6 HY hY HY6 HO6 hoy HONE
        go_wp2_with fail
        refine (anchored_any _).mono ?_
        rintro e w8 ⟨rfl, hb8⟩
        have F8 := Lib.hid (F7.out.below hb8)
        have HOY8 := Lib.hid ((HOY.out.below hb8).rd F8.out.bu.ok F8.out.bu.len)
        clear hb8 F7 HOY
        go_wp2_with fail
        refine (same_bytes vy u cs cs w8 HOY8.out F8.out.bu).mono ?_
        rintro e w9 ⟨rfl, rfl⟩
        have HD9 : Hid (decide (cs = cs) = true) := Lib.hid (by simp)
        rw [HD9.out]
        go_wp2_with fail
        go_ret
        exact ⟨rfl, F8.out.bel⟩
  | true =>
    have HM := Lib.hid hm
    have hm' := hm
    simp only [mayB, Bool.and_eq_true, decide_eq_true_eq] at hm'
    obtain ⟨m, rfl⟩ := Int.eq_ofNat_of_zero_le hm'.1
    have HER : Hid (errT true = 0) := Lib.hid rfl
    rw [HER.out]
    have ho1 : OwB w1 w0.heap.size vr (writeF id m last bs) := by
      rw [hm] at ho
      exact ho
    have hwo := writeF_ok hid hm F1.out.bv.ok
    have HBX := Lib.hid (ho1.rd hwo.1 hwo.2)
    have HRW := Lib.hid (readP_write (bs := bs) hid hm)
    clear hm hm' ho ho1 hwo
    obtain ⟨ws, hws⟩ : ∃ ws, writeF id m last bs = ws := ⟨_, rfl⟩
    rw [hws] at HBX HRW
    clear hws
    go_wp2_with fail
    refine (read_any vr ws w1 HBX.out).mono ?_
    rintro e w2 ⟨hr, hb2⟩
    rw [HRW.out] at hr
    obtain ⟨vb, rfl, ho2⟩ := hr
    dsimp only [Option.getD_some] at ho2 ⊢
    have F2 := Lib.hid (F1.out.below hb2)
    have HO2 := Lib.hid ho2
    clear hb2 ho2 F1 HBX HRW
    obtain ⟨X, hX⟩ : ∃ X, w2.heap.size = X := ⟨_, rfl⟩
    have hBX : B < X := by have := F2.out.lt; omega
    have HX : Hid ((w2.alloc (.cells #[.int .u64 0, .int .i64 0, .bool false, .slice none 0 0] 33)).heap[X]? = some (.cells #[.int .u64 0, .int .i64 0, .bool false, .slice none 0 0] 33 (0, 0))) := Lib.hid (by rw [← hX]; exact heap_alloc_last _ _)
    have hbn : Below w2.heap.size w2 ((w2.alloc (.cells #[.int .u64 0, .int .i64 0, .bool false, .slice none 0 0] 33)).setRow X #[.int .u64 id, .int .i64 m, .bool last, vb]) := by rw [← hX]; exact below_new _ _ _
    have F3 := Lib.hid (F2.out.below hbn)
    have HO3 := Lib.hid (HO2.out.below hbn)
    have HX3 : Hid (((w2.alloc (.cells #[.int .u64 0, .int .i64 0, .bool false, .slice none 0 0] 33)).setRow X #[.int .u64 id, .int .i64 m, .bool last, vb]).heap[X]? = some (.cells #[.int .u64 id, .int .i64 m, .bool last, vb] 33 (0, 0))) := Lib.hid (by rw [← hX]; exact heap_new _ _ _)
    have HONE := Lib.hid (one_row (id : Int) (m : Int) last HO2.out)
    have HE1 : Hid (partV (id : Int) (m : Int) last vb = .agg #[.int .u64 id, .int .i64 m, .bool last, vb]) := Lib.hid rfl
    rw [HE1.out]
    clear hbn F2 HO2 HE1
    go_wp2_with (first | (with_reducible refine wpList_stB (row := #[.int .u64 id, .int .i64 m, .bool last, vb]) partInfo HONE.out rfl (.tmp 7) (.tmp 23) rfl rfl rfl HX.out rfl ?_) | (with_reducible refine wpList_ldBh (row := #[.int .u64 id, .int .i64 m, .bool last, v]) partInfo partRow (by simp [Region.wanted, yielded, Act.put]) (.tmp 2) rfl rfl F3.out.hB ?_) | (with_reducible refine wpList_ldBh (row := #[.int .u64 id, .int .i64 m, .bool last, vb]) partInfo partRow (by simp [Region.wanted, yielded, Act.put]) (.tmp 7) rfl rfl HX3.out ?_))
    refine (one_any id m last v bs id m last vb bs _ F3.out.bv (HO3.out.rd F3.out.bv.ok F3.out.bv.len)).mono ?_
    rintro e w4 ⟨rfl, hb4⟩
    have F4 := Lib.hid (F3.out.below hb4)
    have HD : Hid (decide ((id : Int) = id ∧ (m : Int) = m ∧ last = last ∧ bs = bs) = true) := Lib.hid (by simp)
    rw [HD.out]
    clear hb4 F3 HO3 HX3 HX HONE hX
    go_wp2_with fail
    as_aux_lemma =>
      refine (read_any u cs w4 F4.out.bu).mono ?_
      rintro e w5 ⟨hr, hb5⟩
      obtain ⟨er, o, hro⟩ : ∃ er o, readPF cs = (er, o) := ⟨_, _, rfl⟩
      rw [hro] at hr
      have HRO := Lib.hid hro
      clear hro
      obtain ⟨vb5, rfl, ho5⟩ := hr
      have F5 := Lib.hid (F4.out.below hb5)
      clear hb5 F4
      obtain ⟨Y, hY⟩ : ∃ Y, w5.heap.size = Y := ⟨_, rfl⟩
      have hBY : B < Y := by have := F5.out.lt; omega
      have HY : Hid ((w5.alloc (.cells #[.int .u64 0, .int .i64 0, .bool false, .slice none 0 0] 33)).heap[Y]? = some (.cells #[.int .u64 0, .int .i64 0, .bool false, .slice none 0 0] 33 (0, 0))) := Lib.hid (by rw [← hY]; exact heap_alloc_last _ _)
      rcases o with _ | ⟨id5, n5, last5, bs5⟩
      · have hne : ¬ (er : Int) = 0 := by have := readPF_none HRO.out; omega
        have HE5 : Hid (partV (((none : Option (Nat × Nat × Bool × List Int)).getD (0, 0, false, [])).1 : Int) (((none : Option (Nat × Nat × Bool × List Int)).getD (0, 0, false, [])).2.1 : Int) ((none : Option (Nat × Nat × Bool × List Int)).getD (0, 0, false, [])).2.2.1 vb5 = .agg #[.int .u64 0, .int .i64 0, .bool false, vb5]) := Lib.hid rfl
        have hbn : Below w5.heap.size w5 ((w5.alloc (.cells #[.int .u64 0, .int .i64 0, .bool false, .slice none 0 0] 33)).setRow Y #[.int .u64 0, .int .i64 0, .bool false, vb5]) := by rw [← hY]; exact below_new _ _ _
        have F6 := Lib.hid (F5.out.below hbn)
        have HONE := Lib.hid (one_row 0 0 false ho5)
        rw [HE5.out]
        clear hbn F5 ho5 HE5
        go_wp2_with (with_reducible refine wpList_stB (row := #[.int .u64 0, .int .i64 0, .bool false, vb5]) partInfo HONE.out rfl (.tmp 9) (.tmp 36) rfl rfl rfl HY.out rfl ?_)
        refine (anchored_any _).mono ?_
        rintro e w7 ⟨rfl, hb7⟩
        have F7 := Lib.hid (F6.out.below hb7)
        clear hb7 F6 HY hY
        go_wp2_with (with_reducible refine wpList_ldBh (row := #[.int .u64 id, .int .i64 m, .bool last, v]) partInfo partRow (by simp [Region.wanted, yielded, Act.put]) (.tmp 2) rfl rfl F7.out.hB ?_)
        refine (rmay_any id m last v bs _ F7.out.bv).mono ?_
        rintro e w8 ⟨rfl, hb8⟩
        rw [HM.out]
        have F8 := Lib.hid (F7.out.below hb8)
        clear hb8 F7
        go_wp2_with fail
        go_ret
        exact ⟨rfl, F8.out.bel⟩
      · have he0 : er = 0 := readPF_some HRO.out
        subst he0
        have HE5 : Hid (partV (((some (id5, n5, last5, bs5)).getD (0, 0, false, [])).1 : Int) (((some (id5, n5, last5, bs5)).getD (0, 0, false, [])).2.1 : Int) ((some (id5, n5, last5, bs5)).getD (0, 0, false, [])).2.2.1 vb5 = .agg #[.int .u64 id5, .int .i64 n5, .bool last5, vb5]) := Lib.hid rfl
        have HWR := Lib.hid (write_readP F5.out.bu.ok HRO.out)
        have ho5' : OwB w5 w4.heap.size vb5 bs5 := ho5
        have hok5 : okB bs5 := by
          intro x hx
          refine F5.out.bu.ok x ?_
          rw [← HWR.out.1]
          unfold writeF
          simp [hx]
        have hlen5 : bs5.length ≤ 140737488355328 := by
          have := HWR.out.2.1
          simp only [mayB, Bool.and_eq_true, decide_eq_true_eq] at this
          omega
        have hbn : Below w5.heap.size w5 ((w5.alloc (.cells #[.int .u64 0, .int .i64 0, .bool false, .slice none 0 0] 33)).setRow Y #[.int .u64 id5, .int .i64 n5, .bool last5, vb5]) := by rw [← hY]; exact below_new _ _ _
        have F6 := Lib.hid (F5.out.below hbn)
        have HO6 := Lib.hid ((ho5'.below hbn).rd hok5 hlen5)
        have HY6 : Hid (((w5.alloc (.cells #[.int .u64 0, .int .i64 0, .bool false, .slice none 0 0] 33)).setRow Y #[.int .u64 id5, .int .i64 n5, .bool last5, vb5]).heap[Y]? = some (.cells #[.int .u64 id5, .int .i64 n5, .bool last5, vb5] 33 (0, 0))) := Lib.hid (by rw [← hY]; exact heap_new _ _ _)
        have HONE := Lib.hid (one_row (id5 : Int) (n5 : Int) last5 ho5')
        rw [HE5.out]
        clear hbn F5 ho5 ho5' HE5 hok5 hlen5
        go_wp2_with (first | (with_reducible refine wpList_stB (row := #[.int .u64 id5, .int .i64 n5, .bool last5, vb5]) partInfo HONE.out rfl (.tmp 9) (.tmp 36) rfl rfl rfl HY.out rfl ?_) | (with_reducible refine wpList_ldB (row := #[.int .u64 id5, .int .i64 n5, .bool last5, vb5]) partInfo partRow rfl (.tmp 9) rfl rfl HY6.out ?_))
        refine (write_any id5 n5 last5 vb5 bs5 _ HO6.out HWR.out.2.2).mono ?_
        rintro e w7 ⟨⟨vy, rfl, hoy⟩, hb7⟩
        have HER5 : Hid (errT (mayB (n5 : Int) last5 bs5.length) = 0) := Lib.hid (by rw [HWR.out.2.1]; rfl)
        rw [HER5.out]
        have F7 := Lib.hid (F6.out.below hb7)
        have HOY := Lib.hid (show OwB w7 _ vy cs by
          have h := hoy
          rw [HWR.out.2.1] at h
          have e : writeR true id5 (n5 : Int).toNat last5 bs5 = cs := HWR.out.1
          rw [e] at h
          exact h)
        clear hb7 F6 HY hY HY6 HO6 hoy HONE
        go_wp2_with fail
        refine (anchored_any _).mono ?_
        rintro e w8 ⟨rfl, hb8⟩
        have F8 := Lib.hid (F7.out.below hb8)
        have HOY8 := Lib.hid ((HOY.out.below hb8).rd F8.out.bu.ok F8.out.bu.len)
        clear hb8 F7 HOY
        go_wp2_with fail
        refine (same_bytes vy u cs cs w8 HOY8.out F8.out.bu).mono ?_
        rintro e w9 ⟨rfl, rfl⟩
        have HD9 : Hid (decide (cs = cs) = true) := Lib.hid (by simp)
        rw [HD9.out]
        go_wp2_with fail
        go_ret
        exact ⟨rfl, F8.out.bel⟩
theorem bytes_lawI (id n : Int) (last : Bool) (v u : Value) (bs cs : List Int) (w : World) (hv : BB w v bs) (hu : BB w u cs) (hid : 0 ≤ id ∧ id ≤ 18446744073709551615) :
    Calls Try.prog 6 #[partV id n last v, u] w fun e w' => e = .returned (.bool true) ∧ Below w.heap.size w w' := by
  obtain ⟨m, rfl⟩ := Int.eq_ofNat_of_zero_le hid.1
  exact bytes_law m n last v u bs cs w hv hu (by omega)
end Go.Proofs.Ytnhhibdkojgnlaa
