/- What is proved: the law WireBack returns true when it is called; conditions: the numbers are of their kind, the slices read as they are said to. -/
import Derived.Test.YtclnohifgjjngaaWireU
set_option linter.unusedSimpArgs false
set_option linter.unusedVariables false
namespace Go.Proofs.Ytclnohifgjjngaa
open Go.RowKit
set_option maxRecDepth 100000
set_option maxHeartbeats 8000000
theorem EvL.evs {w : World} {v : Value} {E : List Event} (h : EvL w v E) : ∀ e ∈ E, okB e.bs ∧ e.ok ∧ e.bs.length ≤ 140737488355328 := by
  obtain ⟨_, A, c, rfl, _, _, _, hi⟩ := h
  intro e he
  obtain ⟨i, hil, rfl⟩ := List.mem_iff_getElem.1 he
  obtain ⟨b, off, _, u, _, _, _, _, _, hu, hok⟩ := hi i hil
  have e1 : E.getD i zE = E[i] := by rw [List.getD_eq_getElem?_getD, List.getElem?_eq_getElem hil]; rfl
  rw [e1] at hu hok
  exact ⟨hu.ok, hok, hu.len⟩
theorem evS_ok {e : Event} (h : okB e.bs) (hk : e.ok) (hm : mayS e = true) : okB (evS e) := by
  have h4 := mayS_ok hm
  obtain ⟨hk0, _, _, ha⟩ := hk
  have h1 : okB [e.kind] := by intro x hx; obtain rfl := List.mem_singleton.1 hx; exact hk0
  refine h1.app ?_
  (try unfold tailS)
  split
  · exact (uintB_ok (by omega)).app (uintB_ok (by omega))
  · split
    · intro x hx; obtain rfl := List.mem_singleton.1 hx; exact ha
    · exact (uintB_ok (by omega)).app h
theorem evP_ok {E : List Event} (h : ∀ e ∈ E, okB e.bs ∧ e.ok ∧ e.bs.length ≤ 140737488355328) (hm : ∀ e ∈ E, mayS e = true) (hl : E.length ≤ 4096) : okB (evP E E.length) := by
  unfold evP
  rw [List.take_length]
  refine (uintB_ok (by omega)).app ?_
  intro x hx
  obtain ⟨e, he, hx⟩ := List.mem_flatMap.1 hx
  exact evS_ok (h e he).1 (h e he).2.1 (hm e he) x hx
theorem back_law (o n a t m : Nat) (v u : Value) (d : List Int) (E : List Event) (w : World) (hv : BB w v d) (hu : EvL w u E) (ho : o < 18446744073709551616) (hn : n < 18446744073709551616) (ha : a < 18446744073709551616) (ht : t < 18446744073709551616) (hm : m < 18446744073709551616) :
    Calls Try.prog 6 #[.agg #[.int .u64 o, .int .u64 n, .int .u64 a, .int .u64 t, v], u, .int .u64 m] w fun e w' => e = .returned (.bool true) ∧ Below w.heap.size w w' := by
  have hz : ∀ w, (zeroValue 34).run Try.prog w = .ok (.agg #[.int .u64 0, .int .u64 0, .int .u64 0, .int .u64 0, .slice none 0 0]) w := zero_ins
  obtain ⟨A, n9, cp, rfl⟩ : ∃ A n c, v = .slice A n c := by obtain ⟨_, _, A, c, h, _⟩ := hv; exact ⟨_, _, _, h⟩
  obtain ⟨A8, n8, cp8, rfl⟩ : ∃ A n c, u = .slice A n c := by obtain ⟨_, A, c, h, _⟩ := hu; exact ⟨_, _, _, h⟩
  obtain ⟨B, hB⟩ : ∃ B, w.heap.size = B := ⟨_, rfl⟩
  obtain ⟨V, hV⟩ : ∃ W, w.alloc (.cells #[.int .u64 o, .int .u64 n, .int .u64 a, .int .u64 t, .slice A n9 cp] 34) = W := ⟨_, rfl⟩
  have hXV : V.heap.size = B + 1 := by rw [← hV, ← hB]; simp
  have hbV : Below w.heap.size w V := by rw [← hV]; exact Below.alloc (Below.refl _ _) (Nat.le_refl _) _
  have HBV := Lib.hid hbV
  have HB0 : Hid (V.heap[B]? = some (.cells #[.int .u64 o, .int .u64 n, .int .u64 a, .int .u64 t, .slice A n9 cp] 34 (0, 0))) := Lib.hid (by rw [← hV, ← hB]; exact heap_alloc_last _ _)
  have HV := Lib.hid (hv.below hbV)
  have HU := Lib.hid (hu.below hbV)
  have HEV := Lib.hid hu.evs
  clear hbV hv hu
  obtain ⟨T, hT⟩ : ∃ T, uintB m = T := ⟨_, rfl⟩
  have HUI : Hid (∀ W, Calls Try.prog 12 #[.int .u64 m] W fun e w' => (∃ v, e = .returned v ∧ OwB w' W.heap.size v T) ∧ Below W.heap.size W w') := Lib.hid (fun W => by rw [← hT]; exact uint_any m W hm)
  obtain ⟨l, hl⟩ : ∃ l, T.length = l := ⟨_, rfl⟩
  have HT : Hid (okB T ∧ T.length = l ∧ l ≤ 11) := Lib.hid ⟨by rw [← hT]; exact uintB_ok hm, hl, by rw [← hl, ← hT]; exact uintB_len m⟩
  have HRU : Hid (∀ W v, BB W v (T ++ [255]) → Calls Try.prog 9 #[v] W fun e w' => e = .returned (.tuple #[.int .u64 m, .int .i64 l, .int .i64 0]) ∧ w' = W) := Lib.hid (fun W v hW => by
    have h1 := readuint_any v _ W hW
    have h2 := readS_form hm [255]
    rw [hT] at h2
    rw [h2, hl] at h1
    exact h1)
  clear hT hl
  by_cases hd : d.length ≤ 65536
  · obtain ⟨k1, k2, k3, k4, k5, k6⟩ := write_back (d := d) ho hn ha ht hd
    obtain ⟨bs, hbs⟩ : ∃ bs, writeS o n a t d = bs := ⟨_, rfl⟩
    rw [hbs] at k1 k2 k3 k4 k5 k6
    have HK : Hid (okB bs ∧ bs.length ≤ 140737488355328) := Lib.hid (by
      rw [← hbs]
      unfold writeS
      refine ⟨(pre5_ok _ ?_ 5).app HV.out.ok, ?_⟩
      · intro k
        match k with
        | 0 => exact ho
        | 1 => exact hn
        | 2 => exact ha
        | 3 => exact ht
        | 4 => show d.length < _; omega
        | k + 5 => simp
      · rw [List.length_append]
        have := pre5_len (fun k => [o, n, a, t, d.length].getD k 0) 5
        omega)
    have HWR : Hid (∀ W u, BB W u d → Calls Try.prog 15 #[.agg #[.int .u64 o, .int .u64 n, .int .u64 a, .int .u64 t, u]] W fun e w' => (∃ q, e = .returned (.tuple #[q, .int .i64 0]) ∧ OwB w' W.heap.size q bs) ∧ Below W.heap.size W w') := Lib.hid (fun W u hW => by
      have := write_any o n a t u d W hW ho hn ha ht
      rw [if_neg (by omega), if_neg (by omega), hbs] at this
      exact this)
    have HRP : Hid (∀ B0 e w', ReadPost bs B0 e w' → ∃ u, e = .returned (.tuple #[.agg #[.int .u64 o, .int .u64 n, .int .u64 a, .int .u64 t, u], .int .i64 0]) ∧ OwB w' B0 u d) := Lib.hid (by
      rintro B0 e w' ⟨u, h1, h2⟩
      rw [k1, if_pos rfl, xr_four, k2, k3, k4, k5] at h1
      unfold readD at k6
      rw [k6] at h2
      exact ⟨u, h1, h2⟩)
    have HDL : Hid (d.length ≤ 140737488355328) := Lib.hid (by omega)
    clear k1 k2 k3 k4 k5 k6 hbs hd
    by_cases hj : (writeEvS E).2 = 0
    · obtain ⟨f1, f2, f3, f4⟩ := writeEv_good hj
      have hbk := writeEv_back (fun e he => (HEV.out e he).1) hj
      rw [f2] at hbk
      have HPK : Hid (okB (evP E E.length) ∧ (evP E E.length).length ≤ 140737488355328) := Lib.hid ⟨evP_ok HEV.out f1 f4, by omega⟩
      have HWE : Hid (∀ W v, EvL W v E → Calls Try.prog 20 #[v] W fun e w' => (∃ q, e = .returned (.tuple #[q, .int .i64 0]) ∧ OwB w' W.heap.size q (evP E E.length)) ∧ Below W.heap.size W w') := Lib.hid (fun W v hW => by
        have := writeevents_any v E W hW
        rw [hj, f2] at this
        exact this)
      have HRE : Hid (∀ B0 e w', REPost (evP E E.length) B0 e w' → ∃ L P, e = .returned (.tuple #[L, .int .i64 0]) ∧ OwE w' B0 L P ∧ P.map HE.e = E ∧ P.length ≤ 4096) := Lib.hid (by
        rintro B0 e w' ⟨L, P, h1, h2, h3⟩
        rw [hbk] at h1 h3
        exact ⟨L, P, h1, h2, h3, by rw [← List.length_map (f := HE.e), h3]; exact f4⟩)
      clear f1 f2 f3 f4 hbk hj
      generalize evP E E.length = Pb at HPK HWE HRE
      go_enter Try.func6, Try.ntmps6
      go_wp2_with fail
      refine (HUI.out V).mono ?_
      rintro e w1 ⟨⟨x1, rfl, hox⟩, hb⟩
      have HO1 := Lib.hid hox
      have HB1 := Lib.hid hb
      have h1s := hb.size
      clear hox hb
      go_wp2_with (at_builtin; refine wpList_appB (base := V.heap.size) rfl _ _ rfl x1 (.slice (some ⟨w1.heap.size, 0, none⟩) 1 1) T [255] rfl ?_ rfl ?_ ?_ ?_ ?_)
      · exact HO1.out.below (by (repeat' (first | (with_reducible exact Below.refl _ _) | (with_reducible assumption) | (with_reducible refine Below.alloc ?_ ?_ _) | (with_reducible refine below_setRow ?_ ?_ _) | (with_reducible refine bl_drew ?_) | (with_reducible refine bl_drewN ?_ _) | (with_reducible refine Below.setCell ?_ ?_ _) | (with_reducible refine bl_then ?_ ?_ hb) | (with_reducible refine bl_then ?_ ?_ hb1) | (with_reducible refine bl_then ?_ ?_ hb2) | (with_reducible refine bl_then ?_ ?_ hb3) | (with_reducible refine bl_then ?_ ?_ hb4) | (with_reducible refine bl_then ?_ ?_ hb5) | (with_reducible refine bl_then ?_ ?_ hb6) | (with_reducible refine bl_then ?_ ?_ hb7) | (with_reducible refine bl_then ?_ ?_ hb8) | (with_reducible exact Nat.le_refl _) | omega | (simp only [World.size_alloc, World.size_setCell, World.size_drew, size_setRow]; omega) | (simp; omega) | (simp; done))))
      · exact BB.one w1 255 (by decide)
      · have := HT.out; simp; omega
      · simp; omega
      · intro v2 w2 h1 h2 h3
        have HO2 := Lib.hid h1
        have hbn : Below w1.heap.size w1 (w1.alloc (.cells #[.int .u8 255] 5)) := Below.alloc (Below.refl _ _) (Nat.le_refl _) _
        have HB2 := Lib.hid ((bl_then HB1.out HB1.out.size hbn).grown h2 (bl_then HB1.out HB1.out.size hbn).size (fun q hq => (World.ownsRow.lt HO1.out q hq).1))
        clear h1 h2 h3 hbn
        obtain ⟨A2, N2, C2, rfl⟩ := HO2.out.form
        go_wp2_with fail
        refine (HRU.out w2 _ (HO2.out.rd (HT.out.1.app (by intro x hx; obtain rfl := List.mem_singleton.1 hx; decide)) (by rw [List.length_append, List.length_singleton]; have := HT.out; omega))).mono ?_
        rintro e w3 ⟨rfl, hw3⟩
        subst w3
        go_wp2_with fail
        refine (HUI.out w2).mono ?_
        rintro e w3 ⟨⟨x3, rfl, hox⟩, hb⟩
        obtain ⟨A3, C3, rfl⟩ := OwB.slice hox
        rw [HT.out.2.1]
        have HB3 := Lib.hid (bl_then HB2.out HB2.out.size hb)
        have HR3 : Hid (w3.heap[B]? = some (.cells #[.int .u64 o, .int .u64 n, .int .u64 a, .int .u64 t, .slice A n9 cp] 34 (0, 0))) := Lib.hid ((HB3.out.block B (lt_of_heap HB0.out)).trans HB0.out)
        clear hox hb HB2 HB1 HO1 HO2
        go_wp2_with (with_reducible refine wpList_ldB (row := #[.int .u64 o, .int .u64 n, .int .u64 a, .int .u64 t, .slice A n9 cp]) insInfo insRow rfl (.tmp 3) rfl rfl HR3.out ?_)
        refine (HWR.out w3 _ (HV.out.below HB3.out)).mono ?_
        rintro e w4 ⟨⟨q, rfl, hoq⟩, hb⟩
        have HOQ := Lib.hid hoq
        have HB4 := Lib.hid (bl_then HB3.out HB3.out.size hb)
        have HR4 : Hid (w4.heap[B]? = some (.cells #[.int .u64 o, .int .u64 n, .int .u64 a, .int .u64 t, .slice A n9 cp] 34 (0, 0))) := Lib.hid ((HB4.out.block B (lt_of_heap HB0.out)).trans HB0.out)
        obtain ⟨AQ, CQ, hq⟩ := OwB.slice hoq
        obtain ⟨lq, hlq⟩ : ∃ l, bs.length = l := ⟨_, rfl⟩
        rw [hlq] at hq
        subst hq
        clear hoq hb hlq HR3 HB3
        go_wp2_with fail
        refine (read_any _ bs w4 (HOQ.out.rd HK.out.1 HK.out.2)).mono ?_
        rintro e w5 ⟨hr, hb⟩
        obtain ⟨y, rfl, hoy⟩ := HRP.out _ _ _ hr
        obtain ⟨Ay, cy, hy⟩ := OwB.slice hoy
        obtain ⟨ly, hly⟩ : ∃ l, d.length = l := ⟨_, rfl⟩
        rw [hly] at hy
        subst hy
        have HOY := Lib.hid hoy
        have HB5 := Lib.hid (bl_then HB4.out HB4.out.size hb)
        have HR5 : Hid (w5.heap[B]? = some (.cells #[.int .u64 o, .int .u64 n, .int .u64 a, .int .u64 t, .slice A n9 cp] 34 (0, 0))) := Lib.hid ((HB5.out.block B (lt_of_heap HB0.out)).trans HB0.out)
        obtain ⟨X, hX⟩ : ∃ X, w5.heap.size = X := ⟨_, rfl⟩
        have HX0 : Hid ((w5.alloc (.cells #[.int .u64 0, .int .u64 0, .int .u64 0, .int .u64 0, .slice none 0 0] 34)).heap[X]? = some (.cells #[.int .u64 0, .int .u64 0, .int .u64 0, .int .u64 0, .slice none 0 0] 34 (0, 0))) := Lib.hid (by rw [← hX]; exact heap_alloc_last _ _)
        obtain ⟨w6, hw6⟩ : ∃ W, (w5.alloc (.cells #[.int .u64 0, .int .u64 0, .int .u64 0, .int .u64 0, .slice none 0 0] 34)).setRow X #[.int .u64 o, .int .u64 n, .int .u64 a, .int .u64 t, .slice Ay ly cy] = W := ⟨_, rfl⟩
        have hb6 : Below w5.heap.size w5 w6 := by rw [← hw6, ← hX]; exact below_setRow (Below.alloc (Below.refl _ _) (Nat.le_refl _) _) (Nat.le_refl _) _
        have HX6 : Hid (w6.heap[X]? = some (.cells #[.int .u64 o, .int .u64 n, .int .u64 a, .int .u64 t, .slice Ay ly cy] 34 (0, 0))) := Lib.hid (by rw [← hw6]; exact setRow_heap _ _ _ _ _ _ HX0.out)
        have HR6 := Lib.hid ((hb6.block B (lt_of_heap HR5.out)).trans HR5.out)
        have HOY6 := Lib.hid (HOY.out.below hb6)
        have HB6 := Lib.hid (bl_then HB5.out HB5.out.size hb6)
        clear hr hb hoy hb6 HOY HB5 HR5 HB4 HR4 hly
        go_wp2_with (first | (with_reducible refine wpList_stB (row := #[.int .u64 o, .int .u64 n, .int .u64 a, .int .u64 t, .slice Ay ly cy]) insInfo (by simp [Value.oneCell']) rfl (.tmp 12) (.tmp 51) rfl rfl rfl HX0.out rfl ?_) | (with_reducible refine wpList_ldBh (row := #[.int .u64 o, .int .u64 n, .int .u64 a, .int .u64 t, .slice A n9 cp]) insInfo insRow (by simp [Region.wanted, yielded, Act.put]) (.tmp 3) rfl rfl HR6.out ?_) | (with_reducible refine wpList_ldBh (row := #[.int .u64 o, .int .u64 n, .int .u64 a, .int .u64 t, .slice Ay ly cy]) insInfo insRow (by simp [Region.wanted, yielded, Act.put]) (.tmp 12) rfl rfl HX6.out ?_))
        try rw [hw6]
        refine (sameI_any o n a t _ _ d w6 (HV.out.below HB6.out) (HOY6.out.rd HV.out.ok HDL.out)).mono ?_
        rintro e w7 ⟨rfl, hb⟩
        have HB7 := Lib.hid (bl_then HB6.out HB6.out.size hb)
        clear hb hw6 hX HX0 HX6 HR6 HB6
        go_wp2_with fail
        refine (HWE.out w7 _ (HU.out.below HB7.out)).mono ?_
        rintro e w8 ⟨⟨q8, rfl, hoq⟩, hb⟩
        have HO8 := Lib.hid hoq
        have HB8 := Lib.hid (bl_then HB7.out HB7.out.size hb)
        obtain ⟨A8q, n8q, c8q, rfl⟩ := hoq.form
        clear hoq hb
        go_wp2_with fail
        refine (readevents_any _ Pb w8 (HO8.out.rd HPK.out.1 HPK.out.2)).mono ?_
        rintro e w9 ⟨hr, hb⟩
        obtain ⟨L, P, rfl, ho9, hp, hpl⟩ := HRE.out _ _ _ hr
        have hev := ho9.evl (by omega)
        rw [hp] at hev
        have HEL := Lib.hid hev
        obtain ⟨LA, LC, hL⟩ := ho9.form
        obtain ⟨LN, hLN⟩ : ∃ n, P.length = n := ⟨_, rfl⟩
        rw [hLN] at hL
        subst hL
        have HB9 := Lib.hid (bl_then HB8.out HB8.out.size hb)
        clear ho9 hp hr hb hLN hev hpl
        go_wp2_with fail
        refine (lists_any E _ _ w9 (HU.out.below HB9.out) HEL.out).mono ?_
        rintro e wA ⟨rfl, hb⟩
        have HBA := Lib.hid (bl_then HB9.out HB9.out.size hb)
        clear hb
        go_wp2_with fail
        refine (anchored_any _).mono ?_
        rintro e wZ ⟨rfl, hb⟩
        have HBZ := Lib.hid (bl_then HBA.out HBA.out.size hb)
        clear hb
        go_wp2_with fail
        go_ret
        exact ⟨rfl, bl_then HBV.out HBV.out.size HBZ.out⟩
    · obtain ⟨er3, hy2, hy3⟩ : ∃ er3, er3 ≠ 0 ∧ (writeEvS E).2 = er3 := ⟨_, hj, rfl⟩
      have HWE : Hid (∀ W v, EvL W v E → Calls Try.prog 20 #[v] W fun e w' => (∃ q, e = .returned (.tuple #[q, .int .i64 er3]) ∧ OwB w' W.heap.size q (writeEvS E).1) ∧ Below W.heap.size W w') := Lib.hid (fun W v hW => by
        have := writeevents_any v E W hW
        rw [hy3] at this
        exact this)
      clear hj hy3
      have hyi : ¬ (er3 : Int) = 0 := by omega
      have hyi2 : ((er3 : Int) == 0) = false := by simpa using hy2
      go_enter Try.func6, Try.ntmps6
      go_wp2_with fail
      refine (HUI.out V).mono ?_
      rintro e w1 ⟨⟨x1, rfl, hox⟩, hb⟩
      have HO1 := Lib.hid hox
      have HB1 := Lib.hid hb
      have h1s := hb.size
      clear hox hb
      go_wp2_with (at_builtin; refine wpList_appB (base := V.heap.size) rfl _ _ rfl x1 (.slice (some ⟨w1.heap.size, 0, none⟩) 1 1) T [255] rfl ?_ rfl ?_ ?_ ?_ ?_)
      · exact HO1.out.below (by (repeat' (first | (with_reducible exact Below.refl _ _) | (with_reducible assumption) | (with_reducible refine Below.alloc ?_ ?_ _) | (with_reducible refine below_setRow ?_ ?_ _) | (with_reducible refine bl_drew ?_) | (with_reducible refine bl_drewN ?_ _) | (with_reducible refine Below.setCell ?_ ?_ _) | (with_reducible refine bl_then ?_ ?_ hb) | (with_reducible refine bl_then ?_ ?_ hb1) | (with_reducible refine bl_then ?_ ?_ hb2) | (with_reducible refine bl_then ?_ ?_ hb3) | (with_reducible refine bl_then ?_ ?_ hb4) | (with_reducible refine bl_then ?_ ?_ hb5) | (with_reducible refine bl_then ?_ ?_ hb6) | (with_reducible refine bl_then ?_ ?_ hb7) | (with_reducible refine bl_then ?_ ?_ hb8) | (with_reducible exact Nat.le_refl _) | omega | (simp only [World.size_alloc, World.size_setCell, World.size_drew, size_setRow]; omega) | (simp; omega) | (simp; done))))
      · exact BB.one w1 255 (by decide)
      · have := HT.out; simp; omega
      · simp; omega
      · intro v2 w2 h1 h2 h3
        have HO2 := Lib.hid h1
        have hbn : Below w1.heap.size w1 (w1.alloc (.cells #[.int .u8 255] 5)) := Below.alloc (Below.refl _ _) (Nat.le_refl _) _
        have HB2 := Lib.hid ((bl_then HB1.out HB1.out.size hbn).grown h2 (bl_then HB1.out HB1.out.size hbn).size (fun q hq => (World.ownsRow.lt HO1.out q hq).1))
        clear h1 h2 h3 hbn
        obtain ⟨A2, N2, C2, rfl⟩ := HO2.out.form
        go_wp2_with fail
        refine (HRU.out w2 _ (HO2.out.rd (HT.out.1.app (by intro x hx; obtain rfl := List.mem_singleton.1 hx; decide)) (by rw [List.length_append, List.length_singleton]; have := HT.out; omega))).mono ?_
        rintro e w3 ⟨rfl, hw3⟩
        subst w3
        go_wp2_with fail
        refine (HUI.out w2).mono ?_
        rintro e w3 ⟨⟨x3, rfl, hox⟩, hb⟩
        obtain ⟨A3, C3, rfl⟩ := OwB.slice hox
        rw [HT.out.2.1]
        have HB3 := Lib.hid (bl_then HB2.out HB2.out.size hb)
        have HR3 : Hid (w3.heap[B]? = some (.cells #[.int .u64 o, .int .u64 n, .int .u64 a, .int .u64 t, .slice A n9 cp] 34 (0, 0))) := Lib.hid ((HB3.out.block B (lt_of_heap HB0.out)).trans HB0.out)
        clear hox hb HB2 HB1 HO1 HO2
        go_wp2_with (with_reducible refine wpList_ldB (row := #[.int .u64 o, .int .u64 n, .int .u64 a, .int .u64 t, .slice A n9 cp]) insInfo insRow rfl (.tmp 3) rfl rfl HR3.out ?_)
        refine (HWR.out w3 _ (HV.out.below HB3.out)).mono ?_
        rintro e w4 ⟨⟨q, rfl, hoq⟩, hb⟩
        have HOQ := Lib.hid hoq
        have HB4 := Lib.hid (bl_then HB3.out HB3.out.size hb)
        have HR4 : Hid (w4.heap[B]? = some (.cells #[.int .u64 o, .int .u64 n, .int .u64 a, .int .u64 t, .slice A n9 cp] 34 (0, 0))) := Lib.hid ((HB4.out.block B (lt_of_heap HB0.out)).trans HB0.out)
        obtain ⟨AQ, CQ, hq⟩ := OwB.slice hoq
        obtain ⟨lq, hlq⟩ : ∃ l, bs.length = l := ⟨_, rfl⟩
        rw [hlq] at hq
        subst hq
        clear hoq hb hlq HR3 HB3
        go_wp2_with fail
        refine (read_any _ bs w4 (HOQ.out.rd HK.out.1 HK.out.2)).mono ?_
        rintro e w5 ⟨hr, hb⟩
        obtain ⟨y, rfl, hoy⟩ := HRP.out _ _ _ hr
        obtain ⟨Ay, cy, hy⟩ := OwB.slice hoy
        obtain ⟨ly, hly⟩ : ∃ l, d.length = l := ⟨_, rfl⟩
        rw [hly] at hy
        subst hy
        have HOY := Lib.hid hoy
        have HB5 := Lib.hid (bl_then HB4.out HB4.out.size hb)
        have HR5 : Hid (w5.heap[B]? = some (.cells #[.int .u64 o, .int .u64 n, .int .u64 a, .int .u64 t, .slice A n9 cp] 34 (0, 0))) := Lib.hid ((HB5.out.block B (lt_of_heap HB0.out)).trans HB0.out)
        obtain ⟨X, hX⟩ : ∃ X, w5.heap.size = X := ⟨_, rfl⟩
        have HX0 : Hid ((w5.alloc (.cells #[.int .u64 0, .int .u64 0, .int .u64 0, .int .u64 0, .slice none 0 0] 34)).heap[X]? = some (.cells #[.int .u64 0, .int .u64 0, .int .u64 0, .int .u64 0, .slice none 0 0] 34 (0, 0))) := Lib.hid (by rw [← hX]; exact heap_alloc_last _ _)
        obtain ⟨w6, hw6⟩ : ∃ W, (w5.alloc (.cells #[.int .u64 0, .int .u64 0, .int .u64 0, .int .u64 0, .slice none 0 0] 34)).setRow X #[.int .u64 o, .int .u64 n, .int .u64 a, .int .u64 t, .slice Ay ly cy] = W := ⟨_, rfl⟩
        have hb6 : Below w5.heap.size w5 w6 := by rw [← hw6, ← hX]; exact below_setRow (Below.alloc (Below.refl _ _) (Nat.le_refl _) _) (Nat.le_refl _) _
        have HX6 : Hid (w6.heap[X]? = some (.cells #[.int .u64 o, .int .u64 n, .int .u64 a, .int .u64 t, .slice Ay ly cy] 34 (0, 0))) := Lib.hid (by rw [← hw6]; exact setRow_heap _ _ _ _ _ _ HX0.out)
        have HR6 := Lib.hid ((hb6.block B (lt_of_heap HR5.out)).trans HR5.out)
        have HOY6 := Lib.hid (HOY.out.below hb6)
        have HB6 := Lib.hid (bl_then HB5.out HB5.out.size hb6)
        clear hr hb hoy hb6 HOY HB5 HR5 HB4 HR4 hly
        go_wp2_with (first | (with_reducible refine wpList_stB (row := #[.int .u64 o, .int .u64 n, .int .u64 a, .int .u64 t, .slice Ay ly cy]) insInfo (by simp [Value.oneCell']) rfl (.tmp 12) (.tmp 51) rfl rfl rfl HX0.out rfl ?_) | (with_reducible refine wpList_ldBh (row := #[.int .u64 o, .int .u64 n, .int .u64 a, .int .u64 t, .slice A n9 cp]) insInfo insRow (by simp [Region.wanted, yielded, Act.put]) (.tmp 3) rfl rfl HR6.out ?_) | (with_reducible refine wpList_ldBh (row := #[.int .u64 o, .int .u64 n, .int .u64 a, .int .u64 t, .slice Ay ly cy]) insInfo insRow (by simp [Region.wanted, yielded, Act.put]) (.tmp 12) rfl rfl HX6.out ?_))
        try rw [hw6]
        refine (sameI_any o n a t _ _ d w6 (HV.out.below HB6.out) (HOY6.out.rd HV.out.ok HDL.out)).mono ?_
        rintro e w7 ⟨rfl, hb⟩
        have HB7 := Lib.hid (bl_then HB6.out HB6.out.size hb)
        clear hb hw6 hX HX0 HX6 HR6 HB6
        go_wp2_with fail
        refine (HWE.out w7 _ (HU.out.below HB7.out)).mono ?_
        rintro e w8 ⟨⟨q8, rfl, hoq⟩, hb⟩
        have HO8 := Lib.hid hoq
        have HB8 := Lib.hid (bl_then HB7.out HB7.out.size hb)
        obtain ⟨A8q, n8q, c8q, rfl⟩ := hoq.form
        clear hoq hb
        go_wp2_with fail
        refine (anchored_any _).mono ?_
        rintro e wZ ⟨rfl, hb⟩
        have HBZ := Lib.hid (bl_then HB8.out HB8.out.size hb)
        clear hb
        go_wp2_with fail
        go_ret
        exact ⟨rfl, bl_then HBV.out HBV.out.size HBZ.out⟩
  · have HWR : Hid (∀ W u, BB W u d → Calls Try.prog 15 #[.agg #[.int .u64 o, .int .u64 n, .int .u64 a, .int .u64 t, u]] W fun e w' => (∃ q, e = .returned (.tuple #[q, .int .i64 2]) ∧ OwB w' W.heap.size q []) ∧ Below W.heap.size W w') := Lib.hid (fun W u hW => by
      have := write_any o n a t u d W hW ho hn ha ht
      rw [if_pos (by omega), if_pos (by omega)] at this
      exact this)
    clear hd
    by_cases hj : (writeEvS E).2 = 0
    · obtain ⟨f1, f2, f3, f4⟩ := writeEv_good hj
      have hbk := writeEv_back (fun e he => (HEV.out e he).1) hj
      rw [f2] at hbk
      have HPK : Hid (okB (evP E E.length) ∧ (evP E E.length).length ≤ 140737488355328) := Lib.hid ⟨evP_ok HEV.out f1 f4, by omega⟩
      have HWE : Hid (∀ W v, EvL W v E → Calls Try.prog 20 #[v] W fun e w' => (∃ q, e = .returned (.tuple #[q, .int .i64 0]) ∧ OwB w' W.heap.size q (evP E E.length)) ∧ Below W.heap.size W w') := Lib.hid (fun W v hW => by
        have := writeevents_any v E W hW
        rw [hj, f2] at this
        exact this)
      have HRE : Hid (∀ B0 e w', REPost (evP E E.length) B0 e w' → ∃ L P, e = .returned (.tuple #[L, .int .i64 0]) ∧ OwE w' B0 L P ∧ P.map HE.e = E ∧ P.length ≤ 4096) := Lib.hid (by
        rintro B0 e w' ⟨L, P, h1, h2, h3⟩
        rw [hbk] at h1 h3
        exact ⟨L, P, h1, h2, h3, by rw [← List.length_map (f := HE.e), h3]; exact f4⟩)
      clear f1 f2 f3 f4 hbk hj
      generalize evP E E.length = Pb at HPK HWE HRE
      go_enter Try.func6, Try.ntmps6
      go_wp2_with fail
      refine (HUI.out V).mono ?_
      rintro e w1 ⟨⟨x1, rfl, hox⟩, hb⟩
      have HO1 := Lib.hid hox
      have HB1 := Lib.hid hb
      have h1s := hb.size
      clear hox hb
      go_wp2_with (at_builtin; refine wpList_appB (base := V.heap.size) rfl _ _ rfl x1 (.slice (some ⟨w1.heap.size, 0, none⟩) 1 1) T [255] rfl ?_ rfl ?_ ?_ ?_ ?_)
      · exact HO1.out.below (by (repeat' (first | (with_reducible exact Below.refl _ _) | (with_reducible assumption) | (with_reducible refine Below.alloc ?_ ?_ _) | (with_reducible refine below_setRow ?_ ?_ _) | (with_reducible refine bl_drew ?_) | (with_reducible refine bl_drewN ?_ _) | (with_reducible refine Below.setCell ?_ ?_ _) | (with_reducible refine bl_then ?_ ?_ hb) | (with_reducible refine bl_then ?_ ?_ hb1) | (with_reducible refine bl_then ?_ ?_ hb2) | (with_reducible refine bl_then ?_ ?_ hb3) | (with_reducible refine bl_then ?_ ?_ hb4) | (with_reducible refine bl_then ?_ ?_ hb5) | (with_reducible refine bl_then ?_ ?_ hb6) | (with_reducible refine bl_then ?_ ?_ hb7) | (with_reducible refine bl_then ?_ ?_ hb8) | (with_reducible exact Nat.le_refl _) | omega | (simp only [World.size_alloc, World.size_setCell, World.size_drew, size_setRow]; omega) | (simp; omega) | (simp; done))))
      · exact BB.one w1 255 (by decide)
      · have := HT.out; simp; omega
      · simp; omega
      · intro v2 w2 h1 h2 h3
        have HO2 := Lib.hid h1
        have hbn : Below w1.heap.size w1 (w1.alloc (.cells #[.int .u8 255] 5)) := Below.alloc (Below.refl _ _) (Nat.le_refl _) _
        have HB2 := Lib.hid ((bl_then HB1.out HB1.out.size hbn).grown h2 (bl_then HB1.out HB1.out.size hbn).size (fun q hq => (World.ownsRow.lt HO1.out q hq).1))
        clear h1 h2 h3 hbn
        obtain ⟨A2, N2, C2, rfl⟩ := HO2.out.form
        go_wp2_with fail
        refine (HRU.out w2 _ (HO2.out.rd (HT.out.1.app (by intro x hx; obtain rfl := List.mem_singleton.1 hx; decide)) (by rw [List.length_append, List.length_singleton]; have := HT.out; omega))).mono ?_
        rintro e w3 ⟨rfl, hw3⟩
        subst w3
        go_wp2_with fail
        refine (HUI.out w2).mono ?_
        rintro e w3 ⟨⟨x3, rfl, hox⟩, hb⟩
        obtain ⟨A3, C3, rfl⟩ := OwB.slice hox
        rw [HT.out.2.1]
        have HB3 := Lib.hid (bl_then HB2.out HB2.out.size hb)
        have HR3 : Hid (w3.heap[B]? = some (.cells #[.int .u64 o, .int .u64 n, .int .u64 a, .int .u64 t, .slice A n9 cp] 34 (0, 0))) := Lib.hid ((HB3.out.block B (lt_of_heap HB0.out)).trans HB0.out)
        clear hox hb HB2 HB1 HO1 HO2
        go_wp2_with (with_reducible refine wpList_ldB (row := #[.int .u64 o, .int .u64 n, .int .u64 a, .int .u64 t, .slice A n9 cp]) insInfo insRow rfl (.tmp 3) rfl rfl HR3.out ?_)
        refine (HWR.out w3 _ (HV.out.below HB3.out)).mono ?_
        rintro e w4 ⟨⟨q, rfl, hoq⟩, hb⟩
        have HOQ := Lib.hid hoq
        have HB4 := Lib.hid (bl_then HB3.out HB3.out.size hb)
        have HR4 : Hid (w4.heap[B]? = some (.cells #[.int .u64 o, .int .u64 n, .int .u64 a, .int .u64 t, .slice A n9 cp] 34 (0, 0))) := Lib.hid ((HB4.out.block B (lt_of_heap HB0.out)).trans HB0.out)
        obtain ⟨AQ, CQ, hq⟩ := OwB.slice hoq
        obtain ⟨lq, hlq⟩ : ∃ l, (0 : Nat) = l := ⟨_, rfl⟩
        simp only [List.length_nil] at hq
        subst hq
        clear hoq hb hlq HR3 HB3
        go_wp2_with fail
        refine (HWE.out w4 _ (HU.out.below HB4.out)).mono ?_
        rintro e w8 ⟨⟨q8, rfl, hoq⟩, hb⟩
        have HO8 := Lib.hid hoq
        have HB8 := Lib.hid (bl_then HB4.out HB4.out.size hb)
        obtain ⟨A8q, n8q, c8q, rfl⟩ := hoq.form
        clear hoq hb
        go_wp2_with fail
        refine (readevents_any _ Pb w8 (HO8.out.rd HPK.out.1 HPK.out.2)).mono ?_
        rintro e w9 ⟨hr, hb⟩
        obtain ⟨L, P, rfl, ho9, hp, hpl⟩ := HRE.out _ _ _ hr
        have hev := ho9.evl (by omega)
        rw [hp] at hev
        have HEL := Lib.hid hev
        obtain ⟨LA, LC, hL⟩ := ho9.form
        obtain ⟨LN, hLN⟩ : ∃ n, P.length = n := ⟨_, rfl⟩
        rw [hLN] at hL
        subst hL
        have HB9 := Lib.hid (bl_then HB8.out HB8.out.size hb)
        clear ho9 hp hr hb hLN hev hpl
        go_wp2_with fail
        refine (lists_any E _ _ w9 (HU.out.below HB9.out) HEL.out).mono ?_
        rintro e wA ⟨rfl, hb⟩
        have HBA := Lib.hid (bl_then HB9.out HB9.out.size hb)
        clear hb
        go_wp2_with fail
        refine (anchored_any _).mono ?_
        rintro e wZ ⟨rfl, hb⟩
        have HBZ := Lib.hid (bl_then HBA.out HBA.out.size hb)
        clear hb
        go_wp2_with fail
        go_ret
        exact ⟨rfl, bl_then HBV.out HBV.out.size HBZ.out⟩
    · obtain ⟨er3, hy2, hy3⟩ : ∃ er3, er3 ≠ 0 ∧ (writeEvS E).2 = er3 := ⟨_, hj, rfl⟩
      have HWE : Hid (∀ W v, EvL W v E → Calls Try.prog 20 #[v] W fun e w' => (∃ q, e = .returned (.tuple #[q, .int .i64 er3]) ∧ OwB w' W.heap.size q (writeEvS E).1) ∧ Below W.heap.size W w') := Lib.hid (fun W v hW => by
        have := writeevents_any v E W hW
        rw [hy3] at this
        exact this)
      clear hj hy3
      have hyi : ¬ (er3 : Int) = 0 := by omega
      have hyi2 : ((er3 : Int) == 0) = false := by simpa using hy2
      go_enter Try.func6, Try.ntmps6
      go_wp2_with fail
      refine (HUI.out V).mono ?_
      rintro e w1 ⟨⟨x1, rfl, hox⟩, hb⟩
      have HO1 := Lib.hid hox
      have HB1 := Lib.hid hb
      have h1s := hb.size
      clear hox hb
      go_wp2_with (at_builtin; refine wpList_appB (base := V.heap.size) rfl _ _ rfl x1 (.slice (some ⟨w1.heap.size, 0, none⟩) 1 1) T [255] rfl ?_ rfl ?_ ?_ ?_ ?_)
      · exact HO1.out.below (by (repeat' (first | (with_reducible exact Below.refl _ _) | (with_reducible assumption) | (with_reducible refine Below.alloc ?_ ?_ _) | (with_reducible refine below_setRow ?_ ?_ _) | (with_reducible refine bl_drew ?_) | (with_reducible refine bl_drewN ?_ _) | (with_reducible refine Below.setCell ?_ ?_ _) | (with_reducible refine bl_then ?_ ?_ hb) | (with_reducible refine bl_then ?_ ?_ hb1) | (with_reducible refine bl_then ?_ ?_ hb2) | (with_reducible refine bl_then ?_ ?_ hb3) | (with_reducible refine bl_then ?_ ?_ hb4) | (with_reducible refine bl_then ?_ ?_ hb5) | (with_reducible refine bl_then ?_ ?_ hb6) | (with_reducible refine bl_then ?_ ?_ hb7) | (with_reducible refine bl_then ?_ ?_ hb8) | (with_reducible exact Nat.le_refl _) | omega | (simp only [World.size_alloc, World.size_setCell, World.size_drew, size_setRow]; omega) | (simp; omega) | (simp; done))))
      · exact BB.one w1 255 (by decide)
      · have := HT.out; simp; omega
      · simp; omega
      · intro v2 w2 h1 h2 h3
        have HO2 := Lib.hid h1
        have hbn : Below w1.heap.size w1 (w1.alloc (.cells #[.int .u8 255] 5)) := Below.alloc (Below.refl _ _) (Nat.le_refl _) _
        have HB2 := Lib.hid ((bl_then HB1.out HB1.out.size hbn).grown h2 (bl_then HB1.out HB1.out.size hbn).size (fun q hq => (World.ownsRow.lt HO1.out q hq).1))
        clear h1 h2 h3 hbn
        obtain ⟨A2, N2, C2, rfl⟩ := HO2.out.form
        go_wp2_with fail
        refine (HRU.out w2 _ (HO2.out.rd (HT.out.1.app (by intro x hx; obtain rfl := List.mem_singleton.1 hx; decide)) (by rw [List.length_append, List.length_singleton]; have := HT.out; omega))).mono ?_
        rintro e w3 ⟨rfl, hw3⟩
        subst w3
        go_wp2_with fail
        refine (HUI.out w2).mono ?_
        rintro e w3 ⟨⟨x3, rfl, hox⟩, hb⟩
        obtain ⟨A3, C3, rfl⟩ := OwB.slice hox
        rw [HT.out.2.1]
        have HB3 := Lib.hid (bl_then HB2.out HB2.out.size hb)
        have HR3 : Hid (w3.heap[B]? = some (.cells #[.int .u64 o, .int .u64 n, .int .u64 a, .int .u64 t, .slice A n9 cp] 34 (0, 0))) := Lib.hid ((HB3.out.block B (lt_of_heap HB0.out)).trans HB0.out)
        clear hox hb HB2 HB1 HO1 HO2
        go_wp2_with (with_reducible refine wpList_ldB (row := #[.int .u64 o, .int .u64 n, .int .u64 a, .int .u64 t, .slice A n9 cp]) insInfo insRow rfl (.tmp 3) rfl rfl HR3.out ?_)
        refine (HWR.out w3 _ (HV.out.below HB3.out)).mono ?_
        rintro e w4 ⟨⟨q, rfl, hoq⟩, hb⟩
        have HOQ := Lib.hid hoq
        have HB4 := Lib.hid (bl_then HB3.out HB3.out.size hb)
        have HR4 : Hid (w4.heap[B]? = some (.cells #[.int .u64 o, .int .u64 n, .int .u64 a, .int .u64 t, .slice A n9 cp] 34 (0, 0))) := Lib.hid ((HB4.out.block B (lt_of_heap HB0.out)).trans HB0.out)
        obtain ⟨AQ, CQ, hq⟩ := OwB.slice hoq
        obtain ⟨lq, hlq⟩ : ∃ l, (0 : Nat) = l := ⟨_, rfl⟩
        simp only [List.length_nil] at hq
        subst hq
        clear hoq hb hlq HR3 HB3
        go_wp2_with fail
        refine (HWE.out w4 _ (HU.out.below HB4.out)).mono ?_
        rintro e w8 ⟨⟨q8, rfl, hoq⟩, hb⟩
        have HO8 := Lib.hid hoq
        have HB8 := Lib.hid (bl_then HB4.out HB4.out.size hb)
        obtain ⟨A8q, n8q, c8q, rfl⟩ := hoq.form
        clear hoq hb
        go_wp2_with fail
        refine (anchored_any _).mono ?_
        rintro e wZ ⟨rfl, hb⟩
        have HBZ := Lib.hid (bl_then HB8.out HB8.out.size hb)
        clear hb
        go_wp2_with fail
        go_ret
        exact ⟨rfl, bl_then HBV.out HBV.out.size HBZ.out⟩
theorem back_lawI (o n a t : Nat) (m : Int) (v u : Value) (d : List Int) (E : List Event) (w : World) (hv : BB w v d) (hu : EvL w u E) (ho : o < 18446744073709551616) (hn : n < 18446744073709551616) (ha : a < 18446744073709551616) (ht : t < 18446744073709551616) (hm : 0 ≤ m ∧ m < 18446744073709551616) :
    Calls Try.prog 6 #[.agg #[.int .u64 o, .int .u64 n, .int .u64 a, .int .u64 t, v], u, .int .u64 m] w fun e w' => e = .returned (.bool true) ∧ Below w.heap.size w w' := by
  obtain ⟨k, rfl⟩ := Int.eq_ofNat_of_zero_le hm.1
  exact back_law o n a t k v u d E w hv hu ho hn ha ht (by omega)
end Go.Proofs.Ytclnohifgjjngaa
