/- What is proved: the law EventsTurn returns true when it is called; conditions: the arguments read as they are said to. -/
import Derived.Test.YtgkiedbefogklaaEvE
set_option linter.unusedSimpArgs false
set_option linter.unusedVariables false
namespace Go.Proofs.Ytgkiedbefogklaa
open Go.RowKit
set_option maxRecDepth 100000
set_option maxHeartbeats 8000000
theorem diffS_ok {w : World} {v : Value} {A B : List Event} (h : EvL w v B) : okB (diffS A B).1 ∧ (diffS A B).1.length ≤ 140737488355328 := by
  unfold diffS
  by_cases h1 : mayL A = false ∨ mayL B = false
  · rw [if_pos h1]; exact ⟨okB.nil, by simp⟩
  · rw [if_neg h1]
    by_cases h2 : beginsL A B = false
    · rw [if_pos h2]; exact ⟨okB.nil, by simp⟩
    · rw [if_neg h2]
      have h3 : beginsL A B = true := by simpa using h2
      have h4 := beginsL_len h3
      obtain ⟨X, c, rfl⟩ : ∃ X c, v = .slice X B.length c := by obtain ⟨_, X, c, h, _⟩ := h; exact ⟨_, _, h⟩
      exact writeEvS_ok (h.rest h4)
theorem applyS_len {A : List Event} {ds : List Int} (h : okB ds) : (applyS A ds).2.length ≤ 8192 := by
  have hf := (readEv_few h).1
  unfold applyS
  by_cases h1 : mayL A = false
  · rw [if_pos h1]; simp
  · rw [if_neg h1]
    by_cases h2 : (readEvS ds).1 ≠ 0
    · rw [if_pos h2]; simp
    · rw [if_neg h2]
      by_cases h3 : 4096 < A.length + (readEvS ds).2.length
      · rw [if_pos h3]; simp
      · rw [if_neg h3, List.length_append]; omega
theorem sinceS_len {E : List Event} {k : Int} : (sinceS E k).2.length ≤ 4096 := by
  unfold sinceS
  by_cases h1 : mayL E = false ∨ k < 0 ∨ (E.length : Int) < k
  · rw [if_pos h1]; simp
  · rw [if_neg h1]
    have h2 : mayL E = true := by
      cases hm : mayL E with
      | true => rfl
      | false => exact absurd (.inl hm) h1
    have := mayL_len h2
    rw [List.length_drop]
    omega
theorem turn_law (A B : List Event) (u v xd : Value) (k : Int) (ds : List Int) (w : World) (hu : EvL w u A) (hv : EvL w v B) (hd : BB w xd ds) :
    Calls Try.prog 4 #[u, v, .agg #[xd, .int .i64 k]] w fun e w' => e = .returned (.bool true) ∧ Below w.heap.size w w' := by
  obtain ⟨P, hP⟩ : ∃ P, (diffS A B).1 = P := ⟨_, rfl⟩
  obtain ⟨e1, he1⟩ : ∃ P, (diffS A B).2 = P := ⟨_, rfl⟩
  obtain ⟨F, hF⟩ : ∃ P, (applyS A ds).2 = P := ⟨_, rfl⟩
  obtain ⟨e2, he2⟩ : ∃ P, (applyS A ds).1 = P := ⟨_, rfl⟩
  obtain ⟨G, hG⟩ : ∃ P, (sinceS B k).2 = P := ⟨_, rfl⟩
  obtain ⟨e3, he3⟩ : ∃ P, (sinceS B k).1 = P := ⟨_, rfl⟩
  obtain ⟨ma, hma⟩ : ∃ P, mayL A = P := ⟨_, rfl⟩
  obtain ⟨bg, hbg⟩ : ∃ P, beginsL A B = P := ⟨_, rfl⟩
  have HPK : Hid (okB P ∧ P.length ≤ 140737488355328) := Lib.hid (by rw [← hP]; exact diffS_ok hv)
  have HFL : Hid (F.length ≤ 8192 ∧ G.length ≤ 4096) := Lib.hid ⟨by rw [← hF]; exact applyS_len hd.ok, by rw [← hG]; exact sinceS_len⟩
  have HD1 : Hid (∀ W, EvL W u A → EvL W v B → Calls Try.prog 7 #[u, v] W fun e w' => (∃ q, e = .returned (.tuple #[q, .int .i64 e1]) ∧ OwB w' W.heap.size q P) ∧ Below W.heap.size W w') := Lib.hid (fun W h1 h2 => by have := evdiff_any A B u v W h1 h2; rwa [hP, he1] at this)
  have HD2 : Hid (∀ W, EvL W u A → EvL W v B → Calls Try.prog 13 #[u, v] W fun e w' => (∃ q, e = .returned (.tuple #[q, .int .i64 e1]) ∧ OwB w' W.heap.size q P) ∧ Below W.heap.size W w') := Lib.hid (fun W h1 h2 => by have := rdiff_any A B u v W h1 h2; rwa [hP, he1] at this)
  have HA1 : Hid (∀ W, EvL W u A → BB W xd ds → Calls Try.prog 10 #[u, xd] W fun e w' => EsPost e2 F W.heap.size e w' ∧ Below W.heap.size W w') := Lib.hid (fun W h1 h2 => by have := evapply_any A ds u xd W h1 h2; rwa [hF, he2] at this)
  have HA2 : Hid (∀ W, EvL W u A → BB W xd ds → Calls Try.prog 14 #[u, xd] W fun e w' => EsPost e2 F W.heap.size e w' ∧ Below W.heap.size W w') := Lib.hid (fun W h1 h2 => by have := rapply_any A ds u xd W h1 h2; rwa [hF, he2] at this)
  have HS1 : Hid (∀ W, EvL W v B → Calls Try.prog 15 #[v, .int .i64 k] W fun e w' => EsPost e3 G W.heap.size e w' ∧ Below W.heap.size W w') := Lib.hid (fun W h1 => by have := evsince_any B k v W h1; rwa [hG, he3] at this)
  have HS2 : Hid (∀ W, EvL W v B → Calls Try.prog 16 #[v, .int .i64 k] W fun e w' => EsPost e3 G W.heap.size e w' ∧ Below W.heap.size W w') := Lib.hid (fun W h1 => by have := rsince_any B k v W h1; rwa [hG, he3] at this)
  have HM1 : Hid (∀ W, EvL W u A → Calls Try.prog 18 #[u] W fun e w' => e = .returned (.bool ma) ∧ Below W.heap.size W w') := Lib.hid (fun W h1 => by have := evmay_any u A W h1; rwa [hma] at this)
  have HM2 : Hid (∀ W, EvL W u A → Calls Try.prog 9 #[u] W fun e w' => e = .returned (.bool ma) ∧ Below W.heap.size W w') := Lib.hid (fun W h1 => by have := revmay_any u A W h1; rwa [hma] at this)
  have HG1 : Hid (∀ W, EvL W u A → EvL W v B → Calls Try.prog 12 #[u, v] W fun e w' => e = .returned (.bool bg) ∧ Below W.heap.size W w') := Lib.hid (fun W h1 h2 => by have := evbegins_any A B u v W h1 h2; rwa [hbg] at this)
  have HG2 : Hid (∀ W, EvL W u A → EvL W v B → Calls Try.prog 19 #[u, v] W fun e w' => e = .returned (.bool bg) ∧ Below W.heap.size W w') := Lib.hid (fun W h1 h2 => by have := rbegins_any A B u v W h1 h2; rwa [hbg] at this)
  clear hP he1 hF he2 hG he3 hma hbg
  obtain ⟨UA, UN, UC, rfl⟩ : ∃ X n c, u = .slice X n c := by obtain ⟨_, X, c, h, _⟩ := hu; exact ⟨_, _, _, h⟩
  obtain ⟨VA, VN, VC, rfl⟩ : ∃ X n c, v = .slice X n c := by obtain ⟨_, X, c, h, _⟩ := hv; exact ⟨_, _, _, h⟩
  obtain ⟨XA, XN, XC, rfl⟩ : ∃ X n c, xd = .slice X n c := by obtain ⟨_, _, X, c, h, _⟩ := hd; exact ⟨_, _, _, h⟩
  obtain ⟨B0, hB0⟩ : ∃ B, w.heap.size = B := ⟨_, rfl⟩
  obtain ⟨V, hV⟩ : ∃ W, w.alloc (.cells #[.slice XA XN XC, .int .i64 k] 35) = W := ⟨_, rfl⟩
  have hbV : Below w.heap.size w V := by rw [← hV]; exact below_alloc _ _
  have HBV := Lib.hid hbV
  have HROW : Hid (V.heap[B0]? = some (.cells #[.slice XA XN XC, .int .i64 k] 35 (0, 0))) := Lib.hid (by rw [← hV, ← hB0]; exact heap_alloc_last _ _)
  have HU := Lib.hid (hu.below hbV)
  have HV := Lib.hid (hv.below hbV)
  have HD := Lib.hid (hd.below hbV)
  clear hbV hu hv hd
  go_enter Try.func4, Try.ntmps4
  go_wp2_with fail
  refine (HD1.out V HU.out HV.out).mono ?_
  rintro e w1 ⟨⟨q1, rfl, ho⟩, hb⟩
  have HQ1 := Lib.hid (ho.rd HPK.out.1 HPK.out.2)
  obtain ⟨Q1A, Q1N, Q1C, rfl⟩ := ho.form
  have HB1 := Lib.hid hb
  clear ho hb
  go_wp2_with fail
  refine (HD2.out w1 (HU.out.below HB1.out) (HV.out.below HB1.out)).mono ?_
  rintro e w2 ⟨⟨q2, rfl, ho⟩, hb⟩
  have HQ2 := Lib.hid (ho.rd HPK.out.1 HPK.out.2)
  have HQ12 := Lib.hid (HQ1.out.below hb)
  obtain ⟨Q2A, Q2N, Q2C, rfl⟩ := ho.form
  have HB2 := Lib.hid (bl_then HB1.out HB1.out.size hb)
  clear ho hb HQ1
  have r2 := (HB2.out.block B0 (lt_of_heap HROW.out)).trans HROW.out
  have z2 : w2.cell? ⟨B0, 0, none⟩ = some (.slice XA XN XC) := (cell_of_row _ _ _ _ _ _ r2).trans rfl
  have y2 := lt_of_heap r2
  clear r2
  go_wp2_with fail
  refine (HA1.out w2 (HU.out.below HB2.out) (HD.out.below HB2.out)).mono ?_
  rintro e w3 ⟨⟨L9, P9, rfl, ho9, hp9⟩, hbb⟩
  obtain ⟨L3A, L3C, hL9⟩ := ho9.form
  obtain ⟨L3N, hn9⟩ : ∃ n, P9.length = n := ⟨_, rfl⟩
  have HL3 : Hid (EvL w3 L9 F) := Lib.hid (by
    have h9 := ho9.evl (by rw [← List.length_map (f := HE.e), hp9]; have := HFL.out.1; omega)
    rwa [hp9] at h9)
  rw [hn9] at hL9
  subst hL9
  have HB3 := Lib.hid (bl_then HB2.out HB2.out.size hbb)
  clear ho9 hp9 hn9
  have HQ13 := Lib.hid (HQ12.out.below hbb)
  have HQ23 := Lib.hid (HQ2.out.below hbb)
  clear hbb HQ12 HQ2 z2
  have r3 := (HB3.out.block B0 (lt_of_heap HROW.out)).trans HROW.out
  have z3 : w3.cell? ⟨B0, 0, none⟩ = some (.slice XA XN XC) := (cell_of_row _ _ _ _ _ _ r3).trans rfl
  have y3 := lt_of_heap r3
  clear r3
  go_wp2_with fail
  refine (HA2.out w3 (HU.out.below HB3.out) (HD.out.below HB3.out)).mono ?_
  rintro e w4 ⟨⟨L9, P9, rfl, ho9, hp9⟩, hbb⟩
  obtain ⟨L4A, L4C, hL9⟩ := ho9.form
  obtain ⟨L4N, hn9⟩ : ∃ n, P9.length = n := ⟨_, rfl⟩
  have HL4 : Hid (EvL w4 L9 F) := Lib.hid (by
    have h9 := ho9.evl (by rw [← List.length_map (f := HE.e), hp9]; have := HFL.out.1; omega)
    rwa [hp9] at h9)
  rw [hn9] at hL9
  subst hL9
  have HB4 := Lib.hid (bl_then HB3.out HB3.out.size hbb)
  clear ho9 hp9 hn9
  have HQ14 := Lib.hid (HQ13.out.below hbb)
  have HQ24 := Lib.hid (HQ23.out.below hbb)
  have HL34 := Lib.hid (HL3.out.below hbb)
  clear hbb HQ13 HQ23 HL3 z3
  have r4 := (HB4.out.block B0 (lt_of_heap HROW.out)).trans HROW.out
  have z4 : w4.cell? ⟨B0, 1, none⟩ = some (.int .i64 k) := (cell_of_row _ _ _ _ _ _ r4).trans rfl
  have y4 := lt_of_heap r4
  clear r4
  go_wp2_with fail
  refine (HS1.out w4 (HV.out.below HB4.out)).mono ?_
  rintro e w5 ⟨⟨L9, P9, rfl, ho9, hp9⟩, hbb⟩
  obtain ⟨L5A, L5C, hL9⟩ := ho9.form
  obtain ⟨L5N, hn9⟩ : ∃ n, P9.length = n := ⟨_, rfl⟩
  have HL5 : Hid (EvL w5 L9 G) := Lib.hid (by
    have h9 := ho9.evl (by rw [← List.length_map (f := HE.e), hp9]; have := HFL.out.2; omega)
    rwa [hp9] at h9)
  rw [hn9] at hL9
  subst hL9
  have HB5 := Lib.hid (bl_then HB4.out HB4.out.size hbb)
  clear ho9 hp9 hn9
  have HQ15 := Lib.hid (HQ14.out.below hbb)
  have HQ25 := Lib.hid (HQ24.out.below hbb)
  have HL35 := Lib.hid (HL34.out.below hbb)
  have HL45 := Lib.hid (HL4.out.below hbb)
  clear hbb HQ14 HQ24 HL34 HL4 z4
  have r5 := (HB5.out.block B0 (lt_of_heap HROW.out)).trans HROW.out
  have z5 : w5.cell? ⟨B0, 1, none⟩ = some (.int .i64 k) := (cell_of_row _ _ _ _ _ _ r5).trans rfl
  have y5 := lt_of_heap r5
  clear r5
  go_wp2_with fail
  refine (HS2.out w5 (HV.out.below HB5.out)).mono ?_
  rintro e w6 ⟨⟨L9, P9, rfl, ho9, hp9⟩, hbb⟩
  obtain ⟨L6A, L6C, hL9⟩ := ho9.form
  obtain ⟨L6N, hn9⟩ : ∃ n, P9.length = n := ⟨_, rfl⟩
  have HL6 : Hid (EvL w6 L9 G) := Lib.hid (by
    have h9 := ho9.evl (by rw [← List.length_map (f := HE.e), hp9]; have := HFL.out.2; omega)
    rwa [hp9] at h9)
  rw [hn9] at hL9
  subst hL9
  have HB6 := Lib.hid (bl_then HB5.out HB5.out.size hbb)
  clear ho9 hp9 hn9
  have HQ16 := Lib.hid (HQ15.out.below hbb)
  have HQ26 := Lib.hid (HQ25.out.below hbb)
  have HL36 := Lib.hid (HL35.out.below hbb)
  have HL46 := Lib.hid (HL45.out.below hbb)
  have HL56 := Lib.hid (HL5.out.below hbb)
  clear hbb HQ15 HQ25 HL35 HL45 HL5 z5
  have hsF : sameL F F = true := sameL_iff.2 rfl
  have hsG : sameL G G = true := sameL_iff.2 rfl
  have HSF := Lib.hid hsF
  have HSG := Lib.hid hsG
  clear hsF hsG
  go_wp2_with fail
  refine (same_bytes _ _ P P w6 HQ16.out HQ26.out).mono ?_
  rintro e w7 ⟨rfl, hw7⟩
  subst w7
  simp only [decide_true]
  go_wp2_with fail
  refine (lists_dec F F _ _ w6 HL36.out HL46.out).mono ?_
  rintro e w7 ⟨rfl, hb⟩
  rw [HSF.out]
  have HB7 := Lib.hid (bl_then HB6.out HB6.out.size hb)
  have HL57 := Lib.hid (HL56.out.below hb)
  have HL67 := Lib.hid (HL6.out.below hb)
  clear hb
  go_wp2_with fail
  refine (lists_dec G G _ _ w7 HL57.out HL67.out).mono ?_
  rintro e w8 ⟨rfl, hb⟩
  rw [HSG.out]
  have HB8 := Lib.hid (bl_then HB7.out HB7.out.size hb)
  clear hb
  go_wp2_with fail
  refine (HM1.out w8 (HU.out.below HB8.out)).mono ?_
  rintro e w9 ⟨rfl, hb⟩
  have HB9 := Lib.hid (bl_then HB8.out HB8.out.size hb)
  clear hb
  go_wp2_with fail
  refine (HM2.out w9 (HU.out.below HB9.out)).mono ?_
  rintro e wA ⟨rfl, hb⟩
  have HBA := Lib.hid (bl_then HB9.out HB9.out.size hb)
  clear hb
  go_wp2_with fail
  refine (HG1.out wA (HU.out.below HBA.out) (HV.out.below HBA.out)).mono ?_
  rintro e wB ⟨rfl, hb⟩
  have HBB := Lib.hid (bl_then HBA.out HBA.out.size hb)
  clear hb
  go_wp2_with fail
  refine (HG2.out wB (HU.out.below HBB.out) (HV.out.below HBB.out)).mono ?_
  rintro e wC ⟨rfl, hb⟩
  have HBC := Lib.hid (bl_then HBB.out HBB.out.size hb)
  clear hb
  go_wp2_with fail
  refine (anchored_any wC).mono ?_
  rintro e wD ⟨rfl, hb⟩
  have HBD := Lib.hid (bl_then HBC.out HBC.out.size hb)
  clear hb
  go_wp2_with fail
  go_ret
  exact ⟨rfl, bl_then HBV.out HBV.out.size HBD.out⟩
end Go.Proofs.Ytgkiedbefogklaa
