/- What is proved: what Apply of package cell answers when it is called; conditions: the slice reads as it is said to. -/
import Derived.Test.YtlejmllacikmeaaCell2
set_option linter.unusedSimpArgs false
set_option linter.unusedVariables false
namespace Go.Proofs.Ytlejmllacikmeaa
open Go.RowKit
set_option maxRecDepth 100000
set_option maxHeartbeats 4000000
def lenOf : Value → Nat
  | .slice _ n _ => n
  | _ => 0
theorem apl_zero (s : Sty) (ps : List Int) : aplS s (0 :: ps) = aplS plainS ps := by
  show aplF (ps.length + 1) s (0 :: ps) = _
  unfold aplF
  rw [if_pos rfl]
  rfl
theorem apl_col5 {s : Sty} {z : Int} {ps : List Int} (hz : z = 38 ∨ z = 48) (h1 : 1 < ps.length) (h5 : ps.getD 0 0 = 5) : aplS s (z :: ps) = aplS (if 0 ≤ ps.getD 1 0 ∧ ps.getD 1 0 ≤ 255 then (if z = 48 then ⟨s.fg, ps.getD 1 0, s.b⟩ else ⟨ps.getD 1 0, s.bg, s.b⟩) else s) (ps.drop 2) := by
  show aplF (ps.length + 1) s (z :: ps) = _
  unfold aplF
  rw [if_neg (by omega), if_pos hz, if_pos ⟨h1, h5⟩]
  exact aplF_fuel _ _ _ _ (by simp) (Nat.le_refl _)
theorem apl_col2 {s : Sty} {z : Int} {ps : List Int} (hz : z = 38 ∨ z = 48) (hn : ¬ (1 < ps.length ∧ ps.getD 0 0 = 5)) (h0 : 0 < ps.length) (h2 : ps.getD 0 0 = 2) : aplS s (z :: ps) = aplS s (ps.drop (min 4 ps.length)) := by
  show aplF (ps.length + 1) s (z :: ps) = _
  unfold aplF
  rw [if_neg (by omega), if_pos hz, if_neg hn, if_pos ⟨h0, h2⟩]
  exact aplF_fuel _ _ _ _ (by simp) (Nat.le_refl _)
theorem apl_col0 {s : Sty} {z : Int} {ps : List Int} (hz : z = 38 ∨ z = 48) (hn : ¬ (1 < ps.length ∧ ps.getD 0 0 = 5)) (h2 : ¬ (0 < ps.length ∧ ps.getD 0 0 = 2)) : aplS s (z :: ps) = aplS s ps := by
  show aplF (ps.length + 1) s (z :: ps) = _
  unfold aplF
  rw [if_neg (by omega), if_pos hz, if_neg hn, if_neg h2]
  rfl
theorem apl_step {s : Sty} {z : Int} {ps : List Int} (h0 : ¬ z = 0) (hz : ¬ (z = 38 ∨ z = 48)) : aplS s (z :: ps) = aplS (stepP s z) ps := by
  show aplF (ps.length + 1) s (z :: ps) = _
  unfold aplF
  rw [if_neg h0, if_neg hz]
  rfl
theorem cons_of_len {xs : List Int} {q : Nat} (h : xs.length = q + 1) : ∃ ps, xs = xs.getD 0 0 :: ps ∧ ps.length = q ∧ (∀ j, xs.getD (j + 1) 0 = ps.getD j 0) := by
  cases xs with
  | nil => simp at h
  | cons x ps => exact ⟨ps, by simp, by simpa using h, fun j => by simp [List.getD_eq_getElem?_getD]⟩
theorem apply_any (s0 : Sty) (A0 : Option Addr) (n0 cap0 : Nat) (zs0 : List Int) (w : World) (hs0 : s0.b < 256) (hwf : ∀ z ∈ zs0, (Lit.int .i64 z).wf = true) (h : RdI w .i64 A0 n0 zs0) (hcap : n0 ≤ cap0) :
    Calls Try.prog 6 #[s0.val, .slice A0 n0 cap0] w fun e w' => e = .returned (applyS s0 zs0).val ∧ Below w.heap.size w w' := by
  obtain ⟨R, hR⟩ : ∃ R, applyS s0 zs0 = R := ⟨_, rfl⟩
  rw [hR]
  obtain ⟨B, hB⟩ : ∃ B, w.heap.size = B := ⟨_, rfl⟩
  have HR := Lib.hid hR
  have HH := Lib.hid h
  have HWF0 := Lib.hid hwf
  clear hR h hwf
  go_enter Try.func6, Try.ntmps6
  obtain ⟨V, hV⟩ : ∃ V, (w.alloc (.cells s0.row 23)).alloc (.cells zeroS.row 23) = V := ⟨_, rfl⟩
  have e1 : s0.val = .agg s0.row := rfl
  have e2 : zeroS.row = #[.int .i64 0, .int .i64 0, .bool false, .bool false, .bool false, .bool false, .bool false, .bool false, .bool false, .bool false] := rfl
  rw [e2] at hV
  rw [e1]
  clear e1
  have HS0 : Hid (∀ A n (zs : List Int), RdI w .i64 A n zs → (∀ a : Addr, A = some a → a.block ≠ B ∧ a.block ≠ B + 1) → CS w V B A n zs s0) := Lib.hid (by
    intro A n zs hr ha
    have hL : Below w.heap.size w V := by rw [← hV]; (repeat' (first | (with_reducible exact Below.refl _ _) | (with_reducible assumption) | (with_reducible refine Below.alloc ?_ ?_ _) | (with_reducible refine below_setRow ?_ ?_ _) | (with_reducible refine bl_drew ?_) | (with_reducible refine bl_drewN ?_ _) | (with_reducible refine Below.setCell ?_ ?_ _) | (with_reducible refine bl_then ?_ ?_ hb) | (with_reducible refine bl_then ?_ ?_ hb1) | (with_reducible refine bl_then ?_ ?_ hb2) | (with_reducible refine bl_then ?_ ?_ hb3) | (with_reducible refine bl_then ?_ ?_ hb4) | (with_reducible refine bl_then ?_ ?_ hb5) | (with_reducible refine bl_then ?_ ?_ hb6) | (with_reducible refine bl_then ?_ ?_ hb7) | (with_reducible refine bl_then ?_ ?_ hb8) | (with_reducible exact Nat.le_refl _) | omega | (simp only [World.size_alloc, World.size_setCell, World.size_drew, size_setRow]; omega) | (simp; omega) | (simp; done)))
    refine ⟨hr.below hL, ha, ?_, ?_, by rw [← hB]; exact hL, hB⟩
    · rw [← hV, ← hB]; (simp only [heap_setRow_if, heap_alloc_if, heap_setCell_if, World.size_alloc, size_setRow, World.size_setCell]; simp)
    · rw [e2, ← hV, ← hB]; (simp only [heap_setRow_if, heap_alloc_if, heap_setCell_if, World.size_alloc, size_setRow, World.size_setCell]; simp))
  clear e2
  by_cases hn0 : n0 = 0
  · subst hn0
    have hV2 : V.heap.size = B + 1 + 1 := by rw [← hV]; simp; omega
    have HV1 : Hid (CS w (V.alloc (.cells #[.int .i64 0] 3)) B (some ⟨B + 1 + 1, 0, none⟩) 1 [0] s0) := Lib.hid (by
      have h := HS0.out none 0 [] RdI.nil (by intro a ha; cases ha)
      have l1 := lt_of_heap h.hB
      have l2 := lt_of_heap h.hR
      refine ⟨?_, ?_, ?_, ?_, h.hL.alloc (by omega) _, h.sz⟩
      · rw [← hV2]; exact RdI.new V .i64 3 [0] 1 rfl
      · intro a ha
        simp only [Option.some.injEq] at ha
        subst ha
        show B + 1 + 1 ≠ B ∧ B + 1 + 1 ≠ B + 1
        omega
      · rw [heap_alloc_if, if_neg (by omega)]; exact h.hB
      · rw [heap_alloc_if, if_neg (by omega)]; exact h.hR)
    have HR0 : Hid (aplS s0 [0] = R) := Lib.hid (by
      rw [← HR.out]
      unfold applyS
      rw [if_pos HH.out.len]
      exact apl_zero s0 [])
    clear HS0 HH HR HWF0
    go_wp2_with fail
    try rw [hV]
    try rw [hV2]
    generalize V.alloc (.cells #[.int .i64 0] 3) = V1 at *
    clear hV hV2
    go_loopw [1] (fun p wr => ∃ (A : Option Addr) (n cap : Nat) (zs : List Int) (s : Sty), p = .slice A n cap ∧ n ≤ cap ∧ Hid (CS w wr B A n zs s) ∧ s.b < 256 ∧ Hid (∀ z ∈ zs, (Lit.int .i64 z).wf = true) ∧ Hid (aplS s zs = R) ∧ Hid (zs = [0] ∨ zs = [])) (fun p _ => lenOf p)
    case atStart =>
      exact ⟨_, 1, 1, [0], s0, rfl, by omega, HV1, hs0, Lib.hid (by intro z hz; obtain rfl := List.mem_singleton.1 hz; decide), HR0, Lib.hid (.inl rfl)⟩
    case round =>
      obtain ⟨A, n, cap, zs, s, rfl, hc, HS, hsb, HWF, HE, HZ⟩ := hrel
      by_cases hn : n = 0
      · subst hn
        have hni : ¬ (0 : Int) < ((0 : Nat) : Int) := by omega
        have HSE : Hid (s = R) := Lib.hid (by
          rw [← HE.out, List.eq_nil_of_length_eq_zero HS.out.rd.len]
          rfl)
        go_wp2_with (first | (with_reducible refine wpList_ldS rfl (.tmp 2) rfl rfl HS.out.hB ?_) | (with_reducible refine wpList_stS rfl (.tmp 4) (.tmp 123) rfl rfl rfl HS.out.hR ?_))
        refine bodyPost_ret (v := s.val) ?_ rfl ?_
        · exact results_style (fn := Try.f6) Try.results6 rfl (setRow_heap _ _ _ _ _ _ HS.out.hR)
        · exact ⟨by rw [HSE.out], by rw [HS.out.sz]; exact below_setRow HS.out.hL (by omega) _⟩
      · have hni : (0 : Int) < (n : Int) := by omega
        have hnp : 0 < n := by omega
        have hlen := HS.out.rd.len
        obtain ⟨b, off, rfl, hcell⟩ := HS.out.rd.2 (by omega)
        obtain ⟨q, hq⟩ : ∃ q, n = q + 1 := ⟨n - 1, by omega⟩
        obtain ⟨cp, hcp⟩ : ∃ cp, cap = cp + 1 := ⟨cap - 1, by omega⟩
        have hqc : q ≤ cp := by omega
        obtain ⟨ps, hps, hpl, hpg⟩ := cons_of_len (xs := zs) (q := q) (by omega)
        have c0 : wr.cell? ⟨b, off, none⟩ = some (.int .i64 (zs.getD 0 0)) := hcell 0 (by omega)
        obtain ⟨z, hz⟩ : ∃ z, zs.getD 0 0 = z := ⟨_, rfl⟩
        rw [hz] at c0 hps
        have HZP : Hid (z = 0 ∧ ps = []) := Lib.hid (by
          rcases HZ.out with h | h
          · rw [hps] at h; simpa using h
          · rw [hps] at h; simp at h)
        have hwz := wf_i64' (HWF.out z (by rw [hps]; exact List.mem_cons_self ..))
        have hwz' := HWF.out z (by rw [hps]; exact List.mem_cons_self ..)
        have HWP : Hid (∀ x ∈ ps, (Lit.int .i64 x).wf = true) := Lib.hid (fun x hx => HWF.out x (by rw [hps]; exact List.mem_cons_of_mem _ hx))
        have HEP : Hid (aplS s (z :: ps) = R) := Lib.hid (by rw [← hps]; exact HE.out)
        have HPC : Hid (∀ j, j < q → wr.cell? ⟨b, off + 1 + j, none⟩ = some (.int .i64 (ps.getD j 0))) := Lib.hid (fun j hj => by rw [← hpg j, Nat.add_assoc, Nat.add_comm 1 j]; exact hcell (j + 1) (by omega))
        have hr1 : ∀ W, (Instr.sliceAt 24 (.slice (some ⟨b, off, none⟩) n cap) (some (.int .i64 1)) none none).run Try.prog W = .ok (.slice (restA (some ⟨b, off, none⟩) cap 1) q cp) W := fun W => by
          subst hq; subst hcp
          exact run_restAt (some ⟨b, off, none⟩) (q + 1) (cp + 1) 1 (by omega) W
        have HSP : Hid (CS w wr B (restA (some ⟨b, off, none⟩) cap 1) q ps s) := Lib.hid (by
          have h := HS.out.rest (m := 1) (by omega) hc
          have e : zs.drop 1 = ps := by rw [hps]; rfl
          rw [e, show n - 1 = q by omega] at h
          exact h)
        have HA1 : Hid (0 < q → restA (some ⟨b, off, none⟩) cap 1 = some ⟨b, off + 1, none⟩) := Lib.hid (fun h => restA_at (by omega))
        have HN : Hid (n = q + 1 ∧ cap = cp + 1 ∧ ps.length = q) := Lib.hid ⟨hq, hcp, hpl⟩
        generalize restA (some ⟨b, off, none⟩) cap 1 = A1 at *
        clear hcell hlen HE HS hps hpg hpl hq hcp hz HWF
        obtain ⟨hz0, hpe⟩ := HZP.out
        subst hz0
        go_wp2_with fail
        refine (plain_any _).mono ?_
        rintro e w1 ⟨rfl, hb⟩
        have h1 := HSP.out.below hb
        clear hb
        go_wp2_with (with_reducible refine wpList_stS rfl (.tmp 2) (.tmp 28) rfl rfl rfl h1.hB ?_)
        exact ⟨⟨A1, q, cp, ps, plainS, rfl, hqc, Lib.hid (h1.set plainS), by decide, HWP, Lib.hid ((apl_zero s ps).symm.trans HEP.out), Lib.hid (.inr hpe)⟩, by have := HN.out; simp [lenOf]; omega⟩
  · have hn0i : ¬ (n0 : Int) = 0 := by omega
    have hn0b : ((n0 : Int) == 0) = false := by simpa using hn0i
    go_wp2_with fail
    try rw [hV]
    go_loopw [1] (fun p wr => ∃ (A : Option Addr) (n cap : Nat) (zs : List Int) (s : Sty), p = .slice A n cap ∧ n ≤ cap ∧ Hid (CS w wr B A n zs s) ∧ s.b < 256 ∧ Hid (∀ z ∈ zs, (Lit.int .i64 z).wf = true) ∧ Hid (aplS s zs = R)) (fun p _ => lenOf p)
    case atStart =>
      refine ⟨A0, n0, cap0, zs0, s0, rfl, hcap, Lib.hid (HS0.out _ _ _ HH.out ?_), hs0, HWF0, Lib.hid ?_⟩
      · intro a ha
        obtain ⟨b, off, hA, _⟩ := HH.out.2 (by omega)
        have hl := HH.out.lt_ (by omega) hA
        rw [hA] at ha
        simp only [Option.some.injEq] at ha
        subst ha
        show b ≠ B ∧ b ≠ B + 1
        omega
      · rw [← HR.out]
        unfold applyS
        rw [if_neg (by rw [HH.out.len]; exact hn0)]
    case round =>
      obtain ⟨A, n, cap, zs, s, rfl, hc, HS, hsb, HWF, HE⟩ := hrel
      by_cases hn : n = 0
      · subst hn
        have hni : ¬ (0 : Int) < ((0 : Nat) : Int) := by omega
        have HSE : Hid (s = R) := Lib.hid (by
          rw [← HE.out, List.eq_nil_of_length_eq_zero HS.out.rd.len]
          rfl)
        go_wp2_with (first | (with_reducible refine wpList_ldS rfl (.tmp 2) rfl rfl HS.out.hB ?_) | (with_reducible refine wpList_stS rfl (.tmp 4) (.tmp 123) rfl rfl rfl HS.out.hR ?_))
        refine bodyPost_ret (v := s.val) ?_ rfl ?_
        · exact results_style (fn := Try.f6) Try.results6 rfl (setRow_heap _ _ _ _ _ _ HS.out.hR)
        · exact ⟨by rw [HSE.out], by rw [HS.out.sz]; exact below_setRow HS.out.hL (by omega) _⟩
      · have hni : (0 : Int) < (n : Int) := by omega
        have hnp : 0 < n := by omega
        have hlen := HS.out.rd.len
        obtain ⟨b, off, rfl, hcell⟩ := HS.out.rd.2 (by omega)
        obtain ⟨q, hq⟩ : ∃ q, n = q + 1 := ⟨n - 1, by omega⟩
        obtain ⟨cp, hcp⟩ : ∃ cp, cap = cp + 1 := ⟨cap - 1, by omega⟩
        have hqc : q ≤ cp := by omega
        obtain ⟨ps, hps, hpl, hpg⟩ := cons_of_len (xs := zs) (q := q) (by omega)
        have c0 : wr.cell? ⟨b, off, none⟩ = some (.int .i64 (zs.getD 0 0)) := hcell 0 (by omega)
        obtain ⟨z, hz⟩ : ∃ z, zs.getD 0 0 = z := ⟨_, rfl⟩
        rw [hz] at c0 hps
        have hwz := wf_i64' (HWF.out z (by rw [hps]; exact List.mem_cons_self ..))
        have hwz' := HWF.out z (by rw [hps]; exact List.mem_cons_self ..)
        have HWP : Hid (∀ x ∈ ps, (Lit.int .i64 x).wf = true) := Lib.hid (fun x hx => HWF.out x (by rw [hps]; exact List.mem_cons_of_mem _ hx))
        have HEP : Hid (aplS s (z :: ps) = R) := Lib.hid (by rw [← hps]; exact HE.out)
        have HPC : Hid (∀ j, j < q → wr.cell? ⟨b, off + 1 + j, none⟩ = some (.int .i64 (ps.getD j 0))) := Lib.hid (fun j hj => by rw [← hpg j, Nat.add_assoc, Nat.add_comm 1 j]; exact hcell (j + 1) (by omega))
        have hr1 : ∀ W, (Instr.sliceAt 24 (.slice (some ⟨b, off, none⟩) n cap) (some (.int .i64 1)) none none).run Try.prog W = .ok (.slice (restA (some ⟨b, off, none⟩) cap 1) q cp) W := fun W => by
          subst hq; subst hcp
          exact run_restAt (some ⟨b, off, none⟩) (q + 1) (cp + 1) 1 (by omega) W
        have HSP : Hid (CS w wr B (restA (some ⟨b, off, none⟩) cap 1) q ps s) := Lib.hid (by
          have h := HS.out.rest (m := 1) (by omega) hc
          have e : zs.drop 1 = ps := by rw [hps]; rfl
          rw [e, show n - 1 = q by omega] at h
          exact h)
        have HA1 : Hid (0 < q → restA (some ⟨b, off, none⟩) cap 1 = some ⟨b, off + 1, none⟩) := Lib.hid (fun h => restA_at (by omega))
        have HN : Hid (n = q + 1 ∧ cap = cp + 1 ∧ ps.length = q) := Lib.hid ⟨hq, hcp, hpl⟩
        generalize restA (some ⟨b, off, none⟩) cap 1 = A1 at *
        clear hcell hlen HE HS hps hpg hpl hq hcp hz HWF
        by_cases hz0 : z = 0
        · subst hz0
          go_wp2_with fail
          refine (plain_any _).mono ?_
          rintro e w1 ⟨rfl, hb⟩
          have h1 := HSP.out.below hb
          clear hb
          go_wp2_with (with_reducible refine wpList_stS rfl (.tmp 2) (.tmp 28) rfl rfl rfl h1.hB ?_)
          exact ⟨⟨A1, q, cp, ps, plainS, rfl, hqc, Lib.hid (h1.set plainS), by decide, HWP, Lib.hid ((apl_zero s ps).symm.trans HEP.out)⟩, by have := HN.out; simp [lenOf]; omega⟩
        · have hzb : (z == 0) = false := by simpa using hz0
          by_cases hz38 : z = 38
          · subst hz38
            have hps := HN.out.2.2
            by_cases hq0 : q = 0
            · subst hq0
              go_wp2_with fail
              exact ⟨⟨A1, 0, cp, ps, s, rfl, by omega, Lib.hid (HSP.out), hsb, HWP, Lib.hid ((apl_col0 (.inl rfl) (by omega) (by omega)).symm.trans HEP.out)⟩, by have := HN.out; simp [lenOf]; omega⟩
            · have hqp : 0 < q := by omega
              have hqi : (0 : Int) < (q : Int) := by omega
              have hA1 := HA1.out hqp
              subst hA1
              have c1 : wr.cell? ⟨b, off + 1, none⟩ = some (.int .i64 (ps.getD 0 0)) := HPC.out 0 hqp
              have HP0 := Lib.hid (rfl : ps.getD 0 0 = ps.getD 0 0)
              obtain ⟨p0, hp0⟩ : ∃ p, ps.getD 0 0 = p := ⟨_, rfl⟩
              rw [hp0] at c1
              by_cases hq1 : 1 < q
              · have hq1i : (1 : Int) < (q : Int) := by omega
                by_cases h5 : p0 = 5
                · have h5b : (p0 == 5) = true := by simp [h5]
                  have c2 : wr.cell? ⟨b, off + 1 + 1, none⟩ = some (.int .i64 (ps.getD 1 0)) := HPC.out 1 (by omega)
                  obtain ⟨p1, hp1⟩ : ∃ p, ps.getD 1 0 = p := ⟨_, rfl⟩
                  rw [hp1] at c2
                  obtain ⟨q2, hq2⟩ : ∃ x, q - 2 = x := ⟨_, rfl⟩
                  obtain ⟨cp2, hcp2⟩ : ∃ x, cp - 2 = x := ⟨_, rfl⟩
                  have hr2 : ∀ W, (Instr.sliceAt 24 (.slice (some ⟨b, off + 1, none⟩) q cp) (some (.int .i64 2)) none none).run Try.prog W = .ok (.slice (restA (some ⟨b, off + 1, none⟩) cp 2) q2 cp2) W := fun W => by
                    rw [← hq2, ← hcp2]
                    exact run_restAt (some ⟨b, off + 1, none⟩) q cp 2 (by omega) W
                  have HS2 : Hid (CS w wr B (restA (some ⟨b, off + 1, none⟩) cp 2) q2 (ps.drop 2) s) := Lib.hid (by rw [← hq2]; exact HSP.out.rest (by omega) hqc)
                  generalize restA (some ⟨b, off + 1, none⟩) cp 2 = A2 at *
                  have HQ2 : Hid (q2 ≤ cp2 ∧ q2 ≤ q) := Lib.hid (by omega)
                  have HE5 : Hid (aplS (if 0 ≤ p1 ∧ p1 ≤ 255 then ⟨p1, s.bg, s.b⟩ else s) (ps.drop 2) = R) := Lib.hid (by
                    have e := apl_col5 (s := s) (z := 38) (ps := ps) (.inl rfl) (by omega) (by omega)
                    rw [if_neg (show ¬ ((38 : Int) = 48) by decide), hp1] at e
                    exact e.symm.trans HEP.out)
                  have HWD : Hid (∀ x ∈ ps.drop 2, (Lit.int .i64 x).wf = true) := Lib.hid (fun x hx => HWP.out x (List.mem_of_mem_drop hx))
                  have cB : wr.cell? ⟨B, 0, none⟩ = some (.int .i64 s.fg) := (cell_of_row wr B 0 _ _ (0, 0) HS2.out.hB).trans rfl
                  have fB := frozen_of_row wr B 0 _ _ HS2.out.hB
                  clear hq2 hcp2 hp1
                  by_cases ha : 0 ≤ p1
                  · by_cases hb : p1 ≤ 255
                    · go_wp2_with fail
                      exact ⟨⟨A2, q2, cp2, _, ⟨p1, s.bg, s.b⟩, rfl, HQ2.out.1, Lib.hid (HS2.out.fg p1), hsb, HWD, Lib.hid (by rw [← HE5.out, if_pos ⟨ha, hb⟩])⟩, by have := HN.out; have := HQ2.out; simp [lenOf]; omega⟩
                    · go_wp2_with fail
                      exact ⟨⟨A2, q2, cp2, _, s, rfl, HQ2.out.1, HS2, hsb, HWD, Lib.hid (by rw [← HE5.out, if_neg (fun h => hb h.2)])⟩, by have := HN.out; have := HQ2.out; simp [lenOf]; omega⟩
                  · go_wp2_with fail
                    exact ⟨⟨A2, q2, cp2, _, s, rfl, HQ2.out.1, HS2, hsb, HWD, Lib.hid (by rw [← HE5.out, if_neg (fun h => ha h.1)])⟩, by have := HN.out; have := HQ2.out; simp [lenOf]; omega⟩
                · have h5b : (p0 == 5) = false := by simpa using h5
                  by_cases h2 : p0 = 2
                  · have h2b : (p0 == 2) = true := by simp [h2]
                    by_cases h4 : 4 ≤ q
                    · have h4i : (4 : Int) ≤ (q : Int) := by omega
                      obtain ⟨q4, hq4⟩ : ∃ x, q - 4 = x := ⟨_, rfl⟩
                      obtain ⟨cp4, hcp4⟩ : ∃ x, cp - 4 = x := ⟨_, rfl⟩
                      have hr4 : ∀ W, (Instr.sliceAt 24 (.slice (some ⟨b, off + 1, none⟩) q cp) (some (.int .i64 4)) none none).run Try.prog W = .ok (.slice (restA (some ⟨b, off + 1, none⟩) cp 4) q4 cp4) W := fun W => by
                        rw [← hq4, ← hcp4]
                        exact run_restAt (some ⟨b, off + 1, none⟩) q cp 4 h4 W
                      have HS4 : Hid (CS w wr B (restA (some ⟨b, off + 1, none⟩) cp 4) q4 (ps.drop 4) s) := Lib.hid (by rw [← hq4]; exact HSP.out.rest h4 hqc)
                      generalize restA (some ⟨b, off + 1, none⟩) cp 4 = A4 at *
                      have hmin : min 4 ps.length = 4 := by omega
                      have HQ4 : Hid (q4 ≤ cp4 ∧ q4 ≤ q) := Lib.hid (by omega)
                      clear hq4 hcp4
                      go_wp2_with fail
                      exact ⟨⟨A4, q4, cp4, (ps.drop 4), s, rfl, HQ4.out.1, Lib.hid (HS4.out), hsb, Lib.hid (fun x hx => HWP.out x (List.mem_of_mem_drop hx)), Lib.hid (by have e := apl_col2 (s := s) (z := 38) (ps := ps) (.inl rfl) (by omega) (by omega) (by omega); rw [hmin] at e; exact e.symm.trans HEP.out)⟩, by have := HN.out; have := HQ4.out; simp [lenOf]; omega⟩
                    · have h4i : ¬ (4 : Int) ≤ (q : Int) := by omega
                      have h4j : (q : Int) ≤ 4 := by omega
                      have h4k : (q : Int) < 4 := by omega
                      obtain ⟨q4, hq4⟩ : ∃ x, q - q = x := ⟨_, rfl⟩
                      obtain ⟨cp4, hcp4⟩ : ∃ x, cp - q = x := ⟨_, rfl⟩
                      have hr4 : ∀ W, (Instr.sliceAt 24 (.slice (some ⟨b, off + 1, none⟩) q cp) (some (.int .i64 (q : Nat))) none none).run Try.prog W = .ok (.slice (restA (some ⟨b, off + 1, none⟩) cp q) q4 cp4) W := fun W => by
                        rw [← hq4, ← hcp4]
                        exact run_restAt (some ⟨b, off + 1, none⟩) q cp q (Nat.le_refl _) W
                      have HS4 : Hid (CS w wr B (restA (some ⟨b, off + 1, none⟩) cp q) q4 (ps.drop q) s) := Lib.hid (by rw [← hq4]; exact HSP.out.rest (Nat.le_refl _) hqc)
                      generalize restA (some ⟨b, off + 1, none⟩) cp q = A4 at *
                      have hmin : min 4 ps.length = q := by omega
                      have HQ4 : Hid (q4 ≤ cp4 ∧ q4 ≤ q) := Lib.hid (by omega)
                      clear hq4 hcp4
                      go_wp2_with fail
                      exact ⟨⟨A4, q4, cp4, (ps.drop q), s, rfl, HQ4.out.1, Lib.hid (HS4.out), hsb, Lib.hid (fun x hx => HWP.out x (List.mem_of_mem_drop hx)), Lib.hid (by have e := apl_col2 (s := s) (z := 38) (ps := ps) (.inl rfl) (by omega) (by omega) (by omega); rw [hmin] at e; exact e.symm.trans HEP.out)⟩, by have := HN.out; have := HQ4.out; simp [lenOf]; omega⟩
                  · have h2b : (p0 == 2) = false := by simpa using h2
                    go_wp2_with fail
                    exact ⟨⟨some ⟨b, off + 1, none⟩, q, cp, ps, s, rfl, by omega, Lib.hid (HSP.out), hsb, HWP, Lib.hid ((apl_col0 (.inl rfl) (by omega) (by omega)).symm.trans HEP.out)⟩, by have := HN.out; simp [lenOf]; omega⟩
              · have hq1i : ¬ (1 : Int) < (q : Int) := by omega
                by_cases h2 : p0 = 2
                · have h2b : (p0 == 2) = true := by simp [h2]
                  have h4 : ¬ 4 ≤ q := by omega
                  have h4i : ¬ (4 : Int) ≤ (q : Int) := by omega
                  have h4j : (q : Int) ≤ 4 := by omega
                  have h4k : (q : Int) < 4 := by omega
                  obtain ⟨q4, hq4⟩ : ∃ x, q - q = x := ⟨_, rfl⟩
                  obtain ⟨cp4, hcp4⟩ : ∃ x, cp - q = x := ⟨_, rfl⟩
                  have hr4 : ∀ W, (Instr.sliceAt 24 (.slice (some ⟨b, off + 1, none⟩) q cp) (some (.int .i64 (q : Nat))) none none).run Try.prog W = .ok (.slice (restA (some ⟨b, off + 1, none⟩) cp q) q4 cp4) W := fun W => by
                    rw [← hq4, ← hcp4]
                    exact run_restAt (some ⟨b, off + 1, none⟩) q cp q (Nat.le_refl _) W
                  have HS4 : Hid (CS w wr B (restA (some ⟨b, off + 1, none⟩) cp q) q4 (ps.drop q) s) := Lib.hid (by rw [← hq4]; exact HSP.out.rest (Nat.le_refl _) hqc)
                  generalize restA (some ⟨b, off + 1, none⟩) cp q = A4 at *
                  have hmin : min 4 ps.length = q := by omega
                  have HQ4 : Hid (q4 ≤ cp4 ∧ q4 ≤ q) := Lib.hid (by omega)
                  clear hq4 hcp4
                  go_wp2_with fail
                  exact ⟨⟨A4, q4, cp4, (ps.drop q), s, rfl, HQ4.out.1, Lib.hid (HS4.out), hsb, Lib.hid (fun x hx => HWP.out x (List.mem_of_mem_drop hx)), Lib.hid (by have e := apl_col2 (s := s) (z := 38) (ps := ps) (.inl rfl) (by omega) (by omega) (by omega); rw [hmin] at e; exact e.symm.trans HEP.out)⟩, by have := HN.out; have := HQ4.out; simp [lenOf]; omega⟩
                · have h2b : (p0 == 2) = false := by simpa using h2
                  go_wp2_with fail
                  exact ⟨⟨some ⟨b, off + 1, none⟩, q, cp, ps, s, rfl, by omega, Lib.hid (HSP.out), hsb, HWP, Lib.hid ((apl_col0 (.inl rfl) (by omega) (by omega)).symm.trans HEP.out)⟩, by have := HN.out; simp [lenOf]; omega⟩
          · by_cases hz48 : z = 48
            · subst hz48
              have hps := HN.out.2.2
              by_cases hq0 : q = 0
              · subst hq0
                go_wp2_with fail
                exact ⟨⟨A1, 0, cp, ps, s, rfl, by omega, Lib.hid (HSP.out), hsb, HWP, Lib.hid ((apl_col0 (.inr rfl) (by omega) (by omega)).symm.trans HEP.out)⟩, by have := HN.out; simp [lenOf]; omega⟩
              · have hqp : 0 < q := by omega
                have hqi : (0 : Int) < (q : Int) := by omega
                have hA1 := HA1.out hqp
                subst hA1
                have c1 : wr.cell? ⟨b, off + 1, none⟩ = some (.int .i64 (ps.getD 0 0)) := HPC.out 0 hqp
                have HP0 := Lib.hid (rfl : ps.getD 0 0 = ps.getD 0 0)
                obtain ⟨p0, hp0⟩ : ∃ p, ps.getD 0 0 = p := ⟨_, rfl⟩
                rw [hp0] at c1
                by_cases hq1 : 1 < q
                · have hq1i : (1 : Int) < (q : Int) := by omega
                  by_cases h5 : p0 = 5
                  · have h5b : (p0 == 5) = true := by simp [h5]
                    have c2 : wr.cell? ⟨b, off + 1 + 1, none⟩ = some (.int .i64 (ps.getD 1 0)) := HPC.out 1 (by omega)
                    obtain ⟨p1, hp1⟩ : ∃ p, ps.getD 1 0 = p := ⟨_, rfl⟩
                    rw [hp1] at c2
                    obtain ⟨q2, hq2⟩ : ∃ x, q - 2 = x := ⟨_, rfl⟩
                    obtain ⟨cp2, hcp2⟩ : ∃ x, cp - 2 = x := ⟨_, rfl⟩
                    have hr2 : ∀ W, (Instr.sliceAt 24 (.slice (some ⟨b, off + 1, none⟩) q cp) (some (.int .i64 2)) none none).run Try.prog W = .ok (.slice (restA (some ⟨b, off + 1, none⟩) cp 2) q2 cp2) W := fun W => by
                      rw [← hq2, ← hcp2]
                      exact run_restAt (some ⟨b, off + 1, none⟩) q cp 2 (by omega) W
                    have HS2 : Hid (CS w wr B (restA (some ⟨b, off + 1, none⟩) cp 2) q2 (ps.drop 2) s) := Lib.hid (by rw [← hq2]; exact HSP.out.rest (by omega) hqc)
                    generalize restA (some ⟨b, off + 1, none⟩) cp 2 = A2 at *
                    have HQ2 : Hid (q2 ≤ cp2 ∧ q2 ≤ q) := Lib.hid (by omega)
                    have HE5 : Hid (aplS (if 0 ≤ p1 ∧ p1 ≤ 255 then ⟨s.fg, p1, s.b⟩ else s) (ps.drop 2) = R) := Lib.hid (by
                      have e := apl_col5 (s := s) (z := 48) (ps := ps) (.inr rfl) (by omega) (by omega)
                      rw [if_pos (rfl : (48 : Int) = 48), hp1] at e
                      exact e.symm.trans HEP.out)
                    have HWD : Hid (∀ x ∈ ps.drop 2, (Lit.int .i64 x).wf = true) := Lib.hid (fun x hx => HWP.out x (List.mem_of_mem_drop hx))
                    have cB : wr.cell? ⟨B, 1, none⟩ = some (.int .i64 s.bg) := (cell_of_row wr B 1 _ _ (0, 0) HS2.out.hB).trans rfl
                    have fB := frozen_of_row wr B 1 _ _ HS2.out.hB
                    clear hq2 hcp2 hp1
                    by_cases ha : 0 ≤ p1
                    · by_cases hb : p1 ≤ 255
                      · go_wp2_with fail
                        exact ⟨⟨A2, q2, cp2, _, ⟨s.fg, p1, s.b⟩, rfl, HQ2.out.1, Lib.hid (HS2.out.bg p1), hsb, HWD, Lib.hid (by rw [← HE5.out, if_pos ⟨ha, hb⟩])⟩, by have := HN.out; have := HQ2.out; simp [lenOf]; omega⟩
                      · go_wp2_with fail
                        exact ⟨⟨A2, q2, cp2, _, s, rfl, HQ2.out.1, HS2, hsb, HWD, Lib.hid (by rw [← HE5.out, if_neg (fun h => hb h.2)])⟩, by have := HN.out; have := HQ2.out; simp [lenOf]; omega⟩
                    · go_wp2_with fail
                      exact ⟨⟨A2, q2, cp2, _, s, rfl, HQ2.out.1, HS2, hsb, HWD, Lib.hid (by rw [← HE5.out, if_neg (fun h => ha h.1)])⟩, by have := HN.out; have := HQ2.out; simp [lenOf]; omega⟩
                  · have h5b : (p0 == 5) = false := by simpa using h5
                    by_cases h2 : p0 = 2
                    · have h2b : (p0 == 2) = true := by simp [h2]
                      by_cases h4 : 4 ≤ q
                      · have h4i : (4 : Int) ≤ (q : Int) := by omega
                        obtain ⟨q4, hq4⟩ : ∃ x, q - 4 = x := ⟨_, rfl⟩
                        obtain ⟨cp4, hcp4⟩ : ∃ x, cp - 4 = x := ⟨_, rfl⟩
                        have hr4 : ∀ W, (Instr.sliceAt 24 (.slice (some ⟨b, off + 1, none⟩) q cp) (some (.int .i64 4)) none none).run Try.prog W = .ok (.slice (restA (some ⟨b, off + 1, none⟩) cp 4) q4 cp4) W := fun W => by
                          rw [← hq4, ← hcp4]
                          exact run_restAt (some ⟨b, off + 1, none⟩) q cp 4 h4 W
                        have HS4 : Hid (CS w wr B (restA (some ⟨b, off + 1, none⟩) cp 4) q4 (ps.drop 4) s) := Lib.hid (by rw [← hq4]; exact HSP.out.rest h4 hqc)
                        generalize restA (some ⟨b, off + 1, none⟩) cp 4 = A4 at *
                        have hmin : min 4 ps.length = 4 := by omega
                        have HQ4 : Hid (q4 ≤ cp4 ∧ q4 ≤ q) := Lib.hid (by omega)
                        clear hq4 hcp4
                        go_wp2_with fail
                        exact ⟨⟨A4, q4, cp4, (ps.drop 4), s, rfl, HQ4.out.1, Lib.hid (HS4.out), hsb, Lib.hid (fun x hx => HWP.out x (List.mem_of_mem_drop hx)), Lib.hid (by have e := apl_col2 (s := s) (z := 48) (ps := ps) (.inr rfl) (by omega) (by omega) (by omega); rw [hmin] at e; exact e.symm.trans HEP.out)⟩, by have := HN.out; have := HQ4.out; simp [lenOf]; omega⟩
                      · have h4i : ¬ (4 : Int) ≤ (q : Int) := by omega
                        have h4j : (q : Int) ≤ 4 := by omega
                        have h4k : (q : Int) < 4 := by omega
                        obtain ⟨q4, hq4⟩ : ∃ x, q - q = x := ⟨_, rfl⟩
                        obtain ⟨cp4, hcp4⟩ : ∃ x, cp - q = x := ⟨_, rfl⟩
                        have hr4 : ∀ W, (Instr.sliceAt 24 (.slice (some ⟨b, off + 1, none⟩) q cp) (some (.int .i64 (q : Nat))) none none).run Try.prog W = .ok (.slice (restA (some ⟨b, off + 1, none⟩) cp q) q4 cp4) W := fun W => by
                          rw [← hq4, ← hcp4]
                          exact run_restAt (some ⟨b, off + 1, none⟩) q cp q (Nat.le_refl _) W
                        have HS4 : Hid (CS w wr B (restA (some ⟨b, off + 1, none⟩) cp q) q4 (ps.drop q) s) := Lib.hid (by rw [← hq4]; exact HSP.out.rest (Nat.le_refl _) hqc)
                        generalize restA (some ⟨b, off + 1, none⟩) cp q = A4 at *
                        have hmin : min 4 ps.length = q := by omega
                        have HQ4 : Hid (q4 ≤ cp4 ∧ q4 ≤ q) := Lib.hid (by omega)
                        clear hq4 hcp4
                        go_wp2_with fail
                        exact ⟨⟨A4, q4, cp4, (ps.drop q), s, rfl, HQ4.out.1, Lib.hid (HS4.out), hsb, Lib.hid (fun x hx => HWP.out x (List.mem_of_mem_drop hx)), Lib.hid (by have e := apl_col2 (s := s) (z := 48) (ps := ps) (.inr rfl) (by omega) (by omega) (by omega); rw [hmin] at e; exact e.symm.trans HEP.out)⟩, by have := HN.out; have := HQ4.out; simp [lenOf]; omega⟩
                    · have h2b : (p0 == 2) = false := by simpa using h2
                      go_wp2_with fail
                      exact ⟨⟨some ⟨b, off + 1, none⟩, q, cp, ps, s, rfl, by omega, Lib.hid (HSP.out), hsb, HWP, Lib.hid ((apl_col0 (.inr rfl) (by omega) (by omega)).symm.trans HEP.out)⟩, by have := HN.out; simp [lenOf]; omega⟩
                · have hq1i : ¬ (1 : Int) < (q : Int) := by omega
                  by_cases h2 : p0 = 2
                  · have h2b : (p0 == 2) = true := by simp [h2]
                    have h4 : ¬ 4 ≤ q := by omega
                    have h4i : ¬ (4 : Int) ≤ (q : Int) := by omega
                    have h4j : (q : Int) ≤ 4 := by omega
                    have h4k : (q : Int) < 4 := by omega
                    obtain ⟨q4, hq4⟩ : ∃ x, q - q = x := ⟨_, rfl⟩
                    obtain ⟨cp4, hcp4⟩ : ∃ x, cp - q = x := ⟨_, rfl⟩
                    have hr4 : ∀ W, (Instr.sliceAt 24 (.slice (some ⟨b, off + 1, none⟩) q cp) (some (.int .i64 (q : Nat))) none none).run Try.prog W = .ok (.slice (restA (some ⟨b, off + 1, none⟩) cp q) q4 cp4) W := fun W => by
                      rw [← hq4, ← hcp4]
                      exact run_restAt (some ⟨b, off + 1, none⟩) q cp q (Nat.le_refl _) W
                    have HS4 : Hid (CS w wr B (restA (some ⟨b, off + 1, none⟩) cp q) q4 (ps.drop q) s) := Lib.hid (by rw [← hq4]; exact HSP.out.rest (Nat.le_refl _) hqc)
                    generalize restA (some ⟨b, off + 1, none⟩) cp q = A4 at *
                    have hmin : min 4 ps.length = q := by omega
                    have HQ4 : Hid (q4 ≤ cp4 ∧ q4 ≤ q) := Lib.hid (by omega)
                    clear hq4 hcp4
                    go_wp2_with fail
                    exact ⟨⟨A4, q4, cp4, (ps.drop q), s, rfl, HQ4.out.1, Lib.hid (HS4.out), hsb, Lib.hid (fun x hx => HWP.out x (List.mem_of_mem_drop hx)), Lib.hid (by have e := apl_col2 (s := s) (z := 48) (ps := ps) (.inr rfl) (by omega) (by omega) (by omega); rw [hmin] at e; exact e.symm.trans HEP.out)⟩, by have := HN.out; have := HQ4.out; simp [lenOf]; omega⟩
                  · have h2b : (p0 == 2) = false := by simpa using h2
                    go_wp2_with fail
                    exact ⟨⟨some ⟨b, off + 1, none⟩, q, cp, ps, s, rfl, by omega, Lib.hid (HSP.out), hsb, HWP, Lib.hid ((apl_col0 (.inr rfl) (by omega) (by omega)).symm.trans HEP.out)⟩, by have := HN.out; simp [lenOf]; omega⟩
            · have hz48b : (z == 48) = false := by simpa using hz48
              have hz38b : (z == 38) = false := by simpa using hz38
              go_wp2_with (with_reducible refine wpList_ldS rfl (.tmp 2) rfl rfl HSP.out.hB ?_)
              refine (bits_any s hsb _).mono ?_
              rintro e w1 ⟨rfl, hb⟩
              have HS1 := Lib.hid (HSP.out.below hb)
              clear hb
              go_wp2_with fail
              go_loopw [7, 80] (fun bv i wr => ∃ k : Nat, k ≤ 8 ∧ i = .int .i64 k ∧ bv = .int .i64 (flB z s.b k : Nat) ∧ Hid (CS w wr B A1 q ps s)) (fun _ i _ => 8 - (intOf i).toNat)
              case atStart => exact ⟨0, by omega, rfl, rfl, HS1⟩
              case round =>
                clear HS1
                obtain ⟨k, hk, rfl, rfl, HS1⟩ := hrel
                by_cases hk8 : k < 8
                · have hki : (k : Int) < 8 := by omega
                  have hk0 : (0 : Int) ≤ (k : Int) := by omega
                  have hix := fun w => run_index_on (w := w) hk8
                  have hiy := fun w => run_index_off (w := w) hk8
                  obtain ⟨hsh, hk64⟩ := shl_one k hk8
                  have hml := flB_lt (n := z) hsb k (by omega)
                  have HST : Hid (flB z s.b (k + 1) = if offT k = z then (if onT k = z then flB z s.b k ||| 2 ^ k else flB z s.b k) - (if tb (if onT k = z then flB z s.b k ||| 2 ^ k else flB z s.b k) k then 2 ^ k else 0) else (if onT k = z then flB z s.b k ||| 2 ^ k else flB z s.b k)) := Lib.hid rfl
                  obtain ⟨m, hm⟩ : ∃ m, flB z s.b k = m := ⟨_, rfl⟩
                  rw [hm] at HST hml
                  rw [hm]
                  clear hm
                  have hor := (or_bit m hml k hk8).1
                  obtain ⟨m1, hm1⟩ : ∃ m1, (if onT k = z then m ||| 2 ^ k else m) = m1 := ⟨_, rfl⟩
                  have hm1l : m1 < 256 := by rw [← hm1]; split; exact or_lt hml hk8; exact hml
                  have han := (or_bit m1 hm1l k hk8).2
                  rw [hm1] at HST
                  obtain ⟨m2, hm2⟩ : ∃ m2, m1 - (if tb m1 k then 2 ^ k else 0) = m2 := ⟨_, rfl⟩
                  rw [hm2] at HST han
                  clear hm2
                  obtain ⟨p, hp⟩ : ∃ p : Nat, 2 ^ k = p := ⟨_, rfl⟩
                  rw [hp] at hsh hor han hm1
                  have hpi : (2 : Int) ^ k = (p : Int) := by rw [← hp]; simp
                  rw [hpi] at hsh
                  clear hp
                  obtain ⟨o, ho⟩ : ∃ o, onT k = o := ⟨_, rfl⟩
                  obtain ⟨f, hf⟩ : ∃ f, offT k = f := ⟨_, rfl⟩
                  rw [ho] at hix hm1
                  rw [hf] at hiy HST
                  clear ho hf
                  by_cases h1 : o = z
                  · rw [if_pos h1] at hm1
                    have h1b : (o == z) = true := by simp [h1]
                    by_cases h2 : f = z
                    · have h2b : (f == z) = true := by simp [h2]
                      rw [if_pos h2] at HST
                      subst hm1
                      clear h1 h2
                      go_wp2_with fail
                      refine (ons_any _).mono ?_
                      rintro e w1 ⟨rfl, hb⟩
                      have HS2 := Lib.hid (HS1.out.below hb)
                      clear hb
                      go_wp2_with fail
                      refine (offs_any _).mono ?_
                      rintro e w1 ⟨rfl, hb⟩
                      have HS3 := Lib.hid (HS2.out.below hb)
                      clear hb
                      go_wp2_with fail
                      exact ⟨⟨k + 1, by omega, by go_num, by rw [HST.out], HS3⟩, by simp [intOf]; omega⟩
                    · have h2b : (f == z) = false := by simpa using h2
                      rw [if_neg h2] at HST
                      subst hm1
                      clear h1 h2
                      go_wp2_with fail
                      refine (ons_any _).mono ?_
                      rintro e w1 ⟨rfl, hb⟩
                      have HS2 := Lib.hid (HS1.out.below hb)
                      clear hb
                      go_wp2_with fail
                      refine (offs_any _).mono ?_
                      rintro e w1 ⟨rfl, hb⟩
                      have HS3 := Lib.hid (HS2.out.below hb)
                      clear hb
                      go_wp2_with fail
                      exact ⟨⟨k + 1, by omega, by go_num, by rw [HST.out], HS3⟩, by simp [intOf]; omega⟩
                  · rw [if_neg h1] at hm1
                    have h1b : (o == z) = false := by simpa using h1
                    by_cases h2 : f = z
                    · have h2b : (f == z) = true := by simp [h2]
                      rw [if_pos h2] at HST
                      subst hm1
                      clear h1 h2
                      go_wp2_with fail
                      refine (ons_any _).mono ?_
                      rintro e w1 ⟨rfl, hb⟩
                      have HS2 := Lib.hid (HS1.out.below hb)
                      clear hb
                      go_wp2_with fail
                      refine (offs_any _).mono ?_
                      rintro e w1 ⟨rfl, hb⟩
                      have HS3 := Lib.hid (HS2.out.below hb)
                      clear hb
                      go_wp2_with fail
                      exact ⟨⟨k + 1, by omega, by go_num, by rw [HST.out], HS3⟩, by simp [intOf]; omega⟩
                    · have h2b : (f == z) = false := by simpa using h2
                      rw [if_neg h2] at HST
                      subst hm1
                      clear h1 h2
                      go_wp2_with fail
                      refine (ons_any _).mono ?_
                      rintro e w1 ⟨rfl, hb⟩
                      have HS2 := Lib.hid (HS1.out.below hb)
                      clear hb
                      go_wp2_with fail
                      refine (offs_any _).mono ?_
                      rintro e w1 ⟨rfl, hb⟩
                      have HS3 := Lib.hid (HS2.out.below hb)
                      clear hb
                      go_wp2_with fail
                      exact ⟨⟨k + 1, by omega, by go_num, by rw [HST.out], HS3⟩, by simp [intOf]; omega⟩
                · obtain rfl : k = 8 := by omega
                  have hml := flB_lt (n := z) hsb 8 (by omega)
                  have HST : Hid (stepP s z = ⟨if (colF z 30).2 then (colF z 30).1 else s.fg, if (colF z 40).2 then (colF z 40).1 else s.bg, flB z s.b 8⟩) := Lib.hid rfl
                  obtain ⟨m, hm⟩ : ∃ m, flB z s.b 8 = m := ⟨_, rfl⟩
                  rw [hm] at HST hml
                  rw [hm]
                  clear hm
                  have HC3 := fun w => colored_any z 30 w hwz' (.inl rfl)
                  have HC4 := fun w => colored_any z 40 w hwz' (.inr rfl)
                  obtain ⟨⟨x3, d3⟩, hx3⟩ : ∃ c, colF z 30 = c := ⟨_, rfl⟩
                  obtain ⟨⟨x4, d4⟩, hx4⟩ : ∃ c, colF z 40 = c := ⟨_, rfl⟩
                  rw [hx3, hx4] at HST
                  rw [hx3] at HC3
                  rw [hx4] at HC4
                  have HC3 := Lib.hid HC3
                  have HC4 := Lib.hid HC4
                  have HEQ : Hid (aplS (stepP s z) ps = R) := Lib.hid ((apl_step hz0 (by omega)).symm.trans HEP.out)
                  clear hx3 hx4
                  go_wp2_with (with_reducible refine wpList_ldS rfl (.tmp 2) rfl rfl HS1.out.hB ?_)
                  refine (flagged_any s m hml _).mono ?_
                  rintro e w2 ⟨rfl, hb⟩
                  have HS2 := Lib.hid (HS1.out.below hb)
                  clear hb HS1
                  go_wp2_with (with_reducible refine wpList_stS rfl (.tmp 2) (.tmp 106) rfl rfl rfl HS2.out.hB ?_)
                  have HS3 := Lib.hid (HS2.out.set ⟨s.fg, s.bg, m⟩)
                  generalize w2.setRow B (Sty.row ⟨s.fg, s.bg, m⟩) = w3 at *
                  clear HS2
                  refine (HC3.out w3).mono ?_
                  rintro e w4 ⟨rfl, rfl⟩
                  have cB : w4.cell? ⟨B, 0, none⟩ = some (.int .i64 s.fg) := (cell_of_row w4 B 0 _ _ (0, 0) HS3.out.hB).trans rfl
                  have fB := frozen_of_row w4 B 0 _ _ HS3.out.hB
                  cases d3
                  · go_wp2_with fail
                    refine (HC4.out _).mono ?_
                    rintro e w5 ⟨rfl, rfl⟩
                    have cC : w5.cell? ⟨B, 1, none⟩ = some (.int .i64 s.bg) := (cell_of_row w5 B 1 _ _ (0, 0) HS3.out.hB).trans rfl
                    have fC := frozen_of_row w5 B 1 _ _ HS3.out.hB
                    cases d4
                    · go_wp2_with fail
                      exact ⟨⟨A1, q, cp, ps, stepP s z, rfl, hqc, Lib.hid (by rw [HST.out]; exact HS3.out), stepP_lt hsb, HWP, HEQ⟩, by have := HN.out; simp [lenOf]; omega⟩
                    · go_wp2_with fail
                      exact ⟨⟨A1, q, cp, ps, stepP s z, rfl, hqc, Lib.hid (by rw [HST.out]; exact HS3.out.bg x4), stepP_lt hsb, HWP, HEQ⟩, by have := HN.out; simp [lenOf]; omega⟩
                  · go_wp2_with fail
                    have HS4 := Lib.hid (HS3.out.fg x3)
                    generalize w4.setCell ⟨B, 0, none⟩ (.int .i64 x3) = w5 at *
                    refine (HC4.out _).mono ?_
                    rintro e w6 ⟨rfl, rfl⟩
                    have cC : w6.cell? ⟨B, 1, none⟩ = some (.int .i64 s.bg) := (cell_of_row w6 B 1 _ _ (0, 0) HS4.out.hB).trans rfl
                    have fC := frozen_of_row w6 B 1 _ _ HS4.out.hB
                    clear cB fB
                    cases d4
                    · go_wp2_with fail
                      exact ⟨⟨A1, q, cp, ps, stepP s z, rfl, hqc, Lib.hid (by rw [HST.out]; exact HS4.out), stepP_lt hsb, HWP, HEQ⟩, by have := HN.out; simp [lenOf]; omega⟩
                    · go_wp2_with fail
                      exact ⟨⟨A1, q, cp, ps, stepP s z, rfl, hqc, Lib.hid (by rw [HST.out]; exact HS4.out.bg x4), stepP_lt hsb, HWP, HEQ⟩, by have := HN.out; simp [lenOf]; omega⟩
end Go.Proofs.Ytlejmllacikmeaa
