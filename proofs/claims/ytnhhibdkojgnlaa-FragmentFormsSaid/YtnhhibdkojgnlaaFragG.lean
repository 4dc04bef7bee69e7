/- What is proved: what Read of the reference answers when it is called; conditions: those typed. -/
import Derived.Test.YtnhhibdkojgnlaaFragF
set_option linter.unusedSimpArgs false
set_option linter.unusedVariables false
namespace Go.Proofs.Ytnhhibdkojgnlaa
open Go.RowKit
set_option maxRecDepth 100000
set_option maxHeartbeats 8000000
theorem readPF_e1 {bs : List Int} {x c er : Nat} (h : readS bs = (x, c, er)) (he : er ≠ 0) : readPF bs = (er, none) := by
  have h1 : (readS bs).2.2 = er := by rw [h]
  unfold readPF
  rw [if_pos (by omega), h1]
theorem readPF_e2 {bs : List Int} {x c x2 c2 er : Nat} (h : readS bs = (x, c, 0)) (h2 : readS (bs.drop c) = (x2, c2, er)) (he : er ≠ 0) : readPF bs = (er, none) := by
  have h1 : (readS bs).2.2 = 0 := by rw [h]
  have h3 : (readS bs).2.1 = c := by rw [h]
  have h4 : (readS (bs.drop (readS bs).2.1)).2.2 = er := by rw [h3, h2]
  unfold readPF
  rw [if_neg (by omega), if_pos (by omega), h4]
theorem readPF_ok {bs : List Int} {x c x2 c2 : Nat} (h : readS bs = (x, c, 0)) (h2 : readS (bs.drop c) = (x2, c2, 0)) : readPF bs = if mayB (min (x2 / 2) 256 : Nat) (x2 % 2 == 1) (bs.drop (c + c2)).length then (0, some (x, min (x2 / 2) 256, x2 % 2 == 1, bs.drop (c + c2))) else (8, none) := by
  have h1 : (readS bs).2.2 = 0 := by rw [h]
  have h3 : (readS bs).2.1 = c := by rw [h]
  have h4 : (readS (bs.drop c)).2.2 = 0 := by rw [h2]
  have h5 : (readS (bs.drop c)).2.1 = c2 := by rw [h2]
  have h6 : (readS (bs.drop c)).1 = x2 := by rw [h2]
  have h7 : (readS bs).1 = x := by rw [h]
  unfold readPF
  rw [h3, h5, h6, h7, if_neg (by omega), if_neg (by omega)]
theorem readPF_big {bs : List Int} {x c x2 c2 : Nat} (h : readS bs = (x, c, 0)) (h2 : readS (bs.drop c) = (x2, c2, 0)) (hb : 512 ≤ x2) : readPF bs = (8, none) := by
  rw [readPF_ok h h2, show min (x2 / 2) 256 = 256 by omega]
  simp [mayB]
theorem rread_any (v : Value) (bs : List Int) (w : World) (hv : BB w v bs) :
    Calls Try.prog 17 #[v] w fun e w' => ReadOk (readPF bs) w' w.heap.size e ∧ Below w.heap.size w w' := by
  obtain ⟨B, hB⟩ : ∃ B, w.heap.size = B := ⟨_, rfl⟩
  obtain ⟨r, hr⟩ : ∃ r, readPF bs = r := ⟨_, rfl⟩
  rw [hr, hB]
  have HR := Lib.hid hr
  clear hr
  obtain ⟨V, hV⟩ : ∃ V, w.alloc (.cells #[.int .u64 0, .int .i64 0, .bool false, .slice none 0 0] 33) = V := ⟨_, rfl⟩
  have HL0 := Lib.hid (show Below B w V by rw [← hV, ← hB]; (repeat' (first | (with_reducible exact Below.refl _ _) | (with_reducible assumption) | (with_reducible refine Below.alloc ?_ ?_ _) | (with_reducible refine below_setRow ?_ ?_ _) | (with_reducible refine bl_drew ?_) | (with_reducible refine bl_drewN ?_ _) | (with_reducible refine Below.setCell ?_ ?_ _) | (with_reducible refine bl_then ?_ ?_ hb) | (with_reducible refine bl_then ?_ ?_ hb1) | (with_reducible refine bl_then ?_ ?_ hb2) | (with_reducible refine bl_then ?_ ?_ hb3) | (with_reducible refine bl_then ?_ ?_ hb4) | (with_reducible refine bl_then ?_ ?_ hb5) | (with_reducible refine bl_then ?_ ?_ hb6) | (with_reducible refine bl_then ?_ ?_ hb7) | (with_reducible refine bl_then ?_ ?_ hb8) | (with_reducible exact Nat.le_refl _) | omega | (simp only [World.size_alloc, World.size_setCell, World.size_drew, size_setRow]; omega) | (simp; omega) | (simp; done))))
  have HR0 : Hid (V.heap[B]? = some (.cells #[.int .u64 0, .int .i64 0, .bool false, .slice none 0 0] 33 (0, 0))) := Lib.hid (by rw [← hV, ← hB]; exact heap_alloc_last _ _)
  have hvV := hv.below (by rw [hB]; exact HL0.out)
  have HV := Lib.hid hvV
  clear hvV
  obtain ⟨hok, hlen, A, cap, rfl, _, _, hlc, hcm⟩ := hv
  have hz : ∀ w, (zeroValue 33).run Try.prog w = .ok (.agg #[.int .u64 0, .int .i64 0, .bool false, .slice none 0 0]) w := zero_part
  obtain ⟨x, c, er, hs⟩ : ∃ x c er, readS bs = (x, c, er) := ⟨_, _, _, rfl⟩
  have HC := Lib.hid (refread_any _ bs V HV.out)
  rw [hs] at HC
  obtain ⟨l, hl⟩ : ∃ l, bs.length = l := ⟨_, rfl⟩
  have HLEN := Lib.hid hl
  rw [hl] at hlen hlc HC ⊢
  by_cases he : er = 0
  · subst he
    have hg := readS_good hok (by rw [hs])
    rw [hs] at hg
    obtain ⟨-, hcl, hxl, -⟩ := hg
    dsimp only at hcl hxl
    rw [hl] at hcl
    have hrr : ∀ W, (Instr.sliceAt 28 (.slice A l cap) (some (.int .i64 c)) none none).run Try.prog W = .ok (.slice (restA A cap c) (l - c) (cap - c)) W := fun W => run_restAt A l cap c hcl W
    have HRB := Lib.hid (restB (n := c) HV.out (by omega))
    rw [hl] at HRB
    obtain ⟨x2, c2, er2, hs2⟩ : ∃ x2 c2 er2, readS (bs.drop c) = (x2, c2, er2) := ⟨_, _, _, rfl⟩
    obtain ⟨v2, hv2⟩ : ∃ v2, Value.slice (restA A cap c) (l - c) (cap - c) = v2 := ⟨_, rfl⟩
    rw [hv2] at HRB
    have HC2 : Hid (∀ W, Below V.heap.size V W → Calls Try.prog 33 #[v2] W fun e w' => e = .returned (.tuple #[.int .u64 x2, .int .i64 c2, .int .i64 er2]) ∧ Below W.heap.size W w') := Lib.hid (fun W hb => by
      have h := refread_any v2 _ W (HRB.out.below hb)
      rw [hs2] at h
      exact h)
    by_cases he2 : er2 = 0
    · subst he2
      have hg2 := readS_good (hok.drop c) (by rw [hs2])
      rw [hs2, List.length_drop, hl] at hg2
      obtain ⟨-, hcl2, hxl2, -⟩ := hg2
      dsimp only at hcl2 hxl2
      by_cases hbig : 512 ≤ x2
      · have HE := Lib.hid (readPF_big hs hs2 hbig)
        rw [HR.out] at HE
        have hb1 : ¬ (x2 : Int) < 512 := by omega
        have hb2 : (512 : Int) ≤ (x2 : Int) := by omega
        clear hs hs2 hok hl
        go_enter Try.func17, Try.ntmps17
        go_wp2_with fail
        refine HC.out.mono ?_
        rintro e w1 ⟨rfl, hb⟩
        have HL1 := Lib.hid (bl_then HL0.out (by have := lt_of_heap HR0.out; omega) hb)
        have HR1 := Lib.hid ((hb.block B (lt_of_heap HR0.out)).trans HR0.out)
        have HBL := Lib.hid hb
        clear hb HC HL0 HR0 hV
        go_wp2_with fail
        try rw [hv2]
        refine (HC2.out _ HBL.out).mono ?_
        rintro e w2 ⟨rfl, hb⟩
        have HL2 := Lib.hid (bl_then HL1.out (by have := lt_of_heap HR1.out; omega) hb)
        have HRR := Lib.hid ((hb.block B (lt_of_heap HR1.out)).trans HR1.out)
        clear hb HL1 HR1 HBL HC2
        go_wp2_with (first | (with_reducible refine wpList_stB (row := #[.int .u64 0, .int .i64 0, .bool false, .slice none 0 0]) partInfo (by simp [Value.oneCell']) rfl (.tmp 2) (.tmp 34) rfl rfl rfl HRR.out rfl ?_))
        refine bodyPost_ret (v := .tuple #[.agg #[.int .u64 0, .int .i64 0, .bool false, .slice none 0 0], .int .i64 8]) ?_ rfl ⟨ReadOk.err (er := 8) HE.out _ _, below_setRow HL2.out (by omega) _⟩
        (exact results_cs (fn := Try.f17) Try.results17 rfl (run_loadVar_blk partInfo partRow (setRow_heap _ _ _ _ _ _ HRR.out)))
      · have hb1 : (x2 : Int) < 512 := by omega
        have hb2 : ¬ (512 : Int) ≤ (x2 : Int) := by omega
        have HE0 := Lib.hid (readPF_ok hs hs2)
        rw [HR.out] at HE0
        obtain ⟨q, hq⟩ : ∃ q, x2 / 2 = q := ⟨_, rfl⟩
        obtain ⟨b, hb⟩ : ∃ b, (x2 % 2 == 1) = b := ⟨_, rfl⟩
        rw [show min (x2 / 2) 256 = q by omega, hb] at HE0
        have hqd : Int.tdiv (x2 : Int) 2 = (q : Int) := by rw [← hq]; exact (Int.ofNat_tdiv _ _)
        have hqe : (x2 : Int) / 2 = (q : Int) := by omega
        have hwq : IntKind.u64.wrap (q : Int) = (q : Int) := by rw [IntKind.wrap_u64]; omega
        have hwq2 : IntKind.i64.wrap (q : Int) = (q : Int) := IntWalk.i64_in _ (by omega)
        have hbm : ((x2 : Int) % 2 == 1) = b := by
          rw [← hb, Bool.eq_iff_iff]
          simp only [beq_iff_eq]
          omega
        have hbt : (Int.tmod (x2 : Int) 2 == 1) = b := by
          rw [← hbm, Int.tmod_eq_emod_of_nonneg (by omega)]
        have hwm : IntKind.u64.wrap (Int.tmod (x2 : Int) 2) = Int.tmod (x2 : Int) 2 := by
          rw [Int.tmod_eq_emod_of_nonneg (by omega), IntKind.wrap_u64]
          omega
        have hwm2 : IntKind.u64.wrap ((x2 : Int) % 2) = (x2 : Int) % 2 := by
          rw [IntKind.wrap_u64]
          omega
        obtain ⟨d, hd⟩ : ∃ d, c + c2 = d := ⟨_, rfl⟩
        have hwd : IntKind.i64.wrap ((c : Int) + (c2 : Int)) = (d : Int) := (IntWalk.i64_in _ (by omega)).trans (by omega)
        have hdl : d ≤ l := by omega
        have hrd : ∀ W, (Instr.sliceAt 28 (.slice A l cap) (some (.int .i64 d)) none none).run Try.prog W = .ok (.slice (restA A cap d) (l - d) (cap - d)) W := fun W => run_restAt A l cap d hdl W
        have HRD := Lib.hid (restB (n := d) HV.out (by omega))
        rw [hl] at HRD
        rw [hd] at HE0
        obtain ⟨v3, hv3⟩ : ∃ v3, Value.slice (restA A cap d) (l - d) (cap - d) = v3 := ⟨_, rfl⟩
        rw [hv3] at HRD
        obtain ⟨rs, hrs⟩ : ∃ rs, bs.drop d = rs := ⟨_, rfl⟩
        rw [hrs] at HRD HE0
        obtain ⟨m, hm⟩ : ∃ m, mayB (q : Int) b rs.length = m := ⟨_, rfl⟩
        have HM := Lib.hid hm
        clear hs hs2 hok hl hq hb hd hrs hm
        go_enter Try.func17, Try.ntmps17
        go_wp2_with fail
        refine HC.out.mono ?_
        rintro e w1 ⟨rfl, hb⟩
        have HL1 := Lib.hid (bl_then HL0.out (by have := lt_of_heap HR0.out; omega) hb)
        have HR1 := Lib.hid ((hb.block B (lt_of_heap HR0.out)).trans HR0.out)
        have HBL := Lib.hid hb
        clear hb HC HL0 HR0 hV
        go_wp2_with fail
        try rw [hv2]
        refine (HC2.out _ HBL.out).mono ?_
        rintro e w2 ⟨rfl, hb⟩
        have HL2 := Lib.hid (bl_then HL1.out (by have := lt_of_heap HR1.out; omega) hb)
        have HR2 := Lib.hid ((hb.block B (lt_of_heap HR1.out)).trans HR1.out)
        have HV2 := Lib.hid ((HRD.out.below HBL.out).below hb)
        clear hb HL1 HR1 HBL HC2
        go_wp2_with fail
        try rw [hv3]
        refine (copy_bytes _ rs _ HV2.out).mono ?_
        rintro e w3 ⟨⟨vc, rfl, ho⟩, hb⟩
        obtain ⟨A3, c3, rfl⟩ := ho.slice
        have HL3 := Lib.hid (bl_then HL2.out (by have := lt_of_heap HR2.out; omega) hb)
        have HR3 := Lib.hid ((hb.block B (lt_of_heap HR2.out)).trans HR2.out)
        have HO3 := Lib.hid (ho.mono (b' := B + 1) (by have := lt_of_heap HR2.out; omega))
        have HONE := Lib.hid (one_row (x : Int) (q : Int) b ho)
        have HOK := Lib.hid HV2.out.ok
        have hrsl := HV2.out.len
        obtain ⟨X, hX⟩ : ∃ X, w3.heap.size = X := ⟨_, rfl⟩
        have hBX : B < X := by have := lt_of_heap HR3.out; omega
        have HX : Hid ((w3.alloc (.cells #[.int .u64 0, .int .i64 0, .bool false, .slice none 0 0] 33)).heap[X]? = some (.cells #[.int .u64 0, .int .i64 0, .bool false, .slice none 0 0] 33 (0, 0))) := Lib.hid (by rw [← hX]; exact heap_alloc_last _ _)
        have hbn : Below w3.heap.size w3 ((w3.alloc (.cells #[.int .u64 0, .int .i64 0, .bool false, .slice none 0 0] 33)).setRow X #[.int .u64 x, .int .i64 q, .bool b, .slice A3 rs.length c3]) := by rw [← hX]; exact below_new _ _ _
        have HL4 := Lib.hid (bl_then HL3.out (by omega) hbn)
        have HR4 := Lib.hid ((hbn.block B (lt_of_heap HR3.out)).trans HR3.out)
        have HO4 := Lib.hid (HO3.out.below hbn)
        have HX4 : Hid (((w3.alloc (.cells #[.int .u64 0, .int .i64 0, .bool false, .slice none 0 0] 33)).setRow X #[.int .u64 x, .int .i64 q, .bool b, .slice A3 rs.length c3]).heap[X]? = some (.cells #[.int .u64 x, .int .i64 q, .bool b, .slice A3 rs.length c3] 33 (0, 0))) := Lib.hid (by rw [← hX]; exact heap_new _ _ _)
        clear hb ho HL2 HR2 HV2 hbn HL3 HR3 HO3
        go_wp2_with (first | (with_reducible refine wpList_stB (row := #[.int .u64 x, .int .i64 q, .bool b, .slice A3 rs.length c3]) partInfo HONE.out rfl (.tmp 9) (.tmp 48) rfl rfl rfl HX.out rfl ?_) | (with_reducible refine wpList_ldB (row := #[.int .u64 x, .int .i64 q, .bool b, .slice A3 rs.length c3]) partInfo partRow rfl (.tmp 9) rfl rfl HX4.out ?_))
        refine (rmay_any x q b (.slice A3 rs.length c3) rs _ (HO4.out.rd HOK.out hrsl)).mono ?_
        rintro e w5 ⟨rfl, hb⟩
        rw [HM.out]
        have HL5 := Lib.hid (bl_then HL4.out (by have := lt_of_heap HR4.out; omega) hb)
        have HRR := Lib.hid ((hb.block B (lt_of_heap HR4.out)).trans HR4.out)
        have HX5 := Lib.hid ((hb.block X (lt_of_heap HX4.out)).trans HX4.out)
        have HO5 := Lib.hid (HO4.out.below hb)
        clear hb HL4 HR4 HX4 HO4 HX hX
        cases m with
        | false =>
          have HF : Hid (r = (8, none)) := Lib.hid (by rw [HE0.out, HM.out]; simp)
          go_wp2_with (first | (with_reducible refine wpList_stB (row := #[.int .u64 0, .int .i64 0, .bool false, .slice none 0 0]) partInfo (by simp [Value.oneCell']) rfl (.tmp 2) (.tmp 52) rfl rfl rfl HRR.out rfl ?_))
          refine bodyPost_ret (v := .tuple #[.agg #[.int .u64 0, .int .i64 0, .bool false, .slice none 0 0], .int .i64 8]) ?_ rfl ⟨ReadOk.err (er := 8) HF.out _ _, below_setRow HL5.out (by omega) _⟩
          (exact results_cs (fn := Try.f17) Try.results17 rfl (run_loadVar_blk partInfo partRow (setRow_heap _ _ _ _ _ _ HRR.out)))
        | true =>
          have HF : Hid (r = (0, some (x, q, b, rs))) := Lib.hid (by rw [HE0.out, HM.out]; simp)
          go_wp2_with (first | (with_reducible refine wpList_ldB (row := #[.int .u64 x, .int .i64 q, .bool b, .slice A3 rs.length c3]) partInfo partRow rfl (.tmp 9) rfl rfl HX5.out ?_) | (with_reducible refine wpList_stB (row := #[.int .u64 x, .int .i64 q, .bool b, .slice A3 rs.length c3]) partInfo HONE.out rfl (.tmp 2) (.tmp 53) rfl rfl rfl HRR.out rfl ?_))
          refine bodyPost_ret (v := .tuple #[.agg #[.int .u64 x, .int .i64 q, .bool b, .slice A3 rs.length c3], .int .i64 0]) ?_ rfl ⟨ReadOk.ok HF.out ((HO5.out.keep fun g hg hlt => setRow_other _ _ _ _ (fun e => by have := (HO5.out.own_blk hg).1; omega)).mono (by omega)), below_setRow HL5.out (by omega) _⟩
          (exact results_cs (fn := Try.f17) Try.results17 rfl (run_loadVar_blk partInfo partRow (setRow_heap _ _ _ _ _ _ HRR.out)))
    · have hei : ¬ (er2 : Int) = 0 := by omega
      have HE := Lib.hid (readPF_e2 hs hs2 he2)
      rw [HR.out] at HE
      clear hs hs2 hok hl
      go_enter Try.func17, Try.ntmps17
      go_wp2_with fail
      refine HC.out.mono ?_
      rintro e w1 ⟨rfl, hb⟩
      have HL1 := Lib.hid (bl_then HL0.out (by have := lt_of_heap HR0.out; omega) hb)
      have HR1 := Lib.hid ((hb.block B (lt_of_heap HR0.out)).trans HR0.out)
      have HBL := Lib.hid hb
      clear hb HC HL0 HR0 hV
      go_wp2_with fail
      try rw [hv2]
      refine (HC2.out _ HBL.out).mono ?_
      rintro e w2 ⟨rfl, hb⟩
      have HL2 := Lib.hid (bl_then HL1.out (by have := lt_of_heap HR1.out; omega) hb)
      have HRR := Lib.hid ((hb.block B (lt_of_heap HR1.out)).trans HR1.out)
      clear hb HL1 HR1 HBL HC2
      go_wp2_with (first | (with_reducible refine wpList_stB (row := #[.int .u64 0, .int .i64 0, .bool false, .slice none 0 0]) partInfo (by simp [Value.oneCell']) rfl (.tmp 2) (.tmp 30) rfl rfl rfl HRR.out rfl ?_))
      refine bodyPost_ret (v := .tuple #[.agg #[.int .u64 0, .int .i64 0, .bool false, .slice none 0 0], .int .i64 er2]) ?_ rfl ⟨ReadOk.err HE.out _ _, below_setRow HL2.out (by omega) _⟩
      (exact results_cs (fn := Try.f17) Try.results17 rfl (run_loadVar_blk partInfo partRow (setRow_heap _ _ _ _ _ _ HRR.out)))
  · have hei : ¬ (er : Int) = 0 := by omega
    have HE := Lib.hid (readPF_e1 hs he)
    rw [HR.out] at HE
    clear hs hok hl
    go_enter Try.func17, Try.ntmps17
    go_wp2_with fail
    refine HC.out.mono ?_
    rintro e w1 ⟨rfl, hb⟩
    have HL1 := Lib.hid (bl_then HL0.out (by have := lt_of_heap HR0.out; omega) hb)
    have HRR := Lib.hid ((hb.block B (lt_of_heap HR0.out)).trans HR0.out)
    clear hb HC HL0 HR0 hV
    go_wp2_with (first | (with_reducible refine wpList_stB (row := #[.int .u64 0, .int .i64 0, .bool false, .slice none 0 0]) partInfo (by simp [Value.oneCell']) rfl (.tmp 2) (.tmp 18) rfl rfl rfl HRR.out rfl ?_))
    refine bodyPost_ret (v := .tuple #[.agg #[.int .u64 0, .int .i64 0, .bool false, .slice none 0 0], .int .i64 er]) ?_ rfl ⟨ReadOk.err HE.out _ _, below_setRow HL1.out (by omega) _⟩
    (exact results_cs (fn := Try.f17) Try.results17 rfl (run_loadVar_blk partInfo partRow (setRow_heap _ _ _ _ _ _ HRR.out)))
end Go.Proofs.Ytnhhibdkojgnlaa
