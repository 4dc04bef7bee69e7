/- What is proved: the law WireFresh returns true when it is called; conditions: the slice reads as it is said to. -/
import Derived.Test.YtclnohifgjjngaaWireRA
import Derived.Test.YtclnohifgjjngaaWireU
set_option linter.unusedSimpArgs false
set_option linter.unusedVariables false
namespace Go.Proofs.Ytclnohifgjjngaa
open Go.RowKit
set_option maxRecDepth 100000
set_option maxHeartbeats 8000000
theorem readEv_nil {bs : List Int} (h0 : (readEvS bs).1 ≠ 0) : (readEvS bs).2 = [] := by
  unfold readEvS at h0 ⊢
  by_cases h1 : 65536 < bs.length
  · rw [if_pos h1]
  · rw [if_neg h1] at h0 ⊢
    by_cases h2 : (readS bs).2.2 ≠ 0
    · rw [if_pos h2]
    · rw [if_neg h2] at h0 ⊢
      by_cases h3 : 4096 < (readS bs).1
      · rw [if_pos h3]
      · rw [if_neg h3] at h0 ⊢
        by_cases h4 : (evsT (readS bs).1 (bs.drop (readS bs).2.1)).1 ≠ 0
        · rw [if_pos h4]
        · rw [if_neg h4] at h0 ⊢
          by_cases h5 : 0 < (evsT (readS bs).1 (bs.drop (readS bs).2.1)).2.2.length
          · rw [if_pos h5]
          · rw [if_neg h5] at h0
            exact absurd rfl h0
theorem mayS_len {e : Event} (h : mayS e = true) : e.bs.length ≤ 4096 := by
  unfold mayS mayB at h
  split at h
  · simp at h; omega
  · split at h
    · simp at h; simp [h]
    · split at h
      · simp at h; omega
      · split at h
        · simp at h; simp [h]
        · cases h
/-- Events that were read are few and short. -/
theorem readEv_few {bs : List Int} (hx : okB bs) : (readEvS bs).2.length ≤ 4096 ∧ ∀ e ∈ (readEvS bs).2, e.bs.length ≤ 4096 := by
  by_cases h : (readEvS bs).1 = 0
  · obtain ⟨h1, h2⟩ := readEv_forms hx h
    refine ⟨h2, fun e he => ?_⟩
    exact mayS_len ((writeEv_good (by rw [h1])).1 e he)
  · rw [readEv_nil h]
    exact ⟨by simp, by intro e he; cases he⟩
theorem readD_len {bs : List Int} (hx : okB bs) : (readD bs).length ≤ 65536 := by
  by_cases h : readE bs = 0
  · exact (read_forms hx h).1
  · unfold readD; rw [if_neg h]; simp
/-- What is left of events whose bytes are spoiled one by one. -/
structure FL (w1 : World) (k : Nat) (L : Value) (P : List HE) (W : World) : Prop where
  bel : Below w1.heap.size w1 W
  row : W.ownsRow w1.heap.size 55 5 L P.length (flatE P)
  ev : ∀ j p, k ≤ j → P[j]? = some p → EvP W w1.heap.size p
theorem FL.cell {w1 W : World} {k : Nat} {L : Value} {P : List HE} {p : HE} (h : FL w1 k L P W) (hp : P[k]? = some p) : ∃ g c, L = .slice (some ⟨g, 0, none⟩) P.length c ∧ P.length ≤ c ∧ g < W.heap.size ∧ W.cell? ⟨g, k * 5 + 1, none⟩ = some p.v := by
  have hi : k < P.length := (List.getElem?_eq_some_iff.1 hp).1
  obtain ⟨hfl, ⟨h1, h2⟩ | ⟨g, cap, cur, h1, hb, hh, h4, h5, h6, h7⟩⟩ := h.row
  · omega
  · refine ⟨g, cap, h1, h4, lt_of_heap hh, ?_⟩
    rw [cell_of_row _ _ _ _ _ _ hh, ← Array.getElem?_toList]
    have h8 := congrArg (fun l => l[k * 5 + 1]?) h7
    simp only [List.getElem?_take] at h8
    rw [if_pos (by omega), flatE_get P k 1 p hp (by omega)] at h8
    rw [h8]
    rfl
theorem FL.next {w1 W W' : World} {k : Nat} {L : Value} {P : List HE} {p : HE} (h : FL w1 k L P W) (hs : P.Pairwise Apart) (hp : P[k]? = some p) (hg : W.grownBy W' p.v.ownBlock) : FL w1 (k + 1) L P W' := by
  have hep := h.ev k p (Nat.le_refl _) hp
  refine ⟨h.bel.grown hg h.bel.size (fun q hq => (own_typed hep.own hq).1), ?_, fun j q hj hq => ?_⟩
  · refine owns_keep h.row fun b hb hl => hg.block b hl (fun e => ?_)
    obtain ⟨_, c1, h3⟩ := own_typed h.row hb
    obtain ⟨_, c2, h4⟩ := own_typed hep.own e.symm
    rw [h3] at h4
    simp at h4
  · refine (h.ev j q (by omega) hq).keep fun b _ hl hb => hg.block b hl (fun e => ?_)
    obtain ⟨hk1, hk2⟩ := List.getElem?_eq_some_iff.1 hp
    obtain ⟨hj1, hj2⟩ := List.getElem?_eq_some_iff.1 hq
    have := List.pairwise_iff_getElem.1 hs k j hk1 hj1 (by omega)
    rw [hk2, hj2] at this
    exact this b e.symm hb
theorem fresh_law (v : Value) (bs : List Int) (w : World) (hv : BB w v bs) : Calls Try.prog 8 #[v] w fun e w' => e = .returned (.bool true) ∧ Below w.heap.size w w' := by
  have hz : ∀ w, (zeroValue 34).run Try.prog w = .ok (.agg #[.int .u64 0, .int .u64 0, .int .u64 0, .int .u64 0, .slice none 0 0]) w := zero_ins
  have HV := Lib.hid hv
  have HLB : Hid (bs.length ≤ 140737488355328) := Lib.hid hv.len
  have HOKB := Lib.hid hv.ok
  have HFEW := Lib.hid (readEv_few hv.ok)
  obtain ⟨er2, her2⟩ : ∃ e : Nat, readE bs = e := ⟨_, rfl⟩
  obtain ⟨D, hD⟩ : ∃ D, readD bs = D := ⟨_, rfl⟩
  have HDL : Hid (D.length ≤ 65536) := Lib.hid (by rw [← hD]; exact readD_len hv.ok)
  obtain ⟨f0, f1, f2, f3, hxr⟩ : ∃ f0 f1 f2 f3 : Int, ∀ u, xr bs (if readE bs = 0 then 4 else 0) u = #[.int .u64 f0, .int .u64 f1, .int .u64 f2, .int .u64 f3, u] := ⟨_, _, _, _, fun u => rfl⟩
  have HRP : Hid (∀ B0 e w', ReadPost bs B0 e w' → ∃ u, e = .returned (.tuple #[.agg #[.int .u64 f0, .int .u64 f1, .int .u64 f2, .int .u64 f3, u], .int .i64 er2]) ∧ OwB w' B0 u D) := Lib.hid (by
    rintro B0 e w' ⟨u, h1, h2⟩
    exact ⟨u, by rw [← her2, ← hxr u]; exact h1, by rw [← hD]; exact h2⟩)
  obtain ⟨er3, her3⟩ : ∃ e : Nat, (readEvS bs).1 = e := ⟨_, rfl⟩
  obtain ⟨E, hE⟩ : ∃ E, (readEvS bs).2 = E := ⟨_, rfl⟩
  have HRE : Hid (∀ B0 e w', REPost bs B0 e w' → ∃ L P, e = .returned (.tuple #[L, .int .i64 er3]) ∧ OwE w' B0 L P ∧ P.map HE.e = E ∧ P.length ≤ 4096 ∧ ∀ p ∈ P, p.e.bs.length ≤ 4096) := Lib.hid (by
    rintro B0 e w' ⟨L, P, h1, h2, h3⟩
    rw [her3] at h1
    refine ⟨L, P, h1, h2, by rw [← hE]; exact h3, ?_, fun p hp => ?_⟩
    · rw [← List.length_map (f := HE.e), h3]; exact HFEW.out.1
    · exact HFEW.out.2 p.e (by rw [← h3]; exact List.mem_map_of_mem hp))
  clear her2 hD hxr her3 hE HFEW
  obtain ⟨A0, N0, C0, rfl⟩ : ∃ A n c, v = .slice A n c := by obtain ⟨_, _, A, c, h, _⟩ := hv; exact ⟨_, _, _, h⟩
  clear hv
  go_enter Try.func8, Try.ntmps8
  go_wp2_with fail
  refine (copy_bytes _ bs w HV.out).mono ?_
  rintro e w1 ⟨⟨cv, rfl, hoc⟩, hb⟩
  have HB1 := Lib.hid hb
  have HC1 := Lib.hid (hoc.rd HOKB.out HLB.out)
  obtain ⟨CA, CN, CC, rfl⟩ := hoc.form
  clear hb hoc
  go_wp2_with fail
  refine (read_any _ bs w1 HC1.out).mono ?_
  rintro e w3 ⟨hr, hb⟩
  obtain ⟨y, rfl, hoy⟩ := HRP.out _ _ _ hr
  obtain ⟨Ay, cy, hy⟩ := OwB.slice hoy
  obtain ⟨l, hl⟩ : ∃ l, D.length = l := ⟨_, rfl⟩
  rw [hl] at hy
  subst hy
  have HOY := Lib.hid hoy
  have HB3 := Lib.hid hb
  obtain ⟨X, hX⟩ : ∃ X, w3.heap.size = X := ⟨_, rfl⟩
  have hX1 : w1.heap.size ≤ X := by rw [← hX]; exact hb.size
  have HX0 : Hid ((w3.alloc (.cells #[.int .u64 0, .int .u64 0, .int .u64 0, .int .u64 0, .slice none 0 0] 34)).heap[X]? = some (.cells #[.int .u64 0, .int .u64 0, .int .u64 0, .int .u64 0, .slice none 0 0] 34 (0, 0))) := Lib.hid (by rw [← hX]; exact heap_alloc_last _ _)
  obtain ⟨w4, hw4⟩ : ∃ W, (w3.alloc (.cells #[.int .u64 0, .int .u64 0, .int .u64 0, .int .u64 0, .slice none 0 0] 34)).setRow X #[.int .u64 f0, .int .u64 f1, .int .u64 f2, .int .u64 f3, .slice Ay l cy] = W := ⟨_, rfl⟩
  have hb4 : Below w3.heap.size w3 w4 := by rw [← hw4, ← hX]; exact below_setRow (Below.alloc (Below.refl _ _) (Nat.le_refl _) _) (Nat.le_refl _) _
  have HX4 : Hid (w4.heap[X]? = some (.cells #[.int .u64 f0, .int .u64 f1, .int .u64 f2, .int .u64 f3, .slice Ay l cy] 34 (0, 0))) := Lib.hid (by rw [← hw4]; exact setRow_heap _ _ _ _ _ _ HX0.out)
  have HOY4 := Lib.hid (HOY.out.below hb4)
  have HYL : Hid (∀ b, (Value.slice Ay l cy).ownBlock = some b → b < w4.heap.size) := Lib.hid (fun b hb => (World.ownsRow.lt HOY4.out b hb).2)
  have HB4 := Lib.hid (bl_then HB3.out HB3.out.size hb4)
  clear hr hb hl hoy hb4 HOY HB3
  go_wp2_with (with_reducible refine wpList_stB (row := #[.int .u64 f0, .int .u64 f1, .int .u64 f2, .int .u64 f3, .slice Ay l cy]) insInfo (by simp [Value.oneCell']) rfl (.tmp 4) (.tmp 18) rfl rfl rfl HX0.out rfl ?_)
  try rw [hw4]
  refine (readevents_any _ bs w4 (HC1.out.below HB4.out)).mono ?_
  rintro e w5 ⟨hr, hb⟩
  obtain ⟨L, P, rfl, ho5, hp5, hpl5, hps5⟩ := HRE.out _ _ _ hr
  obtain ⟨LA, LC, hL⟩ := ho5.form
  obtain ⟨LN, hLN⟩ : ∃ n, P.length = n := ⟨_, rfl⟩
  have HLN := Lib.hid hLN
  rw [hLN] at hL hpl5
  subst hL
  have HO5 := Lib.hid ho5
  have HPS := Lib.hid hps5
  have HB5 := Lib.hid (bl_then HB4.out HB4.out.size hb)
  have hX5 := (hb.block X (lt_of_heap HX4.out)).trans HX4.out
  have c4 : w5.cell? ⟨X, 4, none⟩ = some (.slice Ay l cy) := (cell_of_row _ _ _ _ _ _ hX5).trans rfl
  have hXl := lt_of_heap hX5
  have HOY5 := Lib.hid (HOY4.out.below hb)
  have h45 := hb.size
  have HB45 := Lib.hid hb
  clear hr hb hw4 hX HX0 HX4 HOY4 hX5 hp5 ho5 hps5 hLN
  go_wp2_with fail
  refine (spoil_bytes _ D 4 w1.heap.size w5 HOY5.out (by have := HDL.out; omega) (by decide) HB5.out.size).mono ?_
  rintro e w6 ⟨⟨rv, rfl⟩, hg⟩
  have HF6 : Hid (FL w1 0 (.slice LA LN LC) P w6) := Lib.hid (by
    refine ⟨HB5.out.grown hg HB5.out.size (fun q hq => (own_typed HOY5.out hq).1), ?_, fun j p _ hp => ?_⟩
    · exact owns_keep (HO5.out.mono HB4.out.size).row fun b hb hl => hg.block b hl (fun e => by have h1 := HYL.out b e.symm; have h2 := (own_typed HO5.out.row hb).1; omega)
    · exact ((HO5.out.ev p (List.mem_of_getElem? hp)).keep fun b hb hl _ => hg.block b hl (fun e => by have h1 := HYL.out b e.symm; omega)).mono HB4.out.size)
  have HSEP := Lib.hid HO5.out.sep
  clear hg c4 hXl HYL HOY5 HB5 HO5 HB45 HB4
  go_wp2_with fail
  go_loopw [8] (fun i wr => ∃ k : Nat, k ≤ LN ∧ i = .int .i64 k ∧ Hid (FL w1 k (.slice LA LN LC) P wr)) (fun i _ => LN - (intOf i).toNat)
  case atStart => exact ⟨0, by omega, rfl, HF6⟩
  case round =>
    clear HF6
    obtain ⟨k, hk, rfl, HF⟩ := hrel
    by_cases hkn : k < LN
    · have hki : (k : Int) < (LN : Int) := by omega
      have hk0 : (0 : Int) ≤ (k : Int) := by omega
      obtain ⟨p, hp⟩ : ∃ p, P[k]? = some p := ⟨_, List.getElem?_eq_getElem (by rw [HLN.out]; exact hkn)⟩
      have HPK := Lib.hid hp
      obtain ⟨g, c, hLg, hc, hgl, hcell⟩ := HF.out.cell hp
      rw [HLN.out] at hLg hc
      simp only [Value.slice.injEq] at hLg
      obtain ⟨rfl, _, rfl⟩ := hLg
      have HE := Lib.hid (HF.out.ev k p (Nat.le_refl _) hp)
      have hpl := HPS.out p (List.mem_of_getElem? hp)
      obtain ⟨e, pv⟩ := p
      obtain ⟨PA, PN, PC, hpv⟩ := HE.out.own.form
      dsimp only at hpv hcell hpl
      subst hpv
      clear hp
      have HSP := Lib.hid (spoil_bytes (.slice PA PN PC) e.bs 5 w1.heap.size wr HE.out.own (by omega) (by decide) HF.out.bel.size)
      go_wp2_with fail
      refine HSP.out.mono ?_
      rintro r w7 ⟨⟨rv, rfl⟩, hg⟩
      have HF7 := Lib.hid (HF.out.next HSEP.out HPK.out hg)
      clear hg
      go_wp2_with fail
      go_roundw
      case rel => exact ⟨k + 1, by omega, by go_num, HF7⟩
      case measure => simp [intOf] <;> omega
    · have hki : ¬ (k : Int) < (LN : Int) := by omega
      have HBR : Hid (Below w1.heap.size w1 wr) := Lib.hid HF.out.bel
      clear HF
      go_wp2_with fail
      refine (readevents_any _ bs wr (HC1.out.below HBR.out)).mono ?_
      rintro e w8 ⟨hr, hb⟩
      obtain ⟨M, Q, rfl, ho8, hp8, hpl8, _⟩ := HRE.out _ _ _ hr
      have HEM := Lib.hid (show EvL w8 M E by have := ho8.evl (by omega); rwa [hp8] at this)
      obtain ⟨MA, MC, hM⟩ := ho8.form
      obtain ⟨MN, hMN⟩ : ∃ n, Q.length = n := ⟨_, rfl⟩
      rw [hMN] at hM
      subst hM
      have HB8 := Lib.hid (bl_then HBR.out HBR.out.size hb)
      clear hr hb ho8 hp8 hpl8 hMN
      go_wp2_with fail
      have HW8 : Hid (Below w.heap.size w w8) := Lib.hid (bl_then HB1.out HB1.out.size HB8.out)
      refine (rreadevents_any _ bs w8 (HV.out.below HW8.out)).mono ?_
      rintro e w9 ⟨hr, hb⟩
      obtain ⟨M2, Q2, rfl, ho9, hp9, hpl9, _⟩ := HRE.out _ _ _ hr
      have HEN := Lib.hid (show EvL w9 M2 E by have := ho9.evl (by omega); rwa [hp9] at this)
      have HEM9 := Lib.hid (HEM.out.below hb)
      obtain ⟨NA, NC, hM⟩ := ho9.form
      obtain ⟨NN, hNN⟩ : ∃ n, Q2.length = n := ⟨_, rfl⟩
      rw [hNN] at hM
      subst hM
      have HB9 := Lib.hid (bl_then HB8.out HB8.out.size hb)
      clear hr hb ho9 hp9 hpl9 hNN
      go_wp2_with fail
      refine (anchored_any w9).mono ?_
      rintro e wA ⟨rfl, hb⟩
      have HBA := Lib.hid (bl_then HB9.out HB9.out.size hb)
      have HWA : Hid (Below w.heap.size w wA) := Lib.hid (bl_then HB1.out HB1.out.size HBA.out)
      have HEMA := Lib.hid (HEM9.out.below hb)
      have HENA := Lib.hid (HEN.out.below hb)
      clear hb
      go_wp2_with fail
      refine (same_bytes _ _ bs bs wA (HV.out.below HWA.out) (HC1.out.below HBA.out)).mono ?_
      rintro e wB ⟨rfl, hwB⟩
      subst wB
      simp only [decide_true]
      go_wp2_with fail
      refine (lists_any E _ _ wA HEMA.out HENA.out).mono ?_
      rintro e wB ⟨rfl, hb⟩
      have HWB := Lib.hid (bl_then HWA.out HWA.out.size hb)
      clear hb
      go_wp2_with fail
      go_ret
      exact ⟨rfl, HWB.out⟩
end Go.Proofs.Ytclnohifgjjngaa
