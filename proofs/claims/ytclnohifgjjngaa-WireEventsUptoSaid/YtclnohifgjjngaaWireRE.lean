/- What is proved: the law WireEvents returns true when it is called; conditions: the events and the bytes read as they are said to, the events are not too many. -/
import Derived.Test.YtclnohifgjjngaaWireRD
set_option linter.unusedSimpArgs false
set_option linter.unusedVariables false
namespace Go.Proofs.Ytclnohifgjjngaa
open Go.RowKit
set_option maxRecDepth 100000
set_option maxHeartbeats 8000000
theorem mayE_any (e : Event) (v : Value) (w : World) (hv : BB w v e.bs) (hk : e.ok) : Calls Try.prog 24 #[.agg (erow ⟨e, v⟩)] w fun r w' => r = .returned (.bool (mayS e)) ∧ Below w.heap.size w w' := by
  obtain ⟨k, bs, c, r, a⟩ := e
  obtain ⟨hk0, _, _, _⟩ := hk
  obtain ⟨_, hl, A, cap, rfl, _, _, hlc, hcm⟩ := hv
  exact may_any k c r a A bs.length cap w hk0 hl hcm hlc
theorem rmayE_any (e : Event) (v : Value) (w : World) (hv : BB w v e.bs) (hk : e.ok) : Calls Try.prog 25 #[.agg (erow ⟨e, v⟩)] w fun r w' => r = .returned (.bool (mayS e)) ∧ Below w.heap.size w w' := by
  obtain ⟨k, bs, c, r, a⟩ := e
  obtain ⟨hk0, _, _, _⟩ := hk
  obtain ⟨_, hl, A, cap, rfl, _, _, hlc, hcm⟩ := hv
  exact rmay_any k c r a A bs.length cap w hk0 hl hcm hlc
theorem writeEvS_ok {w : World} {v : Value} {E : List Event} (h : EvL w v E) : okB (writeEvS E).1 ∧ (writeEvS E).1.length ≤ 140737488355328 := by
  by_cases h0 : (writeEvS E).2 = 0
  · obtain ⟨h1, h2, h3, h4⟩ := writeEv_good h0
    rw [h2]
    refine ⟨evP_okB (by omega) (fun j hj => ?_) E.length (fun j hj => h1 _ ?_) (Nat.le_refl _), by omega⟩
    · obtain ⟨_, A, c, rfl, _, _, _, hi⟩ := h
      obtain ⟨b, off, _, u, _, _, _, _, _, hu, hok⟩ := hi j hj
      exact ⟨hu.ok, hok⟩
    · rw [List.getD_eq_getElem?_getD, List.getElem?_eq_getElem hj]; exact List.getElem_mem _
  · have : (writeEvS E).1 = [] := by
      unfold writeEvS at h0 ⊢
      by_cases h1 : E.any (fun e => !mayS e) = true
      · rw [if_pos h1]
      · rw [if_neg h1] at h0 ⊢
        by_cases h2 : 65536 < (evP E E.length).length ∨ 4096 < E.length
        · rw [if_pos h2]
        · rw [if_neg h2] at h0
          exact absurd rfl h0
    rw [this]
    exact ⟨okB.nil, by simp⟩
theorem events_law (v u : Value) (E : List Event) (bs : List Int) (w : World) (hv : EvL w v E) (hlE : E.length ≤ 1048576) (hu : BB w u bs) :
    Calls Try.prog 5 #[v, u] w fun e w' => e = .returned (.bool true) ∧ Below w.heap.size w w' := by
  have HV := Lib.hid hv
  have HU := Lib.hid hu
  have HPK := Lib.hid (writeEvS_ok hv)
  have HFEW := Lib.hid (readEv_few hu.ok)
  obtain ⟨er, her⟩ : ∃ e, (writeEvS E).2 = e := ⟨_, rfl⟩
  obtain ⟨P, hP⟩ : ∃ P, (writeEvS E).1 = P := ⟨_, rfl⟩
  have HW : Hid (∀ W, EvL W v E → Calls Try.prog 20 #[v] W fun e w' => (∃ q, e = .returned (.tuple #[q, .int .i64 er]) ∧ OwB w' W.heap.size q P) ∧ Below W.heap.size W w') := Lib.hid (fun W hW => by have := writeevents_any v E W hW; rwa [her, hP] at this)
  have HRW : Hid (∀ W, EvL W v E → Calls Try.prog 21 #[v] W fun e w' => (∃ q, e = .returned (.tuple #[q, .int .i64 er]) ∧ OwB w' W.heap.size q P) ∧ Below W.heap.size W w') := Lib.hid (fun W hW => by have := rwriteevents_any v E W hW hlE; rwa [her, hP] at this)
  rw [hP] at HPK
  obtain ⟨er3, her3⟩ : ∃ e : Nat, (readEvS bs).1 = e := ⟨_, rfl⟩
  obtain ⟨F, hF⟩ : ∃ E, (readEvS bs).2 = E := ⟨_, rfl⟩
  have HRE : Hid (∀ B0 e w', REPost bs B0 e w' → ∃ L P, e = .returned (.tuple #[L, .int .i64 er3]) ∧ OwE w' B0 L P ∧ P.map HE.e = F ∧ P.length ≤ 4096) := Lib.hid (by
    rintro B0 e w' ⟨L, P, h1, h2, h3⟩
    rw [her3] at h1
    refine ⟨L, P, h1, h2, by rw [← hF]; exact h3, ?_⟩
    rw [← List.length_map (f := HE.e), h3]; exact HFEW.out.1)
  clear her hP her3 hF HFEW hlE
  obtain ⟨UA, UN, UC, rfl⟩ : ∃ A n c, u = .slice A n c := by obtain ⟨_, _, A, c, h, _⟩ := hu; exact ⟨_, _, _, h⟩
  obtain ⟨hlen, A, cap, rfl, hnc, hlc, hcm, hi⟩ := hv
  have HI := Lib.hid hi
  obtain ⟨n, hn⟩ : ∃ n, E.length = n := ⟨_, rfl⟩
  rw [hn] at HI hlen hlc HV HW HRW ⊢
  clear hi hn hu hnc
  go_enter Try.func5, Try.ntmps5
  go_wp2_with fail
  refine (HW.out w HV.out).mono ?_
  rintro e w1 ⟨⟨q1, rfl, ho1⟩, hb⟩
  have HB1 := Lib.hid hb
  have HQ1 := Lib.hid (ho1.rd HPK.out.1 HPK.out.2)
  obtain ⟨Q1A, Q1N, Q1C, rfl⟩ := ho1.form
  clear hb ho1
  go_wp2_with fail
  refine (HRW.out w1 (HV.out.below HB1.out)).mono ?_
  rintro e w2 ⟨⟨q2, rfl, ho2⟩, hb⟩
  have HB2 := Lib.hid (bl_then HB1.out HB1.out.size hb)
  have HQ12 := Lib.hid (HQ1.out.below hb)
  have HQ2 := Lib.hid (ho2.rd HPK.out.1 HPK.out.2)
  obtain ⟨Q2A, Q2N, Q2C, rfl⟩ := ho2.form
  clear hb ho2 HQ1
  go_wp2_with fail
  refine (readevents_any _ bs w2 (HU.out.below HB2.out)).mono ?_
  rintro e w3 ⟨hr, hb⟩
  obtain ⟨M, Q, rfl, ho8, hp8, hpl8⟩ := HRE.out _ _ _ hr
  have HEM := Lib.hid (show EvL w3 M F by have := ho8.evl (by omega); rwa [hp8] at this)
  obtain ⟨MA, MC, hM⟩ := ho8.form
  obtain ⟨MN, hMN⟩ : ∃ n, Q.length = n := ⟨_, rfl⟩
  rw [hMN] at hM
  subst hM
  have HB3 := Lib.hid (bl_then HB2.out HB2.out.size hb)
  have HQ13 := Lib.hid (HQ12.out.below hb)
  have HQ23 := Lib.hid (HQ2.out.below hb)
  clear hr hb ho8 hp8 hpl8 hMN HQ12 HQ2
  go_wp2_with fail
  refine (rreadevents_any _ bs w3 (HU.out.below HB3.out)).mono ?_
  rintro e w4 ⟨hr, hb⟩
  obtain ⟨M2, Q2, rfl, ho9, hp9, hpl9⟩ := HRE.out _ _ _ hr
  have HEN := Lib.hid (show EvL w4 M2 F by have := ho9.evl (by omega); rwa [hp9] at this)
  have HEM4 := Lib.hid (HEM.out.below hb)
  obtain ⟨NA, NC, hM⟩ := ho9.form
  obtain ⟨NN, hNN⟩ : ∃ n, Q2.length = n := ⟨_, rfl⟩
  rw [hNN] at hM
  subst hM
  have HB4 := Lib.hid (bl_then HB3.out HB3.out.size hb)
  have HQ14 := Lib.hid (HQ13.out.below hb)
  have HQ24 := Lib.hid (HQ23.out.below hb)
  clear hr hb ho9 hp9 hpl9 hNN HQ13 HQ23 HEM
  have HI4 : Hid (∀ i, i < n → ∃ b off, A = some ⟨b, off, none⟩ ∧ EvC w4 b (off + i * 5) (E.getD i zE)) := Lib.hid (fun i hi => by
    obtain ⟨b, off, h1, h2⟩ := HI.out i hi
    exact ⟨b, off, h1, h2.below HB4.out⟩)
  clear HI
  go_wp2_with fail
  go_loopw [13] (fun i wr => ∃ k : Nat, k ≤ n ∧ i = .int .i64 k ∧ Hid (Below w4.heap.size w4 wr)) (fun i _ => n - (intOf i).toNat)
  case atStart => exact ⟨0, by omega, rfl, Lib.hid (Below.refl _ _)⟩
  case round =>
    obtain ⟨k, hk, rfl, HB⟩ := hrel
    by_cases hkn : k < n
    · have hki : (k : Int) < (n : Int) := by omega
      have hk0 : (0 : Int) ≤ (k : Int) := by omega
      have h0n : (0 : Int) < (n : Int) := by omega
      have h0p : 0 < n := by omega
      obtain ⟨b, off, rfl, hec⟩ := HI4.out k hkn
      obtain ⟨b', off', hA, he0⟩ := HI4.out 0 h0p
      simp only [Option.some.injEq, Addr.mk.injEq, and_true] at hA
      obtain ⟨rfl, rfl⟩ := hA
      rw [Nat.zero_mul, Nat.add_zero] at he0
      have hb0 : b < w4.heap.size := by obtain ⟨u, q0, _⟩ := hec; exact block_lt_of_cell q0
      obtain ⟨x, hx, hok, hr⟩ := run_load_ev hec
      obtain ⟨x0, hx0, hok0, hr0⟩ := run_load_ev he0
      obtain ⟨e, hee⟩ : ∃ e, E.getD k zE = e := ⟨_, rfl⟩
      obtain ⟨e0, hee0⟩ : ∃ e, E.getD 0 zE = e := ⟨_, rfl⟩
      rw [hee] at hx hok hr
      rw [hee0] at hx0 hok0 hr0
      have HX := Lib.hid hx
      have HX0 := Lib.hid hx0
      have HR := Lib.hid hr
      have HR0 := Lib.hid hr0
      have HOK := Lib.hid hok
      have HOK0 := Lib.hid hok0
      obtain ⟨m, hm⟩ : ∃ m, mayS e = m := ⟨_, rfl⟩
      obtain ⟨s, hs⟩ : ∃ s, sameE e e0 = s := ⟨_, rfl⟩
      have HMS := Lib.hid hm
      have HSS := Lib.hid hs
      clear hec he0 hx hx0 hr hr0 hok hok0 hee hee0 hm hs
      go_wp2_with fail
      apply wp_region_effT _ _ (Inv.start0 wr fun _ => False) (hm := by kernel_rfl)
      case h =>
        (apply SeqF.pure; (focus (first | rfl | (go_simp; done) | (simp [Region.wanted, yielded]; done))); (focus (intro w; go_simp; with_reducible rfl)); go_simp)
        (apply SeqF.pure; (focus (first | rfl | (go_simp; done) | (simp [Region.wanted, yielded]; done))); (focus (intro w; go_simp; with_reducible rfl)); go_simp)
        (apply SeqF.pure; (focus (first | rfl | (go_simp; done) | (simp [Region.wanted, yielded]; done))); (focus (intro w; go_simp; with_reducible rfl)); go_simp)
        (apply SeqF.read (v := .agg (erow ⟨e, x⟩)) []; (focus (first | rfl | (go_simp; done) | (simp [Region.wanted, yielded]; done))); (focus (exact fun γ' W hg hI => exec_load rfl rfl (HR.out W ((hI.far b (by have := HB.out.size; omega) (fun h => h)).trans (HB.out.block b hb0))))); go_simp)
        apply SeqF.call (v := .bool m) [] 24 #[.agg (erow ⟨e, x⟩)]
        · (first | rfl | (go_simp; done) | (simp [Region.wanted, yielded]; done))
        · intro w; kernel_rfl
        · intro γ' U hg hI
          refine (mayE_any e x U (HX.out.below (hI.belowS HB.out HB.out.size (fun _ h => h.elim))) HOK.out).mono ?_
          rintro r w' ⟨rfl, hb⟩
          exact ⟨by rw [HMS.out], hI.below hb⟩
        go_simp
        (apply SeqF.pure; (focus (first | rfl | (go_simp; done) | (simp [Region.wanted, yielded]; done))); (focus (intro w; go_simp; with_reducible rfl)); go_simp)
        (apply SeqF.pure; (focus (first | rfl | (go_simp; done) | (simp [Region.wanted, yielded]; done))); (focus (intro w; go_simp; with_reducible rfl)); go_simp)
        (apply SeqF.pure; (focus (first | rfl | (go_simp; done) | (simp [Region.wanted, yielded]; done))); (focus (intro w; go_simp; with_reducible rfl)); go_simp)
        (apply SeqF.read (v := .agg (erow ⟨e, x⟩)) []; (focus (first | rfl | (go_simp; done) | (simp [Region.wanted, yielded]; done))); (focus (exact fun γ' W hg hI => exec_load rfl rfl (HR.out W ((hI.far b (by have := HB.out.size; omega) (fun h => h)).trans (HB.out.block b hb0))))); go_simp)
        apply SeqF.call (v := .bool m) [] 25 #[.agg (erow ⟨e, x⟩)]
        · (first | rfl | (go_simp; done) | (simp [Region.wanted, yielded]; done))
        · intro w; kernel_rfl
        · intro γ' U hg hI
          refine (rmayE_any e x U (HX.out.below (hI.belowS HB.out HB.out.size (fun _ h => h.elim))) HOK.out).mono ?_
          rintro r w' ⟨rfl, hb⟩
          exact ⟨by rw [HMS.out], hI.below hb⟩
        go_simp
        (apply SeqF.pure; (focus (first | rfl | (go_simp; done) | (simp [Region.wanted, yielded]; done))); (focus (intro w; go_simp; with_reducible rfl)); go_simp)
        (apply SeqF.pure; (focus (first | rfl | (go_simp; done) | (simp [Region.wanted, yielded]; done))); (focus (intro w; go_simp; with_reducible rfl)); go_simp)
        (apply SeqF.pure; (focus (first | rfl | (go_simp; done) | (simp [Region.wanted, yielded]; done))); (focus (intro w; go_simp; with_reducible rfl)); go_simp)
        (apply SeqF.pure; (focus (first | rfl | (go_simp; done) | (simp [Region.wanted, yielded]; done))); (focus (intro w; go_simp; with_reducible rfl)); go_simp)
        (apply SeqF.pure; (focus (first | rfl | (go_simp; done) | (simp [Region.wanted, yielded]; done))); (focus (intro w; go_simp; with_reducible rfl)); go_simp)
        (apply SeqF.read (v := .agg (erow ⟨e, x⟩)) []; (focus (first | rfl | (go_simp; done) | (simp [Region.wanted, yielded]; done))); (focus (exact fun γ' W hg hI => exec_load rfl rfl (HR.out W ((hI.far b (by have := HB.out.size; omega) (fun h => h)).trans (HB.out.block b hb0))))); go_simp)
        (apply SeqF.pure; (focus (first | rfl | (go_simp; done) | (simp [Region.wanted, yielded]; done))); (focus (intro w; go_simp; with_reducible rfl)); go_simp)
        (apply SeqF.pure; (focus (first | rfl | (go_simp; done) | (simp [Region.wanted, yielded]; done))); (focus (intro w; go_simp; with_reducible rfl)); go_simp)
        (apply SeqF.read (v := .agg (erow ⟨e0, x0⟩)) []; (focus (first | rfl | (go_simp; done) | (simp [Region.wanted, yielded]; done))); (focus (exact fun γ' W hg hI => exec_load rfl rfl (HR0.out W ((hI.far b (by have := HB.out.size; omega) (fun h => h)).trans (HB.out.block b hb0))))); go_simp)
        apply SeqF.call (v := .bool s) [] 26 #[.agg (erow ⟨e, x⟩), .agg (erow ⟨e0, x0⟩)]
        · (first | rfl | (go_simp; done) | (simp [Region.wanted, yielded]; done))
        · intro w; kernel_rfl
        · intro γ' U hg hI
          have hU : Below w4.heap.size w4 U := hI.belowS HB.out HB.out.size (fun _ h => h.elim)
          refine (wsameE_any e e0 x x0 U (HX.out.below hU) (HX0.out.below hU)).mono ?_
          rintro r w' ⟨rfl, hb⟩
          exact ⟨by rw [HSS.out], hI.below hb⟩
        go_simp
        (apply SeqF.pure; (focus (first | rfl | (go_simp; done) | (simp [Region.wanted, yielded]; done))); (focus (intro w; go_simp; with_reducible rfl)); go_simp)
        (apply SeqF.pure; (focus (first | rfl | (go_simp; done) | (simp [Region.wanted, yielded]; done))); (focus (intro w; go_simp; with_reducible rfl)); go_simp)
        (apply SeqF.pure; (focus (first | rfl | (go_simp; done) | (simp [Region.wanted, yielded]; done))); (focus (intro w; go_simp; with_reducible rfl)); go_simp)
        (apply SeqF.read (v := .agg (erow ⟨e, x⟩)) []; (focus (first | rfl | (go_simp; done) | (simp [Region.wanted, yielded]; done))); (focus (exact fun γ' W hg hI => exec_load rfl rfl (HR.out W ((hI.far b (by have := HB.out.size; omega) (fun h => h)).trans (HB.out.block b hb0))))); go_simp)
        (apply SeqF.pure; (focus (first | rfl | (go_simp; done) | (simp [Region.wanted, yielded]; done))); (focus (intro w; go_simp; with_reducible rfl)); go_simp)
        (apply SeqF.pure; (focus (first | rfl | (go_simp; done) | (simp [Region.wanted, yielded]; done))); (focus (intro w; go_simp; with_reducible rfl)); go_simp)
        (apply SeqF.read (v := .agg (erow ⟨e0, x0⟩)) []; (focus (first | rfl | (go_simp; done) | (simp [Region.wanted, yielded]; done))); (focus (exact fun γ' W hg hI => exec_load rfl rfl (HR0.out W ((hI.far b (by have := HB.out.size; omega) (fun h => h)).trans (HB.out.block b hb0))))); go_simp)
        apply SeqF.call (v := .bool s) [] 27 #[.agg (erow ⟨e, x⟩), .agg (erow ⟨e0, x0⟩)]
        · (first | rfl | (go_simp; done) | (simp [Region.wanted, yielded]; done))
        · intro w; kernel_rfl
        · intro γ' U hg hI
          have hU : Below w4.heap.size w4 U := hI.belowS HB.out HB.out.size (fun _ h => h.elim)
          refine (rsameE_any e e0 x x0 U (HX.out.below hU) (HX0.out.below hU)).mono ?_
          rintro r w' ⟨rfl, hb⟩
          exact ⟨by rw [HSS.out], hI.below hb⟩
        go_simp
        (apply SeqF.pure; (focus (first | rfl | (go_simp; done) | (simp [Region.wanted, yielded]; done))); (focus (intro w; go_simp; with_reducible rfl)); go_simp)
        (apply SeqF.pure; (focus (first | rfl | (go_simp; done) | (simp [Region.wanted, yielded]; done))); (focus (intro w; go_simp; with_reducible rfl)); go_simp)
        apply SeqF.done
        intro w9 hI9
        have HB9 := Lib.hid (hI9.belowS HB.out HB.out.size (fun _ h => h.elim))
        clear hI9
        go_simp
        go_wp2_with fail
        go_roundw
        case rel =>
          first
            | exact ⟨k + 1, by omega, by go_num, HB9⟩
            | ((repeat apply Exists.intro); refine ⟨?_, rfl⟩; exact ⟨k + 1, by omega, by go_num, HB9⟩)
        case measure => first | (simp [intOf]; done) | (simp [intOf]; omega)
      case hl => rfl
      case ho => kernel_rfl
    · have hki : ¬ (k : Int) < (n : Int) := by omega
      go_wp2_with fail
      refine (same_bytes _ _ P P wr (HQ14.out.below HB.out) (HQ24.out.below HB.out)).mono ?_
      rintro e wA ⟨rfl, hwA⟩
      subst wA
      simp only [decide_true]
      go_wp2_with fail
      refine (lists_any F _ _ wr (HEM4.out.below HB.out) (HEN.out.below HB.out)).mono ?_
      rintro e wB ⟨rfl, hb⟩
      have HWB := Lib.hid (bl_then HB.out HB.out.size hb)
      clear hb
      go_wp2_with fail
      refine (anchored_any _).mono ?_
      rintro e wZ ⟨rfl, hb⟩
      have HBZ := Lib.hid (bl_then HWB.out HWB.out.size hb)
      clear hb
      go_wp2_with fail
      go_ret
      exact ⟨rfl, bl_then HB4.out HB4.out.size HBZ.out⟩
end Go.Proofs.Ytclnohifgjjngaa
