/- What is proved: what May of events, of both packages, and Lists answer; slices of events cut at a place; conditions: those typed. -/
import Derived.Test.YtgkiedbefogklaaWireRE
import Derived.Test.YtgkiedbefogklaaEvM
set_option linter.unusedSimpArgs false
set_option linter.unusedVariables false
namespace Go.Proofs.Ytgkiedbefogklaa
open Go.RowKit
set_option maxRecDepth 100000
set_option maxHeartbeats 8000000
/-- Are two lists of events the same? -/
def sameL : List Event → List Event → Bool
  | [], [] => true
  | e :: E, f :: F => sameE e f && sameL E F
  | _, _ => false
theorem sameL_iff : ∀ {E F : List Event}, sameL E F = true ↔ E = F
  | [], [] => by simp [sameL]
  | [], f :: F => by simp [sameL]
  | e :: E, [] => by simp [sameL]
  | e :: E, f :: F => by
    simp only [sameL, Bool.and_eq_true, sameE_iff, sameL_iff, List.cons.injEq]
theorem sameL_no {E F : List Event} (h : E ≠ F) : sameL E F = false := by
  cases hb : sameL E F with
  | false => rfl
  | true => exact absurd (sameL_iff.1 hb) h
theorem ext_ev {E F : List Event} (hl : E.length = F.length) (h : ∀ j, j < E.length → E.getD j zE = F.getD j zE) : E = F := by
  refine List.ext_getElem? fun j => ?_
  by_cases hj : j < E.length
  · have := h j hj
    rw [List.getD_eq_getElem?_getD, List.getD_eq_getElem?_getD, List.getElem?_eq_getElem hj, List.getElem?_eq_getElem (by omega)] at this
    rw [List.getElem?_eq_getElem hj, List.getElem?_eq_getElem (by omega)]
    exact congrArg some this
  · rw [List.getElem?_eq_none (by omega), List.getElem?_eq_none (by omega)]
def mayL (E : List Event) : Bool := decide (E.length ≤ 4096) && !E.any (fun e => !mayS e)
theorem mayL_len {E : List Event} (h : mayL E = true) : E.length ≤ 4096 := by
  unfold mayL at h
  simp only [Bool.and_eq_true, decide_eq_true_eq] at h
  exact h.1
theorem evmay_any (v : Value) (E : List Event) (w : World) (h : EvL w v E) : Calls Try.prog 18 #[v] w fun e w' => e = .returned (.bool (mayL E)) ∧ Below w.heap.size w w' := by
  have HC := Lib.hid (containsfunc2_any v E w h)
  obtain ⟨hlen, A, cap, rfl, hnc, hlc, hcm, hi⟩ := h
  clear hi
  obtain ⟨n, hn⟩ : ∃ n, E.length = n := ⟨_, rfl⟩
  obtain ⟨m, hm⟩ : ∃ m, E.any (fun e => !mayS e) = m := ⟨_, rfl⟩
  have HM : Hid (mayL E = (decide (n ≤ 4096) && !m)) := Lib.hid (by unfold mayL; rw [hn, hm])
  rw [hn, hm] at HC
  rw [hn] at hlen hlc ⊢
  clear hn hm
  by_cases hb : n ≤ 4096
  · have hbi : (n : Int) ≤ 4096 := by omega
    have hbd : decide ((n : Int) ≤ 4096) = true := decide_eq_true hbi
    have HM2 : Hid (mayL E = !m) := Lib.hid (by rw [HM.out]; simp [hb])
    clear HM hb
    rw [HM2.out]
    go_enter Try.func18, Try.ntmps18
    go_wp2_with fail
    refine HC.out.mono ?_
    rintro e w1 ⟨rfl, hb⟩
    have HB := Lib.hid hb
    clear hb
    cases m
    · go_wp2_with fail
      go_ret
      exact ⟨rfl, HB.out⟩
    · go_wp2_with fail
      go_ret
      exact ⟨rfl, HB.out⟩
  · have hbi : ¬ (n : Int) ≤ 4096 := by omega
    have hbd : decide ((n : Int) ≤ 4096) = false := decide_eq_false hbi
    have HM2 : Hid (mayL E = false) := Lib.hid (by rw [HM.out]; simp [hb])
    clear HM hb
    rw [HM2.out]
    go_enter Try.func18, Try.ntmps18
    go_wp2_with fail
    go_ret
    exact ⟨rfl, Below.refl _ _⟩
theorem revmay_any (v : Value) (E : List Event) (w : World) (h : EvL w v E) : Calls Try.prog 9 #[v] w fun e w' => e = .returned (.bool (mayL E)) ∧ Below w.heap.size w w' := by
  obtain ⟨hlen, A, cap, rfl, hnc, hlc, hcm, hi⟩ := h
  have HI := Lib.hid hi
  obtain ⟨n, hn⟩ : ∃ n, E.length = n := ⟨_, rfl⟩
  have HN := Lib.hid hn
  rw [hn] at HI hlen hlc ⊢
  clear hi hn
  go_enter Try.func9, Try.ntmps9
  go_wp2_with fail
  go_loopw [3] (fun i wr => ∃ k : Nat, k ≤ n ∧ i = .int .i64 k ∧ Hid (∀ j, j < k → mayS (E.getD j zE) = true) ∧ Hid (Below w.heap.size w wr)) (fun i _ => n - (intOf i).toNat)
  case atStart => exact ⟨0, Nat.zero_le _, rfl, Lib.hid (fun j hj => by omega), Lib.hid (Below.refl _ _)⟩
  case round =>
    obtain ⟨k, hk, rfl, HM, HB⟩ := hrel
    by_cases hlt : k < n
    · have hki : (k : Int) < (n : Int) := by omega
      have hk0 : (0 : Int) ≤ (k : Int) := by omega
      obtain ⟨b, off, rfl, hec⟩ := HI.out k hlt
      have hb0 : b < w.heap.size := by obtain ⟨u, q0, _⟩ := hec; exact block_lt_of_cell q0
      obtain ⟨x, hx, hok, hr⟩ := run_load_ev hec
      obtain ⟨e, he⟩ : ∃ e, E.getD k zE = e := ⟨_, rfl⟩
      have HEK := Lib.hid he
      rw [he] at hx hok hr
      obtain ⟨m, hm⟩ : ∃ m, mayS e = m := ⟨_, rfl⟩
      have HMM := Lib.hid hm
      have HMC := Lib.hid (rmayE_any e x wr (hx.below HB.out) hok)
      rw [hm] at HMC
      have HRUN := Lib.hid (hr wr (HB.out.block b hb0))
      clear hec hx hok hr he hm
      go_wp2_with (with_reducible refine wpList_ldE (p := .pointer (some ⟨b, off + k * 5, none⟩)) rfl (.tmp 12) rfl rfl HRUN.out ?_)
      refine HMC.out.mono ?_
      rintro e w2 ⟨rfl, hb⟩
      have HB2 := Lib.hid (bl_then HB.out HB.out.size hb)
      clear hb
      cases m with
      | false =>
        have HF : Hid (mayL E = false) := Lib.hid (by
          unfold mayL
          have : E.any (fun e => !mayS e) = true := by
            refine List.any_eq_true.2 ⟨E.getD k zE, ?_, by rw [HEK.out, HMM.out]; rfl⟩
            rw [List.getD_eq_getElem?_getD, List.getElem?_eq_getElem (by rw [HN.out]; exact hlt)]
            exact List.getElem_mem _
          rw [this]
          simp)
        go_wp2_with fail
        go_ret
        rw [HF.out]
        exact ⟨rfl, HB2.out⟩
      | true =>
        have HM2 : Hid (∀ j, j < k + 1 → mayS (E.getD j zE) = true) := Lib.hid (fun j hj => by
          rcases (by omega : j < k ∨ j = k) with h | rfl
          · exact HM.out j h
          · rw [HEK.out]; exact HMM.out)
        go_wp2_with fail
        go_roundw
        case rel => exact ⟨k + 1, by omega, by go_num, HM2, HB2⟩
        case measure => simp [intOf] <;> omega
    · obtain rfl : k = n := by omega
      have hki : ¬ (k : Int) < (k : Int) := by omega
      have HF : Hid (mayL E = decide (k ≤ 4096)) := Lib.hid (by
        unfold mayL
        have : E.any (fun e => !mayS e) = false := by
          refine List.any_eq_false.2 fun x hx => ?_
          obtain ⟨i, hi, rfl⟩ := List.mem_iff_getElem.1 hx
          have := HM.out i (by rw [← HN.out]; exact hi)
          rw [List.getD_eq_getElem?_getD, List.getElem?_eq_getElem hi] at this
          rw [show mayS E[i] = true from this]
          simp
        rw [this, HN.out]
        simp)
      go_wp2_with fail
      go_ret
      rw [HF.out]
      refine ⟨?_, HB.out⟩
      have hd : decide ((k : Int) ≤ 4096) = decide (k ≤ 4096) := by
        by_cases hb : k ≤ 4096
        · rw [decide_eq_true hb, decide_eq_true (show (k : Int) ≤ 4096 by omega)]
        · rw [decide_eq_false hb, decide_eq_false (show ¬ (k : Int) ≤ 4096 by omega)]
      show Ending.returned (.bool (decide ((k : Int) ≤ 4096))) = _
      rw [hd]
/-- Two slices of events, side by side. -/
theorem lists_dec (E F : List Event) (u v : Value) (w : World) (hu : EvL w u E) (hv : EvL w v F) : Calls Try.prog 11 #[u, v] w fun e w' => e = .returned (.bool (sameL E F)) ∧ Below w.heap.size w w' := by
  obtain ⟨hlen, A1, c1, rfl, hn1, hl1, hm1, hi1⟩ := hu
  obtain ⟨hlen2, A2, c2, rfl, hn2, hl2, hm2, hi2⟩ := hv
  have HI1 := Lib.hid hi1
  have HI2 := Lib.hid hi2
  obtain ⟨n, hn⟩ : ∃ n, E.length = n := ⟨_, rfl⟩
  obtain ⟨m, hm⟩ : ∃ n, F.length = n := ⟨_, rfl⟩
  have HN := Lib.hid (show E.length = n ∧ F.length = m from ⟨hn, hm⟩)
  rw [hn] at hlen hl1 HI1 ⊢
  rw [hm] at hlen2 hl2 HI2 ⊢
  clear hi1 hi2 hn1 hn2 hn hm
  rcases Decidable.em (n = m) with rfl | hne
  · go_enter Try.func11, Try.ntmps11
    go_wp2_with fail
    go_loopw [5] (fun i wr => ∃ k : Nat, k ≤ n ∧ i = .int .i64 k ∧ Hid (Below w.heap.size w wr) ∧ Hid (∀ j, j < k → E.getD j zE = F.getD j zE)) (fun i _ => n - (intOf i).toNat)
    case atStart => exact ⟨0, by omega, rfl, Lib.hid (Below.refl _ _), Lib.hid (fun j hj => by omega)⟩
    case round =>
      obtain ⟨k, hk, rfl, HB, HK⟩ := hrel
      by_cases hkn : k < n
      · have hki : (k : Int) < (n : Int) := by omega
        have hk0 : (0 : Int) ≤ (k : Int) := by omega
        obtain ⟨b1, o1, rfl, he1⟩ := HI1.out k hkn
        obtain ⟨b2, o2, rfl, he2⟩ := HI2.out k hkn
        have hb1 : b1 < w.heap.size := by obtain ⟨u, q0, _⟩ := he1; exact block_lt_of_cell q0
        have hb2 : b2 < w.heap.size := by obtain ⟨u, q0, _⟩ := he2; exact block_lt_of_cell q0
        obtain ⟨u1, hu1, ok1, r1⟩ := run_load_ev he1
        obtain ⟨u2, hu2, ok2, r2⟩ := run_load_ev he2
        obtain ⟨e, hee⟩ : ∃ e, E.getD k zE = e := ⟨_, rfl⟩
        obtain ⟨f, hff⟩ : ∃ e, F.getD k zE = e := ⟨_, rfl⟩
        have HEF := Lib.hid (show E.getD k zE = e ∧ F.getD k zE = f from ⟨hee, hff⟩)
        rw [hee] at hu1 r1
        rw [hff] at hu2 r2
        have HU1 := Lib.hid hu1
        have HU2 := Lib.hid hu2
        have HR1 := Lib.hid r1
        have HR2 := Lib.hid r2
        obtain ⟨s, hs⟩ : ∃ s, sameE e f = s := ⟨_, rfl⟩
        have HS := Lib.hid hs
        clear he1 he2 hu1 hu2 r1 r2 ok1 ok2 hee hff hs
        go_wp2_with fail
        apply wp_region_effT _ _ (Inv.start0 wr fun _ => False) (hm := by kernel_rfl)
        case h =>
          (apply SeqF.pure; (focus (first | rfl | (go_simp; done) | (simp [Region.wanted, yielded]; done))); (focus (intro w; go_simp; with_reducible rfl)); go_simp)
          (apply SeqF.pure; (focus (first | rfl | (go_simp; done) | (simp [Region.wanted, yielded]; done))); (focus (intro w; go_simp; with_reducible rfl)); go_simp)
          (apply SeqF.pure; (focus (first | rfl | (go_simp; done) | (simp [Region.wanted, yielded]; done))); (focus (intro w; go_simp; with_reducible rfl)); go_simp)
          apply SeqF.read (v := .agg (erow ⟨e, u1⟩)) []
          · (first | rfl | (go_simp; done) | (simp [Region.wanted, yielded]; done))
          · exact fun γ' W hg hI => exec_load rfl rfl (HR1.out W ((hI.far b1 (by have := HB.out.size; omega) (fun h => h)).trans (HB.out.block b1 hb1)))
          go_simp
          (apply SeqF.pure; (focus (first | rfl | (go_simp; done) | (simp [Region.wanted, yielded]; done))); (focus (intro w; go_simp; with_reducible rfl)); go_simp)
          (apply SeqF.pure; (focus (first | rfl | (go_simp; done) | (simp [Region.wanted, yielded]; done))); (focus (intro w; go_simp; with_reducible rfl)); go_simp)
          (apply SeqF.pure; (focus (first | rfl | (go_simp; done) | (simp [Region.wanted, yielded]; done))); (focus (intro w; go_simp; with_reducible rfl)); go_simp)
          apply SeqF.read (v := .agg (erow ⟨f, u2⟩)) []
          · (first | rfl | (go_simp; done) | (simp [Region.wanted, yielded]; done))
          · exact fun γ' W hg hI => exec_load rfl rfl (HR2.out W ((hI.far b2 (by have := HB.out.size; omega) (fun h => h)).trans (HB.out.block b2 hb2)))
          go_simp
          apply SeqF.call (v := .bool s) [] 26 #[.agg (erow ⟨e, u1⟩), .agg (erow ⟨f, u2⟩)]
          · (first | rfl | (go_simp; done) | (simp [Region.wanted, yielded]; done))
          · intro w; kernel_rfl
          · intro γ' U hg hI
            have hU : Below w.heap.size w U := hI.belowS HB.out HB.out.size (fun _ h => h.elim)
            refine (rsameE_any e f u1 u2 U (HU1.out.below hU) (HU2.out.below hU)).mono ?_
            rintro r w' ⟨rfl, hb⟩
            exact ⟨by rw [HS.out], hI.below hb⟩
          go_simp
          (apply SeqF.pure; (focus (first | rfl | (go_simp; done) | (simp [Region.wanted, yielded]; done))); (focus (intro w; go_simp; with_reducible rfl)); go_simp)
          apply SeqF.done
          intro w9 hI9
          have HB9 := Lib.hid (hI9.belowS HB.out HB.out.size (fun _ h => h.elim))
          clear hI9
          cases s with
          | true =>
            have HK2 : Hid (∀ j, j < k + 1 → E.getD j zE = F.getD j zE) := Lib.hid (fun j hj => by
              rcases (by omega : j < k ∨ j = k) with h | rfl
              · exact HK.out j h
              · rw [HEF.out.1, HEF.out.2, sameE_iff.1 HS.out])
            go_simp
            go_wp2_with fail
            go_roundw
            case rel =>
              first
                | exact ⟨k + 1, by omega, by go_num, HB9, HK2⟩
                | ((repeat apply Exists.intro); refine ⟨?_, rfl⟩; exact ⟨k + 1, by omega, by go_num, HB9, HK2⟩)
            case measure => first | (simp [intOf]; done) | (simp [intOf]; omega)
          | false =>
            have HNO : Hid (sameL E F = false) := Lib.hid (sameL_no (fun e2 => by
              have h1 : e = f := by rw [← HEF.out.1, ← HEF.out.2, e2]
              have h2 := sameE_iff.2 h1
              rw [HS.out] at h2
              cases h2))
            go_simp
            go_wp2_with fail
            go_ret
            rw [HNO.out]
            exact ⟨rfl, HB9.out⟩
        case hl => rfl
        case ho => kernel_rfl
      · have hki : ¬ (k : Int) < (n : Int) := by omega
        have HT : Hid (sameL E F = true) := Lib.hid (sameL_iff.2 (ext_ev (by rw [HN.out.1, HN.out.2]) (fun j hj => HK.out j (by rw [HN.out.1] at hj; omega))))
        go_wp2_with fail
        go_ret
        rw [HT.out]
        exact ⟨rfl, HB.out⟩
  · have hnb : (((n : Nat) : Int) != ((m : Nat) : Int)) = true := by simp; omega
    have HNO : Hid (sameL E F = false) := Lib.hid (sameL_no (fun e2 => hne (by rw [← HN.out.1, ← HN.out.2, e2])))
    go_enter Try.func11, Try.ntmps11
    go_wp2_with fail
    go_ret
    rw [HNO.out]
    exact ⟨rfl, Below.refl _ _⟩
/-- A slice of events cut ahead of a place, and behind it. -/
theorem EvL.cut {w : World} {A : Option Addr} {n cap m c2 : Nat} {E : List Event} (h : EvL w (.slice A n cap) E) (hm : m ≤ n) (hc : m ≤ c2) (hc2 : c2 ≤ cap) : EvL w (.slice A m c2) (E.take m) := by
  obtain ⟨h1, A', cap', e, h2, h3, h4, h5⟩ := h
  simp only [Value.slice.injEq] at e
  obtain ⟨rfl, rfl, rfl⟩ := e
  have hl : (E.take m).length = m := by rw [List.length_take]; omega
  refine ⟨by omega, A, c2, by rw [hl], fun hA => by have := h2 hA; omega, by omega, by omega, fun i hi => ?_⟩
  rw [hl] at hi
  obtain ⟨b, off, h6, h7⟩ := h5 i (by omega)
  refine ⟨b, off, h6, ?_⟩
  have : (E.take m).getD i zE = E.getD i zE := by
    rw [List.getD_eq_getElem?_getD, List.getD_eq_getElem?_getD, List.getElem?_take, if_pos hi]
  rw [this]
  exact h7
def restE (A : Option Addr) (cap n : Nat) : Option Addr := if cap = n then A else A.map (·.add (n * 5))
theorem EvL.rest {w : World} {A : Option Addr} {n cap m : Nat} {E : List Event} (h : EvL w (.slice A n cap) E) (hm : m ≤ n) : EvL w (.slice (restE A cap m) (n - m) (cap - m)) (E.drop m) := by
  obtain ⟨h1, A', cap', e, h2, h3, h4, h5⟩ := h
  simp only [Value.slice.injEq] at e
  obtain ⟨rfl, rfl, rfl⟩ := e
  have hl : (E.drop m).length = E.length - m := List.length_drop
  refine ⟨by omega, _, _, by rw [hl], fun hA => ?_, by omega, by omega, fun i hi => ?_⟩
  · have : A = none ∨ cap = m := by
      unfold restE at hA
      split at hA
      · exact .inr (by assumption)
      · cases A
        · exact .inl rfl
        · simp at hA
    rcases this with h | h
    · have := h2 h; omega
    · omega
  · rw [hl] at hi
    obtain ⟨b, off, h6, h7⟩ := h5 (m + i) (by omega)
    subst h6
    refine ⟨b, off + m * 5, ?_, ?_⟩
    · unfold restE
      rw [if_neg (by omega)]
      have : (⟨b, off, none⟩ : Addr).add (m * 5) = ⟨b, off + m * 5, none⟩ := by unfold Addr.add; split <;> simp_all
      simp [this]
    · have e1 : (E.drop m).getD i zE = E.getD (m + i) zE := by
        rw [List.getD_eq_getElem?_getD, List.getD_eq_getElem?_getD, List.getElem?_drop]
      rw [e1, show off + m * 5 + i * 5 = off + (m + i) * 5 by rw [Nat.add_mul]; omega]
      exact h7
theorem run_restE (A : Option Addr) (l cap n : Nat) (hn : n ≤ l) (W : World) : (Instr.sliceAt 22 (.slice A l cap) (some (.int .i64 n)) none none).run Try.prog W = .ok (.slice (restE A cap n) (l - n) (cap - n)) W := by
  obtain ⟨i, hi, hz⟩ : ∃ i, Try.prog.info? 48 = some i ∧ i.size = 5 := by
    obtain ⟨i, h, h2⟩ := Option.map_eq_some_iff.1 (show (Try.prog.info? 48).map (fun i => i.size) = some 5 by kernel_rfl)
    exact ⟨i, h, h2⟩
  have hk2 : (n : Int) ≤ l := by omega
  unfold restE
  simp [Instr.sliceAt, Instr.slice, run_underlying Try.underlying22, Instr.sliceBounds, run_sliceBound, sizeOf, typeInfo, hi, hk2, hz]
end Go.Proofs.Ytgkiedbefogklaa
