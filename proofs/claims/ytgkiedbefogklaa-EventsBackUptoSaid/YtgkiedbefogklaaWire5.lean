/- What is proved: what the reference's ReadUint answers when it is called; conditions: the slice reads as it is said to. -/
import Derived.Test.YtgkiedbefogklaaWire4
import Derived.Test.YtgkiedbefogklaaEff
set_option linter.unusedSimpArgs false
set_option linter.unusedVariables false
namespace Go.Proofs.Ytgkiedbefogklaa
open Go.RowKit
set_option maxRecDepth 100000
set_option maxHeartbeats 1000000
theorem BB.cut {w : World} {A : Option Addr} {n cap j : Nat} {xs : List Int} (h : BB w (.slice A n cap) xs) (hj : j ≤ xs.length) : BB w (.slice A j cap) (xs.take j) := by
  obtain ⟨h1, h2, A', cap', e, hr, h3, h4, h5⟩ := h
  simp only [Value.slice.injEq] at e
  obtain ⟨rfl, rfl, rfl⟩ := e
  have hl : (xs.take j).length = j := by rw [List.length_take]; omega
  exact ⟨h1.take j, by omega, A, cap, by rw [hl], by rw [hl]; exact hr.take hj, h3, by omega, h5⟩
theorem Inv.self (w : World) : Inv w (fun _ => False) (fun _ => none) w.drew := Inv.start w _ _ (by simp) (by simp)
theorem Inv.belowOf {w0 w : World} {γ : Gh} (h : Inv w0 (fun _ => False) γ w) : Below w0.heap.size w0 w :=
  ⟨h.os, h.tape, h.output, h.size, fun b hb => h.far b hb (fun h => h)⟩
theorem refread_any (v : Value) (bs : List Int) (w : World) (h : BB w v bs) : Calls Try.prog 58 #[v] w fun e w' => e = .returned (.tuple #[.int .u64 (readS bs).1, .int .i64 (readS bs).2.1, .int .i64 (readS bs).2.2]) ∧ Below w.heap.size w w' := by
  obtain ⟨hok, hlen, A, cap, rfl, hr, hnc, hlc, hcm⟩ := h
  have HR := Lib.hid hr
  have HOK := Lib.hid hok
  clear hr hok
  go_enter Try.func58, Try.ntmps58
  go_wp2_with fail
  go_loop [5, 6] (fun a i => ∃ k n : Nat, k ≤ 10 ∧ i = .int .i64 k ∧ a = .int .u64 n ∧ (k < 10 → n = valU (bs.take k)) ∧ k ≤ bs.length ∧ Hid (AllMore bs k) ∧ Hid (readS bs = rdF (10 - k) k bs)) (fun _ i => 10 - (intOf i).toNat)
  case atStart => exact ⟨0, 0, by omega, rfl, rfl, fun _ => rfl, Nat.zero_le _, Lib.hid (show AllMore bs 0 by simp [AllMore]), Lib.hid rfl⟩
  case round =>
    obtain ⟨k, n, hk, rfl, rfl, hn, hkl, HM, HS⟩ := hrel
    by_cases h10 : k < 10
    · obtain rfl := hn h10
      obtain ⟨f, hf⟩ : ∃ f, 10 - k = f + 1 := ⟨9 - k, by omega⟩
      rw [hf] at HS
      by_cases hl : k < bs.length
      · obtain ⟨b, off, rfl, hc⟩ := HR.out.2 (by omega)
        have c0 := hc k hl
        have hcb := HOK.out.getD k
        clear hc hn
        have ha : valU (bs.take k) < 9223372036854775808 := by
          have h1 := valU_lt (bs.take k)
          rw [List.length_take] at h1
          have h2 : 128 ^ min k bs.length ≤ 128 ^ 9 := Nat.pow_le_pow_right (by omega) (by omega)
          omega
        obtain ⟨m, hm, em⟩ := or_any (valU (bs.take k) : Int) (bs.getD k 0) k (by omega)
        have HEM := Lib.hid em
        by_cases h128 : bs.getD k 0 < 128
        · have HA : Hid (readS bs = if uintB m = bs.take (k + 1) then (m, k + 1, 0) else (0, 0, 8)) := by
            refine Lib.hid ?_
            rw [HS.out]
            by_cases h9 : k = 9 ∧ 1 < bs.getD k 0
            · obtain ⟨rfl, h9⟩ := h9
              rw [rdF_nine f bs hl h9, if_neg (same_nine hm hl h9 h128)]
            · by_cases h0 : bs.getD k 0 = 0 ∧ 0 < k
              · rw [rdF_zero k f bs hl h0.1 h0.2, if_neg (same_zero hm hl h0.1 h0.2)]
              · have e1 := or_next bs k (by omega) hl hcb (fun h => by omega)
                have e2 : m = valU (bs.take (k + 1)) := Int.ofNat_inj.1 (em.symm.trans e1)
                rw [rdF_last k f bs hl h128 h9 h0, if_pos (by rw [e2]; exact same_good HM.out hl (by omega) HOK.out h128 h0), e2]
          have HBB : Hid (BB w (.slice (some ⟨b, off, none⟩) (k + 1) cap) (bs.take (k + 1))) := Lib.hid (BB.cut ⟨HOK.out, hlen, _, cap, rfl, HR.out, hnc, hlc, hcm⟩ hl)
          have HU := Lib.hid (uintB_ok hm)
          have hul := uintB_len m
          clear HS hf em ha
          generalize bs.getD k 0 = c at *
          generalize valU (bs.take k) = a at *
          go_wp2_with fail
          rw [HEM.out]
          have hw1 : IntKind.i64.wrap ((k : Int) + 1) = (k : Int) + 1 := IntWalk.i64_in _ (by omega)
          have hk1 : (0 : Int) ≤ (k : Int) + 1 := by omega
          have hk2 : (k : Int) + 1 ≤ (cap : Int) := by omega
          have hk3 : ((k : Int) + 1).toNat = k + 1 := by omega
          apply wp_region_eff (Inv w (fun _ => False)) (fun _ => none) (Inv.self w) (hm := by kernel_rfl)
          case h =>
            (apply SeqF.pure; (focus (first | rfl | (go_simp; done) | (simp [Region.wanted, yielded]; done))); (focus (intro w; go_simp; with_reducible rfl)); go_simp)
            apply SeqF.callNew [] 1 5 1 (uintB m).length ((uintB m).map (Value.int .u8)) 45 #[.int .u64 m]
            · (first | rfl | (go_simp; done) | (simp [Region.wanted, yielded]; done))
            · intro w; kernel_rfl
            · exact fun γ' W _ hI => ruint_any m W hm
            intro v x hv hvn
            obtain rfl := hv.val (by decide)
            obtain ⟨A2, c2, hA2⟩ := hv.form
            have HV := Lib.hid hv
            clear hv
            go_simp
            (apply SeqF.pure; (focus (first | rfl | (go_simp; done) | (simp [Region.wanted, yielded]; done))); (focus (intro w; go_simp; with_reducible rfl)); go_simp)
            (apply SeqF.pure; (focus (first | rfl | (go_simp; done) | (simp [Region.wanted, yielded]; done))); (focus (intro w; go_simp; with_reducible rfl)); go_simp)
            (apply SeqF.pure; (focus (first | rfl | (go_simp; done) | (simp [Region.wanted, yielded]; done))); (focus (intro w; go_simp; with_reducible rfl)); go_simp)
            (apply SeqF.pure; (focus (first | rfl | (go_simp; done) | (simp [Region.wanted, yielded]; done))); (focus (intro w; go_simp; with_reducible rfl)); go_simp)
            apply SeqF.call (v := .bool (decide (uintB m = bs.take (k + 1)))) [1] 17 #[.slice A2 (uintB m).length c2, .slice (some ⟨b, off, none⟩) (k + 1) cap]
            · (first | rfl | (go_simp; done) | (simp [Region.wanted, yielded]; done))
            · intro w; kernel_rfl
            · intro γ' W hg hI
              refine (same_bytes _ _ (uintB m) (bs.take (k + 1)) W ?_ ?_).mono ?_
              · refine OwB.rd (base := 0) ?_ HU.out (by omega)
                rw [← hA2]
                exact HV.out.owns (fun g o hgo => ⟨Nat.zero_le _, (hI.here 1 g o ((hg 1 (by simp)).trans ((Gh.set_here _ _ _).trans hgo))).1⟩)
              · exact HBB.out.below hI.belowOf
              · rintro e W' ⟨rfl, rfl⟩
                exact ⟨rfl, hI⟩
            go_simp
            (apply SeqF.pure; (focus (first | rfl | (go_simp; done) | (simp [Region.wanted, yielded]; done))); (focus (intro w; go_simp; with_reducible rfl)); go_simp)
            apply SeqF.done
            intro w' hI
            have HB := Lib.hid hI.belowOf
            clear hI
            go_simp
            by_cases hd : uintB m = bs.take (k + 1)
            · have HS2 := Lib.hid (HA.out.trans (if_pos hd))
              simp only [hd, decide_true, Bool.not_true]
              clear HA hd
              go_wp2_with fail
              refine bodyPost_ret (v := .tuple #[.int .u64 m, .int .i64 (k + 1 : Nat), .int .i64 0]) (by simp [results, Try.results58, go_sem]) rfl ?_
              rw [HS2.out]
              exact ⟨rfl, HB.out⟩
            · have HS2 := Lib.hid (HA.out.trans (if_neg hd))
              simp only [hd, decide_false, Bool.not_false]
              clear HA hd
              go_wp2_with fail
              refine bodyPost_ret (v := .tuple #[.int .u64 0, .int .i64 0, .int .i64 8]) (by simp [results, Try.results58, go_sem]) rfl ?_
              rw [HS2.out]
              exact ⟨rfl, HB.out⟩
          case hl => rfl
          case ho => kernel_rfl
        · have HM2 := Lib.hid (HM.out.next hl HOK.out h128)
          have HA : Hid (readS bs = rdF (10 - (k + 1)) (k + 1) bs) := by
            refine Lib.hid ?_
            rw [show 10 - (k + 1) = f by omega, HS.out]
            by_cases h9 : k = 9
            · subst h9
              obtain rfl : f = 0 := by omega
              rw [rdF_nine 0 bs hl (by omega)]
              rfl
            · exact rdF_next k f bs hl h128 h9
          have HN : Hid (k + 1 < 10 → m = valU (bs.take (k + 1))) := Lib.hid fun h => Int.ofNat_inj.1 (em.symm.trans (or_next bs k (by omega) hl hcb (fun h => by omega)))
          clear HS hf em ha
          generalize bs.getD k 0 = c at *
          generalize valU (bs.take k) = a at *
          go_wp2_with fail
          go_round
          case rel =>
            refine ⟨k + 1, m, by omega, by go_num, ?_, HN.out, by omega, HM2, HA⟩
            rw [HEM.out]
          case measure =>
            simp [intOf]
            omega
      · have HS2 := Lib.hid (HS.out.trans (rdF_end k f bs hl))
        clear HS hf hn
        go_wp2_with fail
        refine bodyPost_ret (v := .tuple #[.int .u64 0, .int .i64 0, .int .i64 7]) (by simp [results, Try.results58, go_sem]) rfl ?_
        rw [HS2.out]
        exact ⟨rfl, Below.refl _ _⟩
    · obtain rfl : k = 10 := by omega
      have HS2 : Hid (readS bs = (0, 0, 8)) := HS.out
      clear HS hn
      go_wp2_with fail
      refine bodyPost_ret (v := .tuple #[.int .u64 0, .int .i64 0, .int .i64 8]) (by simp [results, Try.results58, go_sem]) rfl ?_
      rw [HS2.out]
      exact ⟨rfl, Below.refl _ _⟩
end Go.Proofs.Ytgkiedbefogklaa
