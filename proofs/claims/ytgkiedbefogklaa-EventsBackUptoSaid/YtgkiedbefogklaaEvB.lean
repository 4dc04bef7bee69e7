/- What is proved: what Begins of events, of both packages, answers; conditions: those typed. -/
import Derived.Test.YtgkiedbefogklaaEvA
set_option linter.unusedSimpArgs false
set_option linter.unusedVariables false
namespace Go.Proofs.Ytgkiedbefogklaa
open Go.RowKit
set_option maxRecDepth 100000
set_option maxHeartbeats 8000000
theorem zero_ev2 (w : World) : (zeroValue 48).run Try.prog w = .ok (.agg #[.int .u8 0, .slice none 0 0, .int .i64 0, .int .i64 0, .int .u8 0]) w := by kernel_rfl
theorem equalfunc_any (E F : List Event) (u v : Value) (w : World) (hu : EvL w u E) (hv : EvL w v F) : Calls Try.prog 27 #[u, v, .func (.func 28) #[] #[]] w fun e w' => e = .returned (.bool (sameL E F)) ∧ Below w.heap.size w w' := by
  have hz : ∀ w, (zeroValue 48).run Try.prog w = .ok (.agg #[.int .u8 0, .slice none 0 0, .int .i64 0, .int .i64 0, .int .u8 0]) w := zero_ev2
  obtain ⟨hlen, A1, c1, rfl, hn1, hl1, hm1, hi1⟩ := hu
  obtain ⟨hlen2, A2, c2, rfl, hn2, hl2, hm2, hi2⟩ := hv
  have HI1 := Lib.hid hi1
  have HI2 := Lib.hid hi2
  obtain ⟨n, hn⟩ : ∃ n, E.length = n := ⟨_, rfl⟩
  obtain ⟨m, hm⟩ : ∃ n, F.length = n := ⟨_, rfl⟩
  have HN := Lib.hid (show E.length = n ∧ F.length = m from ⟨hn, hm⟩)
  rw [hn] at hlen hl1 HI1 ⊢
  rw [hm] at hlen2 hl2 HI2 ⊢
  clear hi1 hi2 hn1 hn2 hn hm
  rcases Decidable.em (n = m) with rfl | hne
  · go_enter Try.func27, Try.ntmps27
    go_wp2_with fail
    go_loopw [17] (fun i wr => ∃ k : Nat, k ≤ n ∧ i = .int .i64 k ∧ Hid (Below w.heap.size w wr) ∧ Hid (∀ j, j < k → E.getD j zE = F.getD j zE)) (fun i _ => n - (intOf i).toNat)
    case atStart => exact ⟨0, by omega, rfl, Lib.hid (Below.refl _ _), Lib.hid (fun j hj => by omega)⟩
    case round =>
      obtain ⟨k, hk, rfl, HB, HK⟩ := hrel
      by_cases hkn : k < n
      · have hki : (k : Int) < (n : Int) := by omega
        have hk0 : (0 : Int) ≤ (k : Int) := by omega
        obtain ⟨b1, o1, rfl, he1⟩ := HI1.out k hkn
        obtain ⟨b2, o2, rfl, he2⟩ := HI2.out k hkn
        have hb1 : b1 < w.heap.size := by obtain ⟨u, q0, _⟩ := he1; exact block_lt_of_cell q0
        have hb2 : b2 < w.heap.size := by obtain ⟨u, q0, _⟩ := he2; exact block_lt_of_cell q0
        obtain ⟨u1, hu1, ok1, r1⟩ := run_load_ev he1
        obtain ⟨u2, hu2, ok2, r2⟩ := run_load_ev he2
        obtain ⟨e, hee⟩ : ∃ e, E.getD k zE = e := ⟨_, rfl⟩
        obtain ⟨f, hff⟩ : ∃ e, F.getD k zE = e := ⟨_, rfl⟩
        have HEF := Lib.hid (show E.getD k zE = e ∧ F.getD k zE = f from ⟨hee, hff⟩)
        rw [hee] at hu1 r1
        rw [hff] at hu2 r2
        have HU1 := Lib.hid hu1
        have HU2 := Lib.hid hu2
        obtain ⟨s, hs⟩ : ∃ s, sameE e f = s := ⟨_, rfl⟩
        have HS := Lib.hid hs
        obtain ⟨ek, eb, ec, er, ea⟩ := e
        obtain ⟨fk, fb, fc, fr, fa⟩ := f
        obtain ⟨UA, UN, UC, rfl⟩ : ∃ A n c, u1 = .slice A n c := by obtain ⟨_, _, A, c, h, _⟩ := hu1; exact ⟨_, _, _, h⟩
        obtain ⟨VA, VN, VC, rfl⟩ : ∃ A n c, u2 = .slice A n c := by obtain ⟨_, _, A, c, h, _⟩ := hu2; exact ⟨_, _, _, h⟩
        unfold erow at r1 r2
        dsimp only at r1 r2
        obtain ⟨X, hX⟩ : ∃ X, wr.heap.size = X := ⟨_, rfl⟩
        have HX0 : Hid ((wr.alloc (.cells #[.int .u8 0, .slice none 0 0, .int .i64 0, .int .i64 0, .int .u8 0] 48)).heap[X]? = some (.cells #[.int .u8 0, .slice none 0 0, .int .i64 0, .int .i64 0, .int .u8 0] 48 (0, 0))) := Lib.hid (by rw [← hX]; exact heap_alloc_last _ _)
        obtain ⟨w2, hw2⟩ : ∃ W, (wr.alloc (.cells #[.int .u8 0, .slice none 0 0, .int .i64 0, .int .i64 0, .int .u8 0] 48)).setRow X #[.int .u8 ek, .slice UA UN UC, .int .i64 ec, .int .i64 er, .int .u8 ea] = W := ⟨_, rfl⟩
        have hb2' : Below wr.heap.size wr w2 := by rw [← hw2, ← hX]; exact below_setRow (Below.alloc (Below.refl _ _) (Nat.le_refl _) _) (Nat.le_refl _) _
        have hx2 : w2.heap[X]? = some (.cells #[.int .u8 ek, .slice UA UN UC, .int .i64 ec, .int .i64 er, .int .u8 ea] 48 (0, 0)) := by rw [← hw2]; exact setRow_heap _ _ _ _ _ _ HX0.out
        have HB2 := Lib.hid (bl_then HB.out HB.out.size hb2')
        obtain ⟨Y, hY⟩ : ∃ Y, w2.heap.size = Y := ⟨_, rfl⟩
        have HY0 : Hid ((w2.alloc (.cells #[.int .u8 0, .slice none 0 0, .int .i64 0, .int .i64 0, .int .u8 0] 48)).heap[Y]? = some (.cells #[.int .u8 0, .slice none 0 0, .int .i64 0, .int .i64 0, .int .u8 0] 48 (0, 0))) := Lib.hid (by rw [← hY]; exact heap_alloc_last _ _)
        obtain ⟨w3, hw3⟩ : ∃ W, (w2.alloc (.cells #[.int .u8 0, .slice none 0 0, .int .i64 0, .int .i64 0, .int .u8 0] 48)).setRow Y #[.int .u8 fk, .slice VA VN VC, .int .i64 fc, .int .i64 fr, .int .u8 fa] = W := ⟨_, rfl⟩
        have hb3' : Below w2.heap.size w2 w3 := by rw [← hw3, ← hY]; exact below_setRow (Below.alloc (Below.refl _ _) (Nat.le_refl _) _) (Nat.le_refl _) _
        have HX3 := Lib.hid ((hb3'.block X (lt_of_heap hx2)).trans hx2)
        have HY3 : Hid (w3.heap[Y]? = some (.cells #[.int .u8 fk, .slice VA VN VC, .int .i64 fc, .int .i64 fr, .int .u8 fa] 48 (0, 0))) := Lib.hid (by rw [← hw3]; exact setRow_heap _ _ _ _ _ _ HY0.out)
        have HB3 := Lib.hid (bl_then HB2.out HB2.out.size hb3')
        have HRUN1 := Lib.hid (r1 wr (HB.out.block b1 hb1))
        have HRUN2 := Lib.hid (r2 w2 (HB2.out.block b2 hb2))
        have HSAME : Hid (Calls Try.prog 28 #[.agg #[.int .u8 ek, .slice UA UN UC, .int .i64 ec, .int .i64 er, .int .u8 ea], .agg #[.int .u8 fk, .slice VA VN VC, .int .i64 fc, .int .i64 fr, .int .u8 fa]] w3 fun r w' => r = .returned (.bool s) ∧ Below w3.heap.size w3 w') := Lib.hid (by
          have := wsameE_any ⟨ek, eb, ec, er, ea⟩ ⟨fk, fb, fc, fr, fa⟩ (.slice UA UN UC) (.slice VA VN VC) w3 (HU1.out.below HB3.out) (HU2.out.below HB3.out)
          rw [HS.out] at this
          exact this)
        clear he1 he2 hu1 hu2 r1 r2 ok1 ok2 hee hff hs hb2' hb3' hx2
        go_wp2_with (first | (with_reducible refine wpList_ldE (p := .pointer (some ⟨b1, o1 + k * 5, none⟩)) rfl (.tmp 20) rfl rfl HRUN1.out ?_) | (with_reducible refine wpList_stB (row := #[.int .u8 ek, .slice UA UN UC, .int .i64 ec, .int .i64 er, .int .u8 ea]) evInfo (by simp [Value.oneCell']) rfl (.tmp 8) (.tmp 21) rfl rfl rfl HX0.out rfl ?_) | (with_reducible refine wpList_ldE (p := .pointer (some ⟨b2, o2 + k * 5, none⟩)) rfl (.tmp 24) rfl rfl HRUN2.out ?_) | (with_reducible refine wpList_stB (row := #[.int .u8 fk, .slice VA VN VC, .int .i64 fc, .int .i64 fr, .int .u8 fa]) evInfo (by simp [Value.oneCell']) rfl (.tmp 9) (.tmp 25) rfl rfl rfl HY0.out rfl ?_) | (with_reducible refine wpList_ldB (row := #[.int .u8 ek, .slice UA UN UC, .int .i64 ec, .int .i64 er, .int .u8 ea]) evInfo evRow rfl (.tmp 8) rfl rfl HX3.out ?_) | (with_reducible refine wpList_ldB (row := #[.int .u8 fk, .slice VA VN VC, .int .i64 fc, .int .i64 fr, .int .u8 fa]) evInfo evRow rfl (.tmp 9) rfl rfl HY3.out ?_))
        refine HSAME.out.mono ?_
        rintro r w4 ⟨rfl, hb⟩
        have HB4 := Lib.hid (bl_then HB3.out HB3.out.size hb)
        clear hb hX hY hw2 hw3 HX0 HY0 HX3 HY3 HRUN1 HRUN2 HSAME
        cases s with
        | true =>
          have HK2 : Hid (∀ j, j < k + 1 → E.getD j zE = F.getD j zE) := Lib.hid (fun j hj => by
            rcases (by omega : j < k ∨ j = k) with h | rfl
            · exact HK.out j h
            · rw [HEF.out.1, HEF.out.2, sameE_iff.1 HS.out])
          go_wp2_with fail
          go_roundw
          case rel =>
            first
              | exact ⟨k + 1, by omega, by go_num, HB4, HK2⟩
              | ((repeat apply Exists.intro); refine ⟨?_, rfl⟩; exact ⟨k + 1, by omega, by go_num, HB4, HK2⟩)
          case measure => first | (simp [intOf]; done) | (simp [intOf]; omega)
        | false =>
          have HNO : Hid (sameL E F = false) := Lib.hid (sameL_no (fun e2 => by
            have h1 := HEF.out.1
            rw [e2, HEF.out.2] at h1
            have h2 := sameE_iff.2 h1.symm
            rw [HS.out] at h2
            cases h2))
          go_wp2_with fail
          go_ret
          rw [HNO.out]
          exact ⟨rfl, HB4.out⟩
      · have hki : ¬ (k : Int) < (n : Int) := by omega
        have HT : Hid (sameL E F = true) := Lib.hid (sameL_iff.2 (ext_ev (by rw [HN.out.1, HN.out.2]) (fun j hj => HK.out j (by rw [HN.out.1] at hj; omega))))
        go_wp2_with fail
        go_ret
        rw [HT.out]
        exact ⟨rfl, HB.out⟩
  · have hnb : (((n : Nat) : Int) != ((m : Nat) : Int)) = true := by simp; omega
    have HNO : Hid (sameL E F = false) := Lib.hid (sameL_no (fun e2 => hne (by rw [← HN.out.1, ← HN.out.2, e2])))
    go_enter Try.func27, Try.ntmps27
    go_wp2_with fail
    go_ret
    rw [HNO.out]
    exact ⟨rfl, Below.refl _ _⟩
def beginsL (E F : List Event) : Bool := decide (E.length ≤ F.length) && sameL E (F.take E.length)
theorem evbegins_any (E F : List Event) (u v : Value) (w : World) (hu : EvL w u E) (hv : EvL w v F) : Calls Try.prog 12 #[u, v] w fun e w' => e = .returned (.bool (beginsL E F)) ∧ Below w.heap.size w w' := by
  have HV := Lib.hid hv
  have HU := Lib.hid hu
  obtain ⟨hlen, A1, c1, rfl, hn1, hl1, hm1, hi1⟩ := hu
  obtain ⟨hlen2, A2, c2, rfl, hn2, hl2, hm2, hi2⟩ := hv
  clear hi1 hi2 hn1 hn2
  obtain ⟨n, hn⟩ : ∃ n, E.length = n := ⟨_, rfl⟩
  obtain ⟨m, hm⟩ : ∃ n, F.length = n := ⟨_, rfl⟩
  have HBG : Hid (beginsL E F = (decide (n ≤ m) && sameL E (F.take n))) := Lib.hid (by unfold beginsL; rw [hn, hm])
  rw [hn] at hlen hl1 HU ⊢
  rw [hm] at hlen2 hl2 HV ⊢
  clear hn hm
  by_cases hb : n ≤ m
  · have hbi : (n : Int) ≤ (m : Int) := by omega
    have hbd : decide ((n : Int) ≤ (m : Int)) = true := decide_eq_true hbi
    have hc : n ≤ c2 := by omega
    have hci : (n : Int) ≤ (c2 : Int) := by omega
    have hn0 : (0 : Int) ≤ (n : Int) := by omega
    obtain ⟨s, hs⟩ : ∃ s, sameL E (F.take n) = s := ⟨_, rfl⟩
    have HC := Lib.hid (equalfunc_any E (F.take n) _ _ w HU.out (HV.out.cut (m := n) (c2 := n) hb (Nat.le_refl _) hc))
    rw [hs] at HC
    have HF : Hid (beginsL E F = s) := Lib.hid (by rw [HBG.out, hs]; simp [hb])
    clear hs HBG
    rw [HF.out]
    go_enter Try.func12, Try.ntmps12
    go_wp2_with fail
    refine HC.out.mono ?_
    rintro e w1 ⟨rfl, hb⟩
    have HB := Lib.hid hb
    clear hb
    go_wp2_with fail
    go_ret
    exact ⟨rfl, HB.out⟩
  · have hbi : ¬ (n : Int) ≤ (m : Int) := by omega
    have hbd : decide ((n : Int) ≤ (m : Int)) = false := decide_eq_false hbi
    have HF : Hid (beginsL E F = false) := Lib.hid (by rw [HBG.out]; simp [hb])
    rw [HF.out]
    go_enter Try.func12, Try.ntmps12
    go_wp2_with fail
    go_ret
    exact ⟨rfl, Below.refl _ _⟩
theorem rbegins_any (E F : List Event) (u v : Value) (w : World) (hu : EvL w u E) (hv : EvL w v F) : Calls Try.prog 19 #[u, v] w fun e w' => e = .returned (.bool (beginsL E F)) ∧ Below w.heap.size w w' := by
  have HV := Lib.hid hv
  have HU := Lib.hid hu
  obtain ⟨hlen, A1, c1, rfl, hn1, hl1, hm1, hi1⟩ := hu
  obtain ⟨hlen2, A2, c2, rfl, hn2, hl2, hm2, hi2⟩ := hv
  clear hi1 hi2 hn1 hn2
  obtain ⟨n, hn⟩ : ∃ n, E.length = n := ⟨_, rfl⟩
  obtain ⟨m, hm⟩ : ∃ n, F.length = n := ⟨_, rfl⟩
  have HBG : Hid (beginsL E F = (decide (n ≤ m) && sameL E (F.take n))) := Lib.hid (by unfold beginsL; rw [hn, hm])
  rw [hn] at hlen hl1 HU ⊢
  rw [hm] at hlen2 hl2 HV ⊢
  clear hn hm
  by_cases hb : n ≤ m
  · have hbi : (n : Int) ≤ (m : Int) := by omega
    have hbd : decide ((n : Int) ≤ (m : Int)) = true := decide_eq_true hbi
    have hc : n ≤ c2 := by omega
    have hci : (n : Int) ≤ (c2 : Int) := by omega
    have hn0 : (0 : Int) ≤ (n : Int) := by omega
    obtain ⟨s, hs⟩ : ∃ s, sameL E (F.take n) = s := ⟨_, rfl⟩
    have HC := Lib.hid (lists_dec E (F.take n) _ _ w HU.out (HV.out.cut (m := n) (c2 := c2) hb hc (Nat.le_refl _)))
    rw [hs] at HC
    have HF : Hid (beginsL E F = s) := Lib.hid (by rw [HBG.out, hs]; simp [hb])
    clear hs HBG
    rw [HF.out]
    go_enter Try.func19, Try.ntmps19
    go_wp2_with fail
    refine HC.out.mono ?_
    rintro e w1 ⟨rfl, hb⟩
    have HB := Lib.hid hb
    clear hb
    go_wp2_with fail
    go_ret
    exact ⟨rfl, HB.out⟩
  · have hbi : ¬ (n : Int) ≤ (m : Int) := by omega
    have hbd : decide ((n : Int) ≤ (m : Int)) = false := decide_eq_false hbi
    have HF : Hid (beginsL E F = false) := Lib.hid (by rw [HBG.out]; simp [hb])
    rw [HF.out]
    go_enter Try.func19, Try.ntmps19
    go_wp2_with fail
    go_ret
    exact ⟨rfl, Below.refl _ _⟩
end Go.Proofs.Ytgkiedbefogklaa
