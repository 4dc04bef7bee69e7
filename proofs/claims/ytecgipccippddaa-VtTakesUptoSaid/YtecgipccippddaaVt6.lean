/- What is proved: what escaped of package vt answers when it is called; conditions: those typed. -/
import Derived.Test.YtecgipccippddaaVt5
set_option linter.unusedSimpArgs false
set_option linter.unusedVariables false
namespace Go.Proofs.Ytecgipccippddaa
open Go.RowKit
set_option maxRecDepth 100000
set_option maxHeartbeats 8000000
theorem escaped_any (P base : Nat) (s : VS) (vm vp vt : Value) (c : Int) (hc : 0 ≤ c ∧ c ≤ 2147483647) (w : World) (h : PW w P base s vm vp vt) (ho : VOk s) (hst : s.st = 2 ∨ s.st = 3) (hbase : base ≤ w.heap.size) :
    Calls Try.prog 23 #[.pointer (some ⟨P, 0, none⟩), .int .i32 c] w fun e w' => ∃ v, e = .returned v ∧ TakeOk w w' P base (escapedS s c) vm vp vt v := by
  have H := Lib.hid h
  have HOK := Lib.hid ho
  have HBS := Lib.hid hbase
  have hPl := lt_of_heap h.hP
  have hf0 : w.frozen? ⟨P, 0, none⟩ = false := frozen_of_row w P 0 _ _ h.hP
  clear ho hbase
  by_cases h1 : 32 ≤ c ∧ c < 48
  · obtain ⟨h1a, h1b⟩ := h1
    have c0 : w.cell? ⟨P, 0, none⟩ = some (.int .u8 s.st) := h.cell rfl
    have HE : Hid (escapedS s c = (addS { s with st := 3 } c, [])) := Lib.hid (by unfold escapedS; rw [if_pos ⟨h1a, h1b⟩])
    obtain ⟨s3, hs3⟩ : ∃ s3 : VS, s3 = { s with st := 3 } := ⟨_, rfl⟩
    rw [← hs3] at HE
    have H3 : Hid (PW (w.setCell ⟨P, 0, none⟩ (.int .u8 3)) P base s3 vm vp vt) := Lib.hid (by rw [hs3]; exact h.set rfl rfl rfl rfl)
    have HOK3 : Hid (VOk s3) := Lib.hid (by rw [hs3]; exact ⟨by simp, HOK.out.mid, HOK.out.ps, HOK.out.tx, HOK.out.pv⟩)
    have HBS3 : Hid (base ≤ (w.setCell ⟨P, 0, none⟩ (.int .u8 3)).heap.size) := Lib.hid (by simp; exact HBS.out)
    have HADD := Lib.hid (add_any P base s3 vm vp vt c (by omega) _ H3.out HOK3.out HBS3.out)
    clear hs3 h
    go_enter Try.func23, Try.ntmps23
    go_wp2_with fail
    refine HADD.out.mono ?_
    rintro e w9 ⟨rfl, hp⟩
    have HF : Hid (TakeOk w w9 P base (escapedS s c) vm vp vt (.slice none 0 0)) := Lib.hid (by
      rw [HE.out]
      exact TakeOk.no (PStep.then (Inv.ofSet (S := PB P vm vp vt) (.inl rfl)) (fun g hg => .inl hg) hp))
    clear hp
    go_wp2_with fail
    go_ret
    exact ⟨_, rfl, HF.out⟩
  · rcases hst with hst | hst
    · have c0 : w.cell? ⟨P, 0, none⟩ = some (.int .u8 2) := by have : w.cell? ⟨P, 0, none⟩ = some (.int .u8 s.st) := h.cell rfl; rw [hst] at this; exact this
      by_cases h2 : c = 91
      · subst h2
        have HE : Hid (escapedS s 91 = (freshS 4, [])) := Lib.hid (by unfold escapedS; rw [if_neg (by omega), if_pos ⟨hst, rfl⟩])
        clear h
        go_enter Try.func23, Try.ntmps23
        go_wp2_with fail
        refine (to_any P base 4 s vm vp vt w H.out).mono ?_
        rintro e w9 ⟨rfl, hp, hI⟩
        have HF : Hid (TakeOk w w9 P base (escapedS s 91) vm vp vt (.slice none 0 0)) := Lib.hid (by rw [HE.out]; exact TakeOk.no (PStep.to hp hI))
        clear hp hI
        go_wp2_with fail
        go_ret
        exact ⟨_, rfl, HF.out⟩
      · by_cases h3 : c = 93
        · subst h3
          have HE : Hid (escapedS s 93 = (freshS 5, [])) := Lib.hid (by unfold escapedS; rw [if_neg (by omega), if_neg (by omega), if_pos ⟨hst, rfl⟩])
          clear h h2
          go_enter Try.func23, Try.ntmps23
          go_wp2_with fail
          refine (to_any P base 5 s vm vp vt w H.out).mono ?_
          rintro e w9 ⟨rfl, hp, hI⟩
          have HF : Hid (TakeOk w w9 P base (escapedS s 93) vm vp vt (.slice none 0 0)) := Lib.hid (by rw [HE.out]; exact TakeOk.no (PStep.to hp hI))
          clear hp hI
          go_wp2_with fail
          go_ret
          exact ⟨_, rfl, HF.out⟩
        · have hn91 : (c == 91) = false := by simpa using h2
          have hn93 : (c == 93) = false := by simpa using h3
          obtain ⟨W, hW⟩ : ∃ W, w.alloc (.cells #[.int .i32 80, .int .i32 88, .int .i32 94, .int .i32 95] 21) = W := ⟨_, rfl⟩
          obtain ⟨X, hX⟩ : ∃ X, w.heap.size = X := ⟨_, rfl⟩
          have HBW : Hid (Below w.heap.size w W) := Lib.hid (by rw [← hW]; (repeat' (first | (with_reducible exact Below.refl _ _) | (with_reducible assumption) | (with_reducible refine Below.alloc ?_ ?_ _) | (with_reducible refine below_setRow ?_ ?_ _) | (with_reducible refine bl_drew ?_) | (with_reducible refine bl_drewN ?_ _) | (with_reducible refine Below.setCell ?_ ?_ _) | (with_reducible refine bl_then ?_ ?_ hb) | (with_reducible refine bl_then ?_ ?_ hb1) | (with_reducible refine bl_then ?_ ?_ hb2) | (with_reducible refine bl_then ?_ ?_ hb3) | (with_reducible refine bl_then ?_ ?_ hb4) | (with_reducible refine bl_then ?_ ?_ hb5) | (with_reducible refine bl_then ?_ ?_ hb6) | (with_reducible refine bl_then ?_ ?_ hb7) | (with_reducible refine bl_then ?_ ?_ hb8) | (with_reducible exact Nat.le_refl _) | omega | (simp only [World.size_alloc, World.size_setCell, World.size_drew, size_setRow]; omega) | (simp; omega) | (simp; done))))
          have HW := Lib.hid (h.below HBW.out)
          have HBSW : Hid (base ≤ W.heap.size) := Lib.hid (by have := HBS.out; have := HBW.out.size; omega)
          have HRD : Hid (RdI W .i32 (some ⟨X, 0, none⟩) 4 [80, 88, 94, 95]) := Lib.hid (by rw [← hW, ← hX]; exact RdI.new w .i32 21 [80, 88, 94, 95] 4 rfl)
          have c0' : W.cell? ⟨P, 0, none⟩ = some (.int .u8 2) := by have : W.cell? ⟨P, 0, none⟩ = some (.int .u8 s.st) := HW.out.cell rfl; rw [hst] at this; exact this
          obtain ⟨m, hm⟩ : ∃ m, decide (c ∈ ([80, 88, 94, 95] : List Int)) = m := ⟨_, rfl⟩
          have HCON := Lib.hid (contains_any (some ⟨X, 0, none⟩) 4 4 [80, 88, 94, 95] c W HRD.out (by omega))
          rw [hm] at HCON
          have h1' : ¬ 32 ≤ c ∨ ¬ c < 48 := by omega
          clear h
          cases m with
          | true =>
            have hmem : c = 80 ∨ c = 88 ∨ c = 94 ∨ c = 95 := by
              have := of_decide_eq_true hm
              simpa using this
            have HE : Hid (escapedS s c = (freshS 6, [])) := Lib.hid (by unfold escapedS; rw [if_neg h1, if_neg (by omega), if_neg (by omega), if_pos ⟨hst, hmem⟩])
            have h1a : 32 ≤ c := by omega
            have h1b : ¬ c < 48 := by omega
            clear hm hmem h1 h1'
            go_enter Try.func23, Try.ntmps23
            go_wp2_with fail
            refine HCON.out.mono ?_
            rintro e w8 ⟨rfl, rfl⟩
            go_wp2_with fail
            refine (to_any P base 6 s vm vp vt _ HW.out).mono ?_
            rintro e w9 ⟨rfl, hp, hI⟩
            have HF : Hid (TakeOk w w9 P base (escapedS s c) vm vp vt (.slice none 0 0)) := Lib.hid (by rw [HE.out]; exact TakeOk.later HBW.out (TakeOk.no (PStep.to hp hI)))
            clear hp hI
            go_wp2_with fail
            go_ret
            exact ⟨_, rfl, HF.out⟩
          | false =>
            have hmem : ¬ (c = 80 ∨ c = 88 ∨ c = 94 ∨ c = 95) := by
              have := of_decide_eq_false hm
              simpa using this
            have HNM : Hid (¬ (s.st = 2 ∧ (c = 80 ∨ c = 88 ∨ c = 94 ∨ c = 95)) ∧ ¬ (32 ≤ c ∧ c < 48) ∧ ¬ (s.st = 2 ∧ c = 91) ∧ ¬ (s.st = 2 ∧ c = 93)) := Lib.hid ⟨fun h => hmem h.2, h1, fun h => h2 h.2, fun h => h3 h.2⟩
            clear hm hmem h2 h3
            rcases h1' with h1' | h1'
            · clear h1
              go_enter Try.func23, Try.ntmps23
              go_wp2_with fail
              refine HCON.out.mono ?_
              rintro e w8 ⟨rfl, rfl⟩
              have h7a : ¬ 48 ≤ c := by omega
              have HE : Hid (escapedS s c = (s, [])) := Lib.hid (by unfold escapedS; rw [if_neg HNM.out.2.1, if_neg HNM.out.2.2.1, if_neg HNM.out.2.2.2, if_neg HNM.out.1]; rw [if_neg (by omega), if_neg (by omega)])
              have HF : Hid (TakeOk w8 w8 P base (escapedS s c) vm vp vt (.slice none 0 0)) := Lib.hid (by rw [HE.out]; exact TakeOk.no (PStep.refl HW.out))
              go_wp2_with fail
              go_ret
              exact ⟨_, rfl, TakeOk.later HBW.out HF.out⟩
            · have h1c : 32 ≤ c := by omega
              clear h1
              go_enter Try.func23, Try.ntmps23
              go_wp2_with fail
              refine HCON.out.mono ?_
              rintro e w8 ⟨rfl, rfl⟩
              by_cases h5 : 48 ≤ c ∧ c < 127
              · obtain ⟨h5a, h5b⟩ := h5
                have HE : Hid (escapedS s c = (freshS 1, endR s ⟨3, 0, 0, c, s.mid, [], []⟩)) := Lib.hid (by unfold escapedS; rw [if_neg HNM.out.2.1, if_neg HNM.out.2.2.1, if_neg HNM.out.2.2.2, if_neg HNM.out.1]; rw [if_pos ⟨h5a, h5b⟩])
                have hz : ∀ w, (zeroValue 31).run Try.prog w = .ok (.agg #[.int .u8 0, .int .i32 0, .int .u8 0, .int .u8 0, .slice none 0 0, .slice none 0 0, .slice none 0 0]) w := zero_act
                have hwc : IntKind.u8.wrap c = c := by rw [IntKind.wrap_u8]; omega
                obtain ⟨A, cp, hvm⟩ := HW.out.m.slice
                obtain ⟨n, hn⟩ : ∃ n, s.mid.length = n := ⟨_, rfl⟩
                rw [hn] at hvm
                have d2 : w8.cell? ⟨P, 2, none⟩ = some (.slice A n cp) := by rw [← hvm]; exact HW.out.cell rfl
                have HEND := Lib.hid (end_any P base s vm vp vt (.slice A n cp) (.slice none 0 0) (.slice none 0 0) 3 0 0 c w8 HW.out ⟨⟨_, _, _, rfl⟩, ⟨_, _, _, rfl⟩, ⟨_, _, _, rfl⟩⟩)
                have HVM := Lib.hid hvm
                clear hn hvm
                go_wp2_with fail
                refine HEND.out.mono ?_
                rintro e w9 ⟨v9, rfl, he⟩
                have HF : Hid (TakeOk w8 w9 P base (escapedS s c) vm vp vt v9) := Lib.hid (by
                  rw [HE.out]
                  exact TakeOk.ends (a := ⟨3, 0, 0, c, .slice A n cp, .slice none 0 0, .slice none 0 0, s.mid, [], []⟩) HW.out he ⟨by rw [← HVM.out]; exact HW.out.m.rdo, RdO.nil _ _ _ _, RdO.nil _ _ _ _⟩ (fun b hb => by
                    rcases hb with hb | hb | hb
                    · have hb' : vm.ownBlock = some b := by rw [HVM.out]; exact hb
                      exact ⟨.inr (.inl hb'), fun e => HW.out.notP.1 (by rw [hb', e])⟩
                    · cases hb
                    · cases hb) HBSW.out)
                clear he
                go_wp2_with fail
                go_ret
                exact ⟨_, rfl, TakeOk.later HBW.out HF.out⟩
              · have h5' : ¬ 48 ≤ c ∨ ¬ c < 127 := by omega
                by_cases h6 : 128 ≤ c
                · have h6a : 48 ≤ c := by omega
                  have h6b : ¬ c < 127 := by omega
                  have HE : Hid (escapedS s c = (freshS 1, [])) := Lib.hid (by unfold escapedS; rw [if_neg HNM.out.2.1, if_neg HNM.out.2.2.1, if_neg HNM.out.2.2.2, if_neg HNM.out.1]; rw [if_neg h5, if_pos h6])
                  clear h5 h5'
                  go_wp2_with fail
                  refine (to_any P base 1 s vm vp vt w8 HW.out).mono ?_
                  rintro e w9 ⟨rfl, hp, hI⟩
                  have HF : Hid (TakeOk w8 w9 P base (escapedS s c) vm vp vt (.slice none 0 0)) := Lib.hid (by rw [HE.out]; exact TakeOk.no (PStep.to hp hI))
                  clear hp hI
                  go_wp2_with fail
                  go_ret
                  exact ⟨_, rfl, TakeOk.later HBW.out HF.out⟩
                · have HE : Hid (escapedS s c = (s, [])) := Lib.hid (by unfold escapedS; rw [if_neg HNM.out.2.1, if_neg HNM.out.2.2.1, if_neg HNM.out.2.2.2, if_neg HNM.out.1]; rw [if_neg h5, if_neg h6])
                  have HF : Hid (TakeOk w8 w8 P base (escapedS s c) vm vp vt (.slice none 0 0)) := Lib.hid (by rw [HE.out]; exact TakeOk.no (PStep.refl HW.out))
                  obtain rfl : c = 127 := by omega
                  clear h5 h5' h6
                  go_wp2_with fail
                  go_ret
                  exact ⟨_, rfl, TakeOk.later HBW.out HF.out⟩
    · have c0 : w.cell? ⟨P, 0, none⟩ = some (.int .u8 3) := by have : w.cell? ⟨P, 0, none⟩ = some (.int .u8 s.st) := h.cell rfl; rw [hst] at this; exact this
      have h1' : ¬ 32 ≤ c ∨ ¬ c < 48 := by omega
      have HNM : Hid (¬ (s.st = 2 ∧ (c = 80 ∨ c = 88 ∨ c = 94 ∨ c = 95)) ∧ ¬ (32 ≤ c ∧ c < 48) ∧ ¬ (s.st = 2 ∧ c = 91) ∧ ¬ (s.st = 2 ∧ c = 93)) := Lib.hid ⟨fun h => by omega, h1, fun h => by omega, fun h => by omega⟩
      clear h
      rcases h1' with h1' | h1'
      · clear h1
        go_enter Try.func23, Try.ntmps23
        have h7a : ¬ 48 ≤ c := by omega
        have HE : Hid (escapedS s c = (s, [])) := Lib.hid (by unfold escapedS; rw [if_neg HNM.out.2.1, if_neg HNM.out.2.2.1, if_neg HNM.out.2.2.2, if_neg HNM.out.1]; rw [if_neg (by omega), if_neg (by omega)])
        have HF : Hid (TakeOk w w P base (escapedS s c) vm vp vt (.slice none 0 0)) := Lib.hid (by rw [HE.out]; exact TakeOk.no (PStep.refl H.out))
        go_wp2_with fail
        go_ret
        exact ⟨_, rfl, HF.out⟩
      · have h1c : 32 ≤ c := by omega
        clear h1
        go_enter Try.func23, Try.ntmps23
        by_cases h5 : 48 ≤ c ∧ c < 127
        · obtain ⟨h5a, h5b⟩ := h5
          have HE : Hid (escapedS s c = (freshS 1, endR s ⟨3, 0, 0, c, s.mid, [], []⟩)) := Lib.hid (by unfold escapedS; rw [if_neg HNM.out.2.1, if_neg HNM.out.2.2.1, if_neg HNM.out.2.2.2, if_neg HNM.out.1]; rw [if_pos ⟨h5a, h5b⟩])
          have hz : ∀ w, (zeroValue 31).run Try.prog w = .ok (.agg #[.int .u8 0, .int .i32 0, .int .u8 0, .int .u8 0, .slice none 0 0, .slice none 0 0, .slice none 0 0]) w := zero_act
          have hwc : IntKind.u8.wrap c = c := by rw [IntKind.wrap_u8]; omega
          obtain ⟨A, cp, hvm⟩ := H.out.m.slice
          obtain ⟨n, hn⟩ : ∃ n, s.mid.length = n := ⟨_, rfl⟩
          rw [hn] at hvm
          have d2 : w.cell? ⟨P, 2, none⟩ = some (.slice A n cp) := by rw [← hvm]; exact H.out.cell rfl
          have HEND := Lib.hid (end_any P base s vm vp vt (.slice A n cp) (.slice none 0 0) (.slice none 0 0) 3 0 0 c w H.out ⟨⟨_, _, _, rfl⟩, ⟨_, _, _, rfl⟩, ⟨_, _, _, rfl⟩⟩)
          have HVM := Lib.hid hvm
          clear hn hvm
          go_wp2_with fail
          refine HEND.out.mono ?_
          rintro e w9 ⟨v9, rfl, he⟩
          have HF : Hid (TakeOk w w9 P base (escapedS s c) vm vp vt v9) := Lib.hid (by
            rw [HE.out]
            exact TakeOk.ends (a := ⟨3, 0, 0, c, .slice A n cp, .slice none 0 0, .slice none 0 0, s.mid, [], []⟩) H.out he ⟨by rw [← HVM.out]; exact H.out.m.rdo, RdO.nil _ _ _ _, RdO.nil _ _ _ _⟩ (fun b hb => by
              rcases hb with hb | hb | hb
              · have hb' : vm.ownBlock = some b := by rw [HVM.out]; exact hb
                exact ⟨.inr (.inl hb'), fun e => H.out.notP.1 (by rw [hb', e])⟩
              · cases hb
              · cases hb) HBS.out)
          clear he
          go_wp2_with fail
          go_ret
          exact ⟨_, rfl, HF.out⟩
        · have h5' : ¬ 48 ≤ c ∨ ¬ c < 127 := by omega
          by_cases h6 : 128 ≤ c
          · have h6a : 48 ≤ c := by omega
            have h6b : ¬ c < 127 := by omega
            have HE : Hid (escapedS s c = (freshS 1, [])) := Lib.hid (by unfold escapedS; rw [if_neg HNM.out.2.1, if_neg HNM.out.2.2.1, if_neg HNM.out.2.2.2, if_neg HNM.out.1]; rw [if_neg h5, if_pos h6])
            clear h5 h5'
            go_wp2_with fail
            refine (to_any P base 1 s vm vp vt w H.out).mono ?_
            rintro e w9 ⟨rfl, hp, hI⟩
            have HF : Hid (TakeOk w w9 P base (escapedS s c) vm vp vt (.slice none 0 0)) := Lib.hid (by rw [HE.out]; exact TakeOk.no (PStep.to hp hI))
            clear hp hI
            go_wp2_with fail
            go_ret
            exact ⟨_, rfl, HF.out⟩
          · have HE : Hid (escapedS s c = (s, [])) := Lib.hid (by unfold escapedS; rw [if_neg HNM.out.2.1, if_neg HNM.out.2.2.1, if_neg HNM.out.2.2.2, if_neg HNM.out.1]; rw [if_neg h5, if_neg h6])
            have HF : Hid (TakeOk w w P base (escapedS s c) vm vp vt (.slice none 0 0)) := Lib.hid (by rw [HE.out]; exact TakeOk.no (PStep.refl H.out))
            obtain rfl : c = 127 := by omega
            clear h5 h5' h6
            go_wp2_with fail
            go_ret
            exact ⟨_, rfl, HF.out⟩
end Go.Proofs.Ytecgipccippddaa
