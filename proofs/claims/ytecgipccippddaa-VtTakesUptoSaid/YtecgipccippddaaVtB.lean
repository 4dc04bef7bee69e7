/- What is proved: the law VtPlain answers true; conditions: those typed. -/
import Derived.Test.YtecgipccippddaaVtA
set_option linter.unusedSimpArgs false
set_option linter.unusedVariables false
namespace Go.Proofs.Ytecgipccippddaa
open Go.RowKit
set_option maxRecDepth 100000
set_option maxHeartbeats 8000000
theorem takeS_plain {c : Int} (h : 32 ≤ c ∧ c < 127) : takeS (freshS 1) c = (freshS 1, [⟨1, c, 0, 0, [], [], []⟩]) := by
  unfold takeS
  rw [if_neg (show ¬ c < 0 by omega)]
  simp only []
  rw [if_neg (by omega), if_neg (by omega), if_pos (show (freshS 1).st = 1 from rfl), if_pos (by omega)]
theorem NewAc.one {w' : World} {P base : Nat} {x : Ac} {vm vp vt u : Value} {M : List HA} (h : NewAc w' P base [x] vm vp vt u M) : ∃ a g cap, M = [a] ∧ a.ac = x ∧ u = .slice (some ⟨g, 0, none⟩) 1 cap ∧ ∀ j y, (arow a).toList[j]? = some y → w'.cell? ⟨g, j, none⟩ = some y := by
  have hl := congrArg List.length h.acs
  simp at hl
  match M, hl with
  | [a], _ =>
    have ha := h.acs
    simp only [List.map_cons, List.map_nil, List.cons.injEq, and_true] at ha
    obtain ⟨A, c, hu, hr⟩ := h.own.slice7
    obtain ⟨g, cur, rfl, hh, hc⟩ := hr 0 a rfl
    refine ⟨a, g, c, rfl, ha, hu, fun j y hy => ?_⟩
    rw [cell_of_row _ _ _ _ _ _ hh]
    have := hc j y hy
    rwa [Nat.zero_mul, Nat.zero_add] at this
theorem plain_law (A : Option Addr) (n cap : Nat) (l : List Int) (w : World) (h : RdI w .u8 A n l) (hx : okB l) (hl : n ≤ 140737488355328) :
    Calls Try.prog 4 #[.slice A n cap] w fun e w' => e = .returned (.bool true) ∧ Below w.heap.size w w' := by
  have hn := h.len
  have HN := Lib.hid hn
  have H := Lib.hid h
  have HC := Lib.hid hx
  clear h hn hx
  obtain ⟨X, hX⟩ : ∃ X, w.heap.size = X := ⟨_, rfl⟩
  have HST := Lib.hid (AllSt.start w)
  obtain ⟨W0, hW0⟩ : ∃ W, w.alloc (.cells (pcells (freshS 1) (.slice none 0 0) (.slice none 0 0) (.slice none 0 0)) 47) = W := ⟨_, rfl⟩
  rw [hW0, hX] at HST
  have HNEW := Lib.hid (new_any w)
  rw [hW0, hX] at HNEW
  rw [hX]
  clear hW0
  go_enter Try.func4, Try.ntmps4
  go_wp2_with fail
  refine HNEW.out.mono ?_
  rintro e w1 ⟨rfl, hw1⟩
  subst w1
  go_wp2_with fail
  go_loopw [4] (fun i wr => ∃ k : Nat, k ≤ n ∧ i = .int .i64 k ∧ Hid (∃ vm vp vt, AllSt w wr X X (freshS 1, []) vm vp vt (.slice none 0 0) [] 0)) (fun i _ => n - (intOf i).toNat)
  case atStart => exact ⟨0, by omega, rfl, Lib.hid ⟨_, _, _, HST.out⟩⟩
  case round =>
    obtain ⟨k, hk, rfl, HS⟩ := hrel
    obtain ⟨vm, vp, vt, hs⟩ := HS.out
    by_cases hkn : k < n
    · have hki : (k : Int) < (n : Int) := by omega
      have hk0 : (0 : Int) ≤ (k : Int) := by omega
      obtain ⟨b, off, hA, hc⟩ := (H.out.blocks (w1 := wr) fun b off hn hA => hs.bel.block b (by have := H.out.lt_ hn hA; omega)).2 (by omega)
      have dx := hc k hkn
      subst hA
      have hxr := HC.out.getD k
      obtain ⟨x, hx0⟩ : ∃ x, l.getD k 0 = x := ⟨_, rfl⟩
      rw [hx0] at dx hxr
      clear hx0 hc
      obtain ⟨c, hcx⟩ : ∃ c, 32 + x % 95 = c := ⟨_, rfl⟩
      have hcr : 32 ≤ c ∧ c < 127 := by omega
      have hw1 : IntKind.i32.wrap x = x := by rw [IntKind.wrap_i32]; omega
      have htm : x.tmod 95 = x % 95 := Int.tmod_eq_emod_of_nonneg hxr.1
      have hw2 : IntKind.i32.wrap (x % 95) = x % 95 := by rw [IntKind.wrap_i32]; omega
      have hw3 : IntKind.i32.wrap c = c := by rw [IntKind.wrap_i32]; omega
      have HTAKE := Lib.hid (take_any X X _ vm vp vt c (by omega) wr hs.pw hs.ok hs.hb)
      have HSS := Lib.hid hs
      have HCR := Lib.hid hcr
      clear hs HS hxr hcr
      go_wp2_with fail
      refine HTAKE.out.mono ?_
      rintro e w2 ⟨u, rfl, ht⟩
      obtain ⟨vm2, vp2, vt2, M, h2, hn⟩ := HSS.out.took (by have := HCR.out; omega) ht
      dsimp only at h2 hn
      rw [takeS_plain HCR.out] at h2 hn
      have HS2 : Hid (∃ vm vp vt, AllSt w w2 X X (freshS 1, []) vm vp vt (.slice none 0 0) [] 0) := Lib.hid ⟨_, _, _, h2⟩
      obtain ⟨a, g, cp, rfl, ha, hu, hcl⟩ := hn.one
      have e0 : w2.cell? ⟨g, 0, none⟩ = some (.int .u8 1) := by have := hcl 0 _ rfl; rwa [show a.k = 1 from congrArg Ac.k ha] at this
      have e1 : w2.cell? ⟨g, 1, none⟩ = some (.int .i32 c) := by have := hcl 1 _ rfl; rwa [show a.ch = c from congrArg Ac.ch ha] at this
      subst hu
      clear ht h2 hn HTAKE HSS hcl ha
      go_wp2_with fail
      go_roundw
      case rel =>
        first
          | exact ⟨k + 1, by omega, by go_num, HS2⟩
          | ((repeat apply Exists.intro); refine ⟨?_, rfl⟩; exact ⟨k + 1, by omega, by go_num, HS2⟩)
      case measure => first | (simp [intOf]; done) | (simp [intOf]; omega)
    · have hki : ¬ (k : Int) < (n : Int) := by omega
      have HSS := Lib.hid hs
      clear hs HS
      go_wp2_with fail
      refine (anchored_any wr).mono ?_
      rintro e w2 ⟨rfl, hb⟩
      have HP2 := Lib.hid (HSS.out.pw.below hb)
      have HB2 : Hid (Below X w w2) := Lib.hid (bl_then HSS.out.bel HSS.out.hb hb)
      clear hb
      go_wp2_with fail
      refine (ground_any X X (freshS 1) vm vp vt w2 HP2.out (by simp [freshS])).mono ?_
      rintro e w3 ⟨rfl, hw3⟩
      subst w3
      go_wp2_with fail
      go_ret
      exact ⟨rfl, HB2.out⟩
end Go.Proofs.Ytecgipccippddaa
