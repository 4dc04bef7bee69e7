/- What is proved: what the search for an event that may not be (of package events) answers when it is called; conditions: the events read as they are said to. -/
import Derived.Test.YtgkiedbefogklaaWire8
set_option linter.unusedSimpArgs false
set_option linter.unusedVariables false
namespace Go.Proofs.Ytgkiedbefogklaa
open Go.RowKit
set_option maxRecDepth 100000
set_option maxHeartbeats 1000000
theorem notmay2_any (e : Event) (A : Option Addr) (cap : Nat) (w : World) (he : e.ok) (hn : e.bs.length ≤ 140737488355328) (hcm : cap ≤ maxLen) (hlc : e.bs.length ≤ cap) :
    Calls Try.prog 32 #[.agg #[.int .u8 e.kind, .slice A e.bs.length cap, .int .i64 e.cols, .int .i64 e.rows, .int .u8 e.arrow]] w fun en w' => en = .returned (.bool (!mayS e)) ∧ Below w.heap.size w w' := by
  obtain ⟨k, bs, c, r, a⟩ := e
  obtain ⟨hk, hc, hr, ha⟩ := he
  unfold mayS
  simp only at *
  go_enter Try.func32, Try.ntmps32
  go_wp2_with fail
  refine (may_any k c r a A bs.length cap _ hk hn hcm hlc).mono ?_
  rintro en w1 ⟨rfl, hb⟩
  have HB := Lib.hid (bl_then (show Below w.heap.size w (w.alloc _) by (repeat' (first | (with_reducible exact Below.refl _ _) | (with_reducible assumption) | (with_reducible refine Below.alloc ?_ ?_ _) | (with_reducible refine below_setRow ?_ ?_ _) | (with_reducible refine bl_drew ?_) | (with_reducible refine bl_drewN ?_ _) | (with_reducible refine Below.setCell ?_ ?_ _) | (with_reducible refine bl_then ?_ ?_ hb) | (with_reducible refine bl_then ?_ ?_ hb1) | (with_reducible refine bl_then ?_ ?_ hb2) | (with_reducible refine bl_then ?_ ?_ hb3) | (with_reducible refine bl_then ?_ ?_ hb4) | (with_reducible refine bl_then ?_ ?_ hb5) | (with_reducible refine bl_then ?_ ?_ hb6) | (with_reducible refine bl_then ?_ ?_ hb7) | (with_reducible refine bl_then ?_ ?_ hb8) | (with_reducible exact Nat.le_refl _) | omega | (simp only [World.size_alloc, World.size_setCell, World.size_drew, size_setRow]; omega) | (simp; omega) | (simp; done)))) (by simp) hb)
  clear hb
  go_wp2_with fail
  go_ret
  exact ⟨rfl, HB.out⟩
theorem indexfunc2_any (v : Value) (E : List Event) (w : World) (h : EvL w v E) :
    Calls Try.prog 50 #[v, .func (.func 32) #[] #[]] w fun e w' => (∃ j : Int, e = .returned (.int .i64 j) ∧ (0 ≤ j ↔ E.any (fun e => !mayS e) = true) ∧ -1 ≤ j ∧ j < E.length) ∧ Below w.heap.size w w' := by
  obtain ⟨hlen, A, cap, rfl, hnc, hlc, hcm, hi⟩ := h
  have HI := Lib.hid hi
  clear hi
  go_enter Try.func50, Try.ntmps50
  go_wp2_with fail
  go_loopw [8] (fun i wr => ∃ k : Nat, k ≤ E.length ∧ i = .int .i64 k ∧ Hid (∀ e ∈ E.take k, mayS e = true) ∧ Hid (Below w.heap.size w wr)) (fun i _ => E.length - (intOf i).toNat)
  case atStart => exact ⟨0, Nat.zero_le _, rfl, Lib.hid (by simp), Lib.hid (Below.refl _ _)⟩
  case round =>
    obtain ⟨k, hk, rfl, HA, HB⟩ := hrel
    by_cases hlt : k < E.length
    · obtain ⟨b, off, rfl, u, q0, q1, q2, q3, q4, hu, he⟩ := HI.out k hlt
      have hbl := block_lt_of_cell q0
      have kb := fun o => (bcell HB.out).1 b o hbl
      have c0 := (kb _).trans q0
      have c1 := (kb _).trans q1
      have c2 := (kb _).trans q2
      have c3 := (kb _).trans q3
      have c4 := (kb _).trans q4
      clear q0 q1 q2 q3 q4 kb
      have hmem : E.take (k + 1) = E.take k ++ [E.getD k zE] := by
        rw [List.take_add_one, List.getElem?_eq_getElem hlt, List.getD_eq_getElem?_getD, List.getElem?_eq_getElem hlt]
        rfl
      have hin : E.getD k zE ∈ E := by
        rw [List.getD_eq_getElem?_getD, List.getElem?_eq_getElem hlt]
        exact List.getElem_mem hlt
      have HM := Lib.hid hmem
      have HIN := Lib.hid hin
      have HE := Lib.hid he
      clear hmem hin he
      generalize E.getD k zE = e at *
      obtain ⟨hok, hul, UA, uc, rfl, _, _, hul2, hum⟩ := hu
      go_wp2_with fail
      refine (notmay2_any e UA uc _ HE.out hul hum hul2).mono ?_
      rintro en w1 ⟨rfl, hb⟩
      have HB2 := Lib.hid (bl_then HB.out HB.out.size hb)
      clear hb
      by_cases hm : mayS e = true
      · simp only [hm, Bool.not_true]
        go_wp2_with fail
        go_roundw
        case rel =>
          refine ⟨k + 1, by omega, by go_num, Lib.hid ?_, HB2⟩
          rw [HM.out]
          intro x hx
          rcases List.mem_append.1 hx with hx | hx
          · exact HA.out x hx
          · obtain rfl := List.mem_singleton.1 hx
            exact hm
        case measure => simp [intOf] <;> omega
      · have hmf : mayS e = false := by simpa using hm
        simp only [hmf, Bool.not_false]
        go_wp2_with fail
        go_ret
        refine ⟨⟨k, rfl, ?_, by omega, by omega⟩, HB2.out⟩
        rw [List.any_eq_true]
        exact ⟨fun _ => ⟨e, HIN.out, by rw [hmf]; rfl⟩, fun _ => by omega⟩
    · obtain rfl : k = E.length := by omega
      go_wp2_with fail
      go_ret
      refine ⟨⟨-1, rfl, ?_, by omega, by omega⟩, HB.out⟩
      rw [List.any_eq_true]
      refine ⟨fun h => by omega, fun ⟨e, he, hf⟩ => ?_⟩
      rw [HA.out e (by rw [List.take_length]; exact he)] at hf
      simp at hf
theorem containsfunc2_any (v : Value) (E : List Event) (w : World) (h : EvL w v E) :
    Calls Try.prog 31 #[v, .func (.func 32) #[] #[]] w fun e w' => e = .returned (.bool (E.any (fun e => !mayS e))) ∧ Below w.heap.size w w' := by
  have H := Lib.hid h
  clear h
  go_enter Try.func31, Try.ntmps31
  go_wp2_with fail
  refine (indexfunc2_any v E w H.out).mono ?_
  rintro e w1 ⟨⟨j, rfl, hj, _, _⟩, hb⟩
  have HB := Lib.hid hb
  have HJ := Lib.hid hj
  clear hb hj
  go_wp2_with fail
  go_ret
  refine ⟨?_, HB.out⟩
  have h := HJ.out
  cases hq : E.any (fun e => !mayS e)
  · rw [hq] at h
    simp at h
    simp <;> omega
  · rw [hq] at h
    simp at h
    simp <;> omega
end Go.Proofs.Ytgkiedbefogklaa
