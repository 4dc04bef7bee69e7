/- What is proved: what Text and Write of the reference answer when they are called; conditions: the numbers are of their kind, the slice reads as it is said to. -/
import Derived.Test.YtgkiedbefogklaaWireK
import Derived.Test.YtgkiedbefogklaaGrow
set_option linter.unusedSimpArgs false
set_option linter.unusedVariables false
namespace Go.Proofs.Ytgkiedbefogklaa
open Go.RowKit
set_option maxRecDepth 100000
set_option maxHeartbeats 8000000
theorem OwX.bb {w0 W : World} {S : Nat → Prop} {γ : Gh} {v : Value} {xs : List Int} {t : Nat} {x : Option (Nat × Obj)} (h : OwX 5 1 v x xs.length (xs.map (Value.int .u8))) (hI : Inv w0 S γ W) (hx : γ t = x) (hok : okB xs) (hl : xs.length ≤ 140737488355328) : BB W v xs :=
  OwB.rd (base := 0) (h.owns fun g o hgo => ⟨Nat.zero_le _, (hI.here t g o (hx.trans hgo)).1⟩) hok hl
theorem text_any (v : Value) (d : List Int) (w : World) (h : BB w v d) (hl : d.length ≤ 1048576) :
    Calls Try.prog 57 #[v] w fun e w' => (∃ u, e = .returned u ∧ OwB w' w.heap.size u (uintB d.length ++ d)) ∧ Below w.heap.size w w' := by
  have HD := Lib.hid h
  obtain ⟨hok, hlen, A, cap, rfl, hr, hnc, hlc, hcm⟩ := h
  clear hok hr
  have hwn : IntKind.u64.wrap (d.length : Int) = (d.length : Int) := by rw [IntKind.wrap_u64]; omega
  have hul := uintB_len d.length
  go_enter Try.func57, Try.ntmps57
  go_wp2_with fail
  refine (ruint_any d.length w (by omega)).mono ?_
  rintro e w1 ⟨⟨u, rfl, ho⟩, hb⟩
  have HO := Lib.hid ho
  have HB := Lib.hid hb
  clear ho hb
  go_wp2_with (at_builtin; refine wpList_appB (base := w.heap.size) rfl _ _ rfl u (.slice A d.length cap) (uintB d.length) d rfl ?_ rfl ?_ ?_ ?_ ?_)
  · exact HO.out
  · exact HD.out.below HB.out
  · omega
  · exact HB.out.size
  · intro v' w' h1 h2 h3
    have HO2 := Lib.hid h1
    have HB2 := Lib.hid (HB.out.grown h2 HB.out.size (fun q hq => (World.ownsRow.lt HO.out q hq).1))
    clear h1 h2 h3
    go_wp2_with fail
    go_ret
    exact ⟨⟨v', rfl, HO2.out⟩, HB2.out⟩
end Go.Proofs.Ytgkiedbefogklaa
