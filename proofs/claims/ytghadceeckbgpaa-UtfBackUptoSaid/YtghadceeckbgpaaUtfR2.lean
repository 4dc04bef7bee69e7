/- What is proved: what a reader's End answers when it is called; conditions: the reader's block holds what it is said to. -/
import Derived.Test.YtghadceeckbgpaaUtfR1
set_option linter.unusedSimpArgs false
set_option linter.unusedVariables false
namespace Go.Proofs.Ytghadceeckbgpaa
open Go.RowKit
set_option maxRecDepth 100000
set_option maxHeartbeats 4000000
theorem grown_of_below {w w1 : World} (h : Below w.heap.size w w1) (row : Option Nat) : w.grownBy w1 row := ⟨h.os, h.tape, h.output, h.size, fun k hk _ => h.block k hk⟩
theorem grown_set {w w1 : World} {b : Nat} (h : w.grownBy w1 (some b)) (o : Nat) (v : Value) : w.grownBy (w1.setCell ⟨b, o, none⟩ v) (some b) :=
  ⟨h.os, h.tape, h.output, by rw [World.size_setCell]; exact h.size, fun k hk hne => by rw [heap_setCell_if, if_neg (fun e => hne (by rw [e]))]; exact h.block k hk hne⟩
theorem OwR.set {w : World} {base b : Nat} {v : Value} {xs : List Int} (h : OwR w base v xs) (hb : b < base) (o : Nat) (x : Value) : OwR (w.setCell ⟨b, o, none⟩ x) base v xs :=
  h.keep fun q hq hlt => by
    have := (World.ownsRow.lt h q hq).1
    rw [heap_setCell_if, if_neg (by simp; omega)]
theorem end_any (b : Nat) (ks : List Int) (w : World) (h : Keeps w b ks) : Calls Try.prog 18 #[.pointer (some ⟨b, 0, none⟩)] w fun e w' => (∃ u, e = .returned u ∧ OwR w' w.heap.size u (decS ks)) ∧ Keeps w' b [] ∧ w.grownBy w' (some b) := by
  have HN := Lib.hid (none_some b ks w h)
  have hkl := h.ok.2
  obtain ⟨k0, k1, k2, k3, n, h, rfl⟩ := h
  have c5 := h.cells.2
  have f5 := frozen_of_row w b 5 _ _ h.blk
  have hle := h.le
  have hbl := h.lt
  have HBB := Lib.hid h.bytes
  have HF5 : Hid (∀ W γ', Inv w (fun _ => False) γ' W → W.cell? ⟨b, 5, none⟩ = some (.int .i64 n)) := Lib.hid (fun W γ' hI => (World.cell?_of_block (hI.far b hbl (fun h => h))).trans c5)
  have HR := Lib.hid h
  clear h
  have HDE := Lib.hid (fun W hW => decode_any (.slice (some ⟨b, 1, none⟩) n 4) ([k0, k1, k2, k3].take n) W hW (by omega))
  generalize decS ([k0, k1, k2, k3].take n) = ds at *
  go_enter Try.func18, Try.ntmps18
  go_wp2_with fail
  refine HN.out.mono ?_
  rintro e w1 ⟨rfl, rfl⟩
  go_wp2_with fail
  have hn1 : (n : Int) ≤ 4 := by omega
  apply wp_region_eff (Inv w1 (fun _ => False)) (fun _ => none) (Inv.self _) (hm := by kernel_rfl)
  case h =>
    (apply SeqF.pure; (focus (first | rfl | (go_simp; done) | (simp [Region.wanted, yielded]; done))); (focus (intro w; go_simp; with_reducible rfl)); go_simp)
    (apply SeqF.pure; (focus (first | rfl | (go_simp; done) | (simp [Region.wanted, yielded]; done))); (focus (intro w; go_simp; with_reducible rfl)); go_simp)
    (apply SeqF.pure; (focus (first | rfl | (go_simp; done) | (simp [Region.wanted, yielded]; done))); (focus (intro w; go_simp; with_reducible rfl)); go_simp)
    (apply SeqF.pure; (focus (first | rfl | (go_simp; done) | (simp [Region.wanted, yielded]; done))); (focus (intro w; go_simp; with_reducible rfl)); go_simp)
    (apply SeqF.pure; (focus (first | rfl | (go_simp; done) | (simp [Region.wanted, yielded]; done))); (focus (intro w; go_simp; with_reducible rfl)); go_simp)
    (apply SeqF.pure; (focus (first | rfl | (go_simp; done) | (simp [Region.wanted, yielded]; done))); (focus (intro w; go_simp; with_reducible rfl)); go_simp)
    (apply SeqF.read []; (focus (first | rfl | (go_simp; done) | (simp [Region.wanted, yielded]; done))); (focus (intro γ' W hg hI; have x0 := HF5.out W γ' hI; go_simp; with_reducible rfl)); go_simp)
    (apply SeqF.pure; (focus (first | rfl | (go_simp; done) | (simp [Region.wanted, yielded]; done))); (focus (intro w; go_simp; with_reducible rfl)); go_simp)
    apply SeqF.callNew [] 1 21 1 ds.length (ds.map (Value.int .i32)) 10 #[.slice (some ⟨b, 1, none⟩) n 4]
    · (first | rfl | (go_simp; done) | (simp [Region.wanted, yielded]; done))
    · intro w; kernel_rfl
    · exact fun γ' W _ hI => HDE.out W (HBB.out.below hI.belowOf)
    intro v x hv hvn
    obtain rfl := hv.val (by decide)
    have HV := Lib.hid hv
    have HVN := Lib.hid hvn
    clear hv hvn
    go_simp
    apply SeqF.dyn [1] (fun γ => rowVal 1 ds.length (γ 1))
    · intro γ' hg; simp only [hg 1 (by simp)]
    · (first | rfl | (go_simp; done) | (simp [Region.wanted, yielded]; done))
    · intro γ' W hg hI
      simp only [Gh.set_here]
      go_simp
    simp only [Gh.set_here]
    apply SeqF.done
    intro w9 hI
    have HO := Lib.hid (show OwR w9 w1.heap.size (rowVal 1 ds.length x) ds from HV.out.owns (fun g o hgo => ⟨HVN.out g o hgo, (hI.here 1 g o ((Gh.set_here _ _ _).trans hgo)).1⟩))
    have HB := Lib.hid hI.belowOf
    have HR9 := Lib.hid (HR.out.keep (hI.far b hbl (fun h => h)))
    clear hI
    go_simp
    generalize rowVal 1 ds.length x = u at *
    have c5' := HR9.out.cells.2
    have f5' := frozen_of_row w9 b 5 _ _ HR9.out.blk
    go_wp2_with fail
    go_ret
    exact ⟨⟨u, rfl, HO.out.set hbl _ _⟩, ⟨k0, k1, k2, k3, 0, ⟨heap_setCell_same _ _ 5 _ _ _ HR9.out.blk, by omega, HR9.out.ok⟩, rfl⟩, grown_set (grown_of_below HB.out _) _ _⟩
  case hl => rfl
  case ho => kernel_rfl
end Go.Proofs.Ytghadceeckbgpaa
