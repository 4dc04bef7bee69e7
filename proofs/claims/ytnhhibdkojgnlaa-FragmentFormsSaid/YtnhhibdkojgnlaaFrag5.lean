/- What is proved: what Take and Holds of a joiner that is not there, and Holds of one that is, answer when they are called; conditions: what the joiner holds is held. -/
import Derived.Test.YtnhhibdkojgnlaaFrag4
set_option linter.unusedSimpArgs false
set_option linter.unusedVariables false
namespace Go.Proofs.Ytnhhibdkojgnlaa
open Go.RowKit
set_option maxRecDepth 100000
set_option maxHeartbeats 4000000
theorem take_nil (id n : Int) (last : Bool) (v : Value) (w : World) : Calls Try.prog 8 #[.pointer none, partV id n last v] w fun e w' => e = .returned (.tuple #[.slice none 0 0, .bool false, .int .i64 1]) ∧ Below w.heap.size w w' := by
  have e1 : partV id n last v = .agg #[.int .u64 id, .int .i64 n, .bool last, v] := rfl
  rw [e1]
  clear e1
  go_enter Try.func8, Try.ntmps8
  go_wp2_with fail
  refine (none_nil _).mono ?_
  rintro e w1 ⟨rfl, rfl⟩
  go_wp2_with fail
  refine bodyPost_ret (v := .tuple #[.slice none 0 0, .bool false, .int .i64 1]) (by simp [results, Try.results8, go_sem]) rfl ⟨rfl, ?_⟩
  (repeat' (first | (with_reducible exact Below.refl _ _) | (with_reducible assumption) | (with_reducible refine Below.alloc ?_ ?_ _) | (with_reducible refine below_setRow ?_ ?_ _) | (with_reducible refine bl_drew ?_) | (with_reducible refine bl_drewN ?_ _) | (with_reducible refine Below.setCell ?_ ?_ _) | (with_reducible refine bl_then ?_ ?_ hb) | (with_reducible refine bl_then ?_ ?_ hb1) | (with_reducible refine bl_then ?_ ?_ hb2) | (with_reducible refine bl_then ?_ ?_ hb3) | (with_reducible refine bl_then ?_ ?_ hb4) | (with_reducible refine bl_then ?_ ?_ hb5) | (with_reducible refine bl_then ?_ ?_ hb6) | (with_reducible refine bl_then ?_ ?_ hb7) | (with_reducible refine bl_then ?_ ?_ hb8) | (with_reducible exact Nat.le_refl _) | omega | (simp only [World.size_alloc, World.size_setCell, World.size_drew, size_setRow]; omega) | (simp; omega) | (simp; done)))
theorem holds_nil (w : World) : Calls Try.prog 10 #[.pointer none] w fun e w' => e = .returned (.tuple #[.int .u64 0, .int .i64 0, .int .i64 0]) ∧ w' = w := by
  go_enter Try.func10, Try.ntmps10
  go_wp2_with fail
  refine (none_nil _).mono ?_
  rintro e w1 ⟨rfl, rfl⟩
  go_wp2_with fail
  exact bodyPost_ret (v := .tuple #[.int .u64 0, .int .i64 0, .int .i64 0]) (by simp [results, Try.results10, go_sem]) rfl ⟨rfl, rfl⟩
theorem exec_maplen {o : Oper} {a : Act} {x : Operand} {w : World} {M : Nat} {es : Array MapEntry} {k : Nat} {id : Int} {L : List HP} (ho : o.op = .call { callee := .builtin .len, args := #[x], argTypes := #[58] }) (hx : a.eval x = .map (some M)) (hM : w.heap[M]? = some (.map es k)) (hE : Ents id es.toList L) :
    (execOp a.eval o).run Try.prog w = .ok (.value (.int .i64 (L.length : Nat))) w := by
  have hu := Try.underlying58
  have hl : es.size = L.length := by rw [← hE.len, Array.length_toList]
  have hc : (Builtin.len_ #[58] o.type #[.map (some M)]).run Try.prog w = .ok (.int .i64 (L.length : Nat)) w := by
    rw [← hl]
    simp [Builtin.len_, run_underlying hu, MapKept.run_getObj_map hM, Result.andThen, goInt]
  unfold execOp
  simp [ho, resolve, invoke, builtin, hx, hc, Result.andThen]
theorem holds_any (J M : Nat) (s : JS) (w : World) (h : JW w J M s) : Calls Try.prog 10 #[.pointer (some ⟨J, 0, none⟩)] w fun e w' => e = .returned (.tuple #[.int .u64 s.id, .int .i64 (s.L.length : Nat), .int .i64 s.bytes]) ∧ Below w.heap.size w w' := by
  have HJ := Lib.hid h
  clear h
  obtain ⟨q, hq⟩ : ∃ q, s.L.length = q := ⟨_, rfl⟩
  rw [hq]
  have HQ := Lib.hid hq
  clear hq
  go_enter Try.func10, Try.ntmps10
  go_wp2_with fail
  refine (none_at J M w HJ.out.cell.1).mono ?_
  rintro e w1 ⟨rfl, rfl⟩
  obtain ⟨es, k, hM, hE⟩ := HJ.out.hM
  go_wp2_with fail
  apply wp_region_eff _ _ (Inv.start0 w1 fun _ => False) (hm := by kernel_rfl)
  case h =>
    (apply SeqF.pure; (focus (first | rfl | (go_simp; done) | (simp [Region.wanted, yielded]; done))); (focus (intro w; go_simp; with_reducible rfl)); go_simp)
    (apply SeqF.pure; (focus (first | rfl | (go_simp; done) | (simp [Region.wanted, yielded]; done))); (focus (intro w; go_simp; with_reducible rfl)); go_simp)
    (apply SeqF.pure; (focus (first | rfl | (go_simp; done) | (simp [Region.wanted, yielded]; done))); (focus (intro w; go_simp; with_reducible rfl)); go_simp)
    apply SeqF.read (v := .int .u64 s.id) []
    · (first | rfl | (go_simp; done) | (simp [Region.wanted, yielded]; done))
    · intro γ' W hg hI
      have x0 := (HJ.out.below hI.belowOf).cell.2.2.1
      go_simp
    go_simp
    (apply SeqF.pure; (focus (first | rfl | (go_simp; done) | (simp [Region.wanted, yielded]; done))); (focus (intro w; go_simp; with_reducible rfl)); go_simp)
    (apply SeqF.pure; (focus (first | rfl | (go_simp; done) | (simp [Region.wanted, yielded]; done))); (focus (intro w; go_simp; with_reducible rfl)); go_simp)
    (apply SeqF.pure; (focus (first | rfl | (go_simp; done) | (simp [Region.wanted, yielded]; done))); (focus (intro w; go_simp; with_reducible rfl)); go_simp)
    apply SeqF.read (v := .map (some M)) []
    · (first | rfl | (go_simp; done) | (simp [Region.wanted, yielded]; done))
    · intro γ' W hg hI
      have x0 := (HJ.out.below hI.belowOf).cell.1
      go_simp
    go_simp
    apply SeqF.read (v := .int .i64 (q : Nat)) []
    · (first | rfl | (go_simp; done) | (simp [Region.wanted, yielded]; done))
    · intro γ' W hg hI
      rw [← HQ.out]
      exact exec_maplen rfl rfl ((hI.far M (lt_of_heap hM) (fun h => h)).trans hM) hE
    go_simp
    (apply SeqF.pure; (focus (first | rfl | (go_simp; done) | (simp [Region.wanted, yielded]; done))); (focus (intro w; go_simp; with_reducible rfl)); go_simp)
    (apply SeqF.pure; (focus (first | rfl | (go_simp; done) | (simp [Region.wanted, yielded]; done))); (focus (intro w; go_simp; with_reducible rfl)); go_simp)
    (apply SeqF.pure; (focus (first | rfl | (go_simp; done) | (simp [Region.wanted, yielded]; done))); (focus (intro w; go_simp; with_reducible rfl)); go_simp)
    apply SeqF.read (v := .int .i64 s.bytes) []
    · (first | rfl | (go_simp; done) | (simp [Region.wanted, yielded]; done))
    · intro γ' W hg hI
      have x0 := (HJ.out.below hI.belowOf).cell.2.2.2.2
      go_simp
    go_simp
    (apply SeqF.pure; (focus (first | rfl | (go_simp; done) | (simp [Region.wanted, yielded]; done))); (focus (intro w; go_simp; with_reducible rfl)); go_simp)
    (apply SeqF.pure; (focus (first | rfl | (go_simp; done) | (simp [Region.wanted, yielded]; done))); (focus (intro w; go_simp; with_reducible rfl)); go_simp)
    (apply SeqF.pure; (focus (first | rfl | (go_simp; done) | (simp [Region.wanted, yielded]; done))); (focus (intro w; go_simp; with_reducible rfl)); go_simp)
    apply SeqF.done
    intro w9 hI9
    have HB := Lib.hid hI9.belowOf
    clear hI9
    go_simp
    go_wp2_with fail
    exact bodyPost_ret (v := .tuple #[.int .u64 s.id, .int .i64 (q : Nat), .int .i64 s.bytes]) (by simp [results, Try.results10, go_sem]) rfl ⟨rfl, HB.out⟩
  case hl => rfl
  case ho => kernel_rfl
end Go.Proofs.Ytnhhibdkojgnlaa
