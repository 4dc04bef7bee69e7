/- What is proved: what to, Ground, gather, escaped and inner of the reference's parser answer when they are called; conditions: those typed. -/
import Derived.Test.YtecgipccippddaaVtR1
set_option linter.unusedSimpArgs false
set_option linter.unusedVariables false
namespace Go.Proofs.Ytecgipccippddaa
open Go.RowKit
set_option maxRecDepth 100000
set_option maxHeartbeats 8000000
/-- States of the reference that come about. -/
structure ROk (r : RS) : Prop where
  st : r.st ≤ 5
  mid : r.mid.length ≤ 2
  ps : r.ps.length ≤ 16 ∧ ∀ x ∈ r.ps, 0 ≤ x ∧ x ≤ 9999
  tx : r.tx.length ≤ 256
  many : r.many = r.ps.length ∨ 17 ≤ r.many
  big : r.many ≤ 1125899906842624
theorem Sim.rok {s : VS} {r : RS} {K : Nat} (h : Sim s r K) (ho : VOk s) (hK : K ≤ 1125899906842624) : ROk r :=
  ⟨by have := h.st; have := ho.st; omega, by rw [h.mid]; exact ho.mid.1, by rw [h.ps]; exact ho.ps, by rw [h.tx]; exact ho.tx.1, by rw [h.ps]; rcases h.many with h | h <;> omega, Nat.le_trans h.bound hK⟩
theorem rparInfo : (Try.prog.info? 38).map (·.size) = some 7 := by kernel_rfl
theorem zero_rpar (w : World) : (zeroValue 38).run Try.prog w = .ok (.agg #[.int .i64 0, .int .u8 0, .slice none 0 0, .slice none 0 0, .int .i64 0, .slice none 0 0, .bool false]) w := by kernel_rfl
theorem QTakeOk.after {w w1 w2 : World} {P base : Nat} {r : RS × List Ac} {vm vp vt v : Value} (hI : Inv w (fun g => g = P) gh0 w1) (k : QTakeOk w1 w2 P base r (.slice none 0 0) (.slice none 0 0) (.slice none 0 0) v) : QTakeOk w w2 P base r vm vp vt v := by
  obtain ⟨vm', vp', vt', L, h1, h2, h3, h4, h5, h6, h7, h8⟩ := k
  have hs := hI.size
  exact ⟨vm', vp', vt', L, h1, (hI.wide (S' := PB P vm vp vt) fun g hg => .inl hg).then h2 (fun g hg _ => .inl (pb_nil hg)), fun g hg => (h3 g hg).imp (fun h => .inl (pb_nil h)) (fun h => by omega), h4, h5, h6, fun b hb => by have := h7 b hb; omega, fun a ha b hb => ⟨((h8 a ha b hb).1).imp (fun h => .inl (pb_nil h)) (fun h => by omega), (h8 a ha b hb).2⟩⟩
/-- An action is put behind nothing, then the parser goes to another state. -/
theorem QTakeOk.tell {w W w3 w4 : World} {P base n X : Nat} {r : RS} {a : HA} {vm vp vt v3 : Value} (h : QW w P base r vm vp vt) (hW : Below w.heap.size w W) (ho : OwA w3 base v3 [a]) (hg : W.grownBy w3 none) (hv : v3.ownBlock = none ∨ v3.ownBlock = some W.heap.size)
    (hb : ∀ b, HB a b → PB P vm vp vt b ∧ b ≠ P) (h4 : QW w4 P base (freshR n) (.slice none 0 0) (.slice none 0 0) (.slice none 0 0)) (hI : Inv w3 (fun g => g = P) gh0 w4) : QTakeOk w w4 P base (freshR n, [a.ac]) vm vp vt v3 := by
  have hI3 : Inv w (fun g => g = P) gh0 w3 := (Inv.ofBelow hW).then (Inv.ofGrown (S := fun g => g = P) hg (fun g hg => by cases hg)) (fun g hg _ => hg)
  have hP3 : w3.heap[P]? = some (.cells (qcells r vm vp vt) 38 (0, 0)) := (hg.block P (by have := lt_of_heap h.hP; have := hW.size; omega) (by simp)).trans ((hW.block P (lt_of_heap h.hP)).trans h.hP)
  refine ⟨_, _, _, [a], h4, (hI3.then hI (fun g hg _ => hg)).wide (fun g hg => .inl hg), fun g hg => .inl (.inl (pb_nil hg)), ho.keep fun b hb2 hlt => hI.far b hlt fun e => ?_, rfl, by simp, fun b hb2 => ?_, fun x hx b hb2 => ?_⟩
  · rcases hb2 with hb2 | ⟨x, hx, hb2⟩
    · obtain ⟨_, cur, hc⟩ := ho.blk hb2
      exact blk_ne hc hP3 (by decide) e
    · obtain rfl := List.mem_singleton.1 hx
      exact (hb b hb2).2 e
  · rcases hv with hv | hv
    · rw [hv] at hb2; cases hb2
    · rw [hv] at hb2
      simp only [Option.some.injEq] at hb2
      have := hW.size
      omega
  · obtain rfl := List.mem_singleton.1 hx
    exact ⟨.inl (hb b hb2).1, fun h => (hb b hb2).2 (pb_nil h)⟩
theorem rto_any (P base n : Nat) (s : RS) (vm vp vt : Value) (w : World) (h : QW w P base s vm vp vt) : Calls Try.prog 29 #[.pointer (some ⟨P, 0, none⟩), .int .i64 n] w fun e w' => e = .returned (.tuple #[]) ∧ QW w' P base (freshR n) (.slice none 0 0) (.slice none 0 0) (.slice none 0 0) ∧ Inv w (fun g => g = P) gh0 w' := by
  have HP := Lib.hid h.hP
  have hz : ∀ w, (zeroValue 38).run Try.prog w = .ok (.agg #[.int .i64 0, .int .u8 0, .slice none 0 0, .slice none 0 0, .int .i64 0, .slice none 0 0, .bool false]) w := zero_rpar
  go_enter Try.func29, Try.ntmps29
  go_wp2_with (with_reducible refine wpList_stB (row := #[.int .i64 n, .int .u8 0, (.slice none 0 0), (.slice none 0 0), .int .i64 0, (.slice none 0 0), .bool false]) rparInfo (by simp [Value.oneCell']) rfl (.tmp 7) (.tmp 6) rfl rfl rfl HP.out rfl ?_)
  refine bodyPost_end (v := .tuple #[]) (results_none rfl _ _ _) rfl ⟨rfl, ⟨setRow_heap _ _ _ _ _ _ HP.out, OwK.nil _ _ _ _, OwK.nil _ _ _ _, OwK.nil _ _ _ _⟩, Inv.ofSetRow rfl⟩
theorem rground_any (P base : Nat) (s : RS) (vm vp vt : Value) (w : World) (h : QW w P base s vm vp vt) : Calls Try.prog 16 #[.pointer (some ⟨P, 0, none⟩)] w fun e w' => e = .returned (.bool (s.st == 0)) ∧ w' = w := by
  have c0 : w.cell? ⟨P, 0, none⟩ = some (.int .i64 s.st) := h.cell rfl
  obtain ⟨b, hb⟩ : ∃ b, (s.st == 0) = b := ⟨_, rfl⟩
  have hbi : ((s.st : Int) == 0) = b := by rw [← hb, Bool.eq_iff_iff]; simp
  rw [hb]
  clear h hb
  go_enter Try.func16, Try.ntmps16
  go_wp2_with fail
  go_ret
  exact ⟨rfl, rfl⟩
theorem gather_any (P base : Nat) (s : RS) (vm vp vt : Value) (c : Int) (hc : 0 ≤ c ∧ c ≤ 255) (w : World) (h : QW w P base s vm vp vt) (ho : ROk s) (hbase : base ≤ w.heap.size) :
    Calls Try.prog 40 #[.pointer (some ⟨P, 0, none⟩), .int .i32 c] w fun e w' => e = .returned (.tuple #[]) ∧ QStep w w' P base (gatherS s c) vm vp vt := by
  obtain ⟨A, cp, hvm⟩ := h.m.slice
  obtain ⟨n, hn⟩ : ∃ n, s.mid.length = n := ⟨_, rfl⟩
  have hn2 : n ≤ 2 := by rw [← hn]; exact ho.mid
  have HN := Lib.hid hn
  rw [hn] at hvm
  have HVM := Lib.hid hvm
  have H := Lib.hid h
  have c2 : w.cell? ⟨P, 2, none⟩ = some (.slice A n cp) := by rw [← hvm]; exact h.cell rfl
  have c6 : w.cell? ⟨P, 6, none⟩ = some (.bool s.no) := h.cell rfl
  have hPl := lt_of_heap h.hP
  by_cases hf : 2 ≤ n
  · have hfi : (2 : Int) ≤ (n : Int) := by omega
    have hfz : w.frozen? ⟨P, 6, none⟩ = false := frozen_of_row w P 6 _ _ h.hP
    have HS : Hid (QStep w (w.setCell ⟨P, 6, none⟩ (.bool true)) P base (gatherS s c) vm vp vt) := Lib.hid (by
      unfold gatherS
      rw [if_pos (by rw [hn]; exact hf)]
      exact QStep.set h rfl rfl rfl rfl)
    clear h hn hvm
    go_enter Try.func40, Try.ntmps40
    go_wp2_with fail
    exact bodyPost_ret (v := .tuple #[]) (results_none rfl _ _ _) rfl ⟨rfl, HS.out⟩
  · have hfi : ¬ (2 : Int) ≤ (n : Int) := by omega
    have hwc : IntKind.u8.wrap c = c := by rw [IntKind.wrap_u8]; omega
    obtain ⟨X, hX⟩ : ∃ X, w.heap.size = X := ⟨_, rfl⟩
    have HBX : Hid (Below w.heap.size w (w.alloc (.cells #[.int .u8 c] 5))) := Lib.hid (by (repeat' (first | (with_reducible exact Below.refl _ _) | (with_reducible assumption) | (with_reducible refine Below.alloc ?_ ?_ _) | (with_reducible refine below_setRow ?_ ?_ _) | (with_reducible refine bl_drew ?_) | (with_reducible refine bl_drewN ?_ _) | (with_reducible refine Below.setCell ?_ ?_ _) | (with_reducible refine bl_then ?_ ?_ hb) | (with_reducible refine bl_then ?_ ?_ hb1) | (with_reducible refine bl_then ?_ ?_ hb2) | (with_reducible refine bl_then ?_ ?_ hb3) | (with_reducible refine bl_then ?_ ?_ hb4) | (with_reducible refine bl_then ?_ ?_ hb5) | (with_reducible refine bl_then ?_ ?_ hb6) | (with_reducible refine bl_then ?_ ?_ hb7) | (with_reducible refine bl_then ?_ ?_ hb8) | (with_reducible exact Nat.le_refl _) | omega | (simp only [World.size_alloc, World.size_setCell, World.size_drew, size_setRow]; omega) | (simp; omega) | (simp; done))))
    have HBASE : Hid (base ≤ (w.alloc (.cells #[.int .u8 c] 5)).heap.size) := Lib.hid (by simp; omega)
    have HX : Hid ((w.alloc (.cells #[.int .u8 c] 5)).heap[X]? = some (.cells #[.int .u8 c] 5 (0, 0))) := Lib.hid (by rw [← hX]; exact heap_alloc_last _ _)
    have HOWN : Hid (OwK .u8 5 (w.alloc (.cells #[.int .u8 c] 5)) base (.slice A n cp) s.mid) := Lib.hid (by rw [← hvm]; exact h.m.below HBX.out)
    have HLEN : Hid (s.mid.length ≤ 1000000) := Lib.hid (by omega)
    clear hn hvm
    go_enter Try.func40, Try.ntmps40
    go_wp2_with (at_builtin; refine wpList_app_b (base := base) rfl _ _ rfl (.slice A n cp) s.mid c X rfl HOWN.out rfl HX.out HLEN.out HBASE.out ?_)
    · intro v' w' k1 k2 k4
      rw [← HVM.out] at k2 k4
      obtain ⟨g1, g2, g3, g4⟩ := QStep.grow_m H.out HBX.out k1 k2 (fun b hb => k4.elim (fun e => .inl (e ▸ hb)) (fun e => .inr (by rw [e] at hb; simp only [Option.some.injEq] at hb; omega)))
      obtain ⟨A3, c3, hv3⟩ := k1.slice
      obtain ⟨m3, hm3⟩ : ∃ m, (s.mid ++ [c]).length = m := ⟨_, rfl⟩
      rw [hm3] at hv3
      subst hv3
      have d2 : w'.cell? ⟨P, 2, none⟩ = some vm := (cell_of_row _ _ _ _ _ _ g1).trans rfl
      have hfz : w'.frozen? ⟨P, 2, none⟩ = false := frozen_of_row w' P 2 _ _ g1
      have HS : Hid (QStep w (w'.setCell ⟨P, 2, none⟩ (.slice A3 m3 c3)) P base (gatherS s c) vm vp vt) := Lib.hid (by
        unfold gatherS
        rw [if_neg (by rw [HN.out]; exact hf)]
        exact ⟨_, _, _, g2, g3, g4⟩)
      clear k1 k2 k4 g1 g2 g3 g4 hm3
      go_wp2_with fail
      exact bodyPost_end (v := .tuple #[]) (results_none rfl _ _ _) rfl ⟨rfl, HS.out⟩
theorem rescaped_c91 (P base : Nat) (s : RS) (vm vp vt : Value) (c : Int) (hc : c = 91) (w : World) (h : QW w P base s vm vp vt) (ho : ROk s) (hbase : base ≤ w.heap.size) :
    Calls Try.prog 30 #[.pointer (some ⟨P, 0, none⟩), .int .i32 c] w fun e w' => ∃ v, e = .returned v ∧ QTakeOk w w' P base (rescapedS s c) vm vp vt v := by
  obtain rfl : c = 91 := hc
  have H := Lib.hid h
  have HOK := Lib.hid ho
  have HBS := Lib.hid hbase
  have hPl := lt_of_heap h.hP
  have HCS : Hid (rescapedS s 91 = (freshR 3, [])) := Lib.hid (by rfl)
  clear h ho hbase
  go_enter Try.func30, Try.ntmps30
  go_wp2_with fail
  refine (rto_any P base 3 s vm vp vt w H.out).mono ?_
  rintro e w9 ⟨rfl, hp, hI⟩
  have HF : Hid (QTakeOk w w9 P base (rescapedS s 91) vm vp vt (.slice none 0 0)) := Lib.hid (by rw [HCS.out]; exact QTakeOk.no (QStep.to hp hI))
  clear hp hI
  go_wp2_with fail
  go_ret
  exact ⟨_, rfl, HF.out⟩
theorem rescaped_c93 (P base : Nat) (s : RS) (vm vp vt : Value) (c : Int) (hc : c = 93) (w : World) (h : QW w P base s vm vp vt) (ho : ROk s) (hbase : base ≤ w.heap.size) :
    Calls Try.prog 30 #[.pointer (some ⟨P, 0, none⟩), .int .i32 c] w fun e w' => ∃ v, e = .returned v ∧ QTakeOk w w' P base (rescapedS s c) vm vp vt v := by
  obtain rfl : c = 93 := hc
  have H := Lib.hid h
  have HOK := Lib.hid ho
  have HBS := Lib.hid hbase
  have hPl := lt_of_heap h.hP
  have HCS : Hid (rescapedS s 93 = (freshR 4, [])) := Lib.hid (by rfl)
  clear h ho hbase
  go_enter Try.func30, Try.ntmps30
  go_wp2_with fail
  refine (rto_any P base 4 s vm vp vt w H.out).mono ?_
  rintro e w9 ⟨rfl, hp, hI⟩
  have HF : Hid (QTakeOk w w9 P base (rescapedS s 93) vm vp vt (.slice none 0 0)) := Lib.hid (by rw [HCS.out]; exact QTakeOk.no (QStep.to hp hI))
  clear hp hI
  go_wp2_with fail
  go_ret
  exact ⟨_, rfl, HF.out⟩
theorem rescaped_c80 (P base : Nat) (s : RS) (vm vp vt : Value) (c : Int) (hc : c = 80) (w : World) (h : QW w P base s vm vp vt) (ho : ROk s) (hbase : base ≤ w.heap.size) :
    Calls Try.prog 30 #[.pointer (some ⟨P, 0, none⟩), .int .i32 c] w fun e w' => ∃ v, e = .returned v ∧ QTakeOk w w' P base (rescapedS s c) vm vp vt v := by
  obtain rfl : c = 80 := hc
  have H := Lib.hid h
  have HOK := Lib.hid ho
  have HBS := Lib.hid hbase
  have hPl := lt_of_heap h.hP
  have HCS : Hid (rescapedS s 80 = (freshR 5, [])) := Lib.hid (by rfl)
  clear h ho hbase
  go_enter Try.func30, Try.ntmps30
  go_wp2_with fail
  refine (rto_any P base 5 s vm vp vt w H.out).mono ?_
  rintro e w9 ⟨rfl, hp, hI⟩
  have HF : Hid (QTakeOk w w9 P base (rescapedS s 80) vm vp vt (.slice none 0 0)) := Lib.hid (by rw [HCS.out]; exact QTakeOk.no (QStep.to hp hI))
  clear hp hI
  go_wp2_with fail
  go_ret
  exact ⟨_, rfl, HF.out⟩
theorem rescaped_c88 (P base : Nat) (s : RS) (vm vp vt : Value) (c : Int) (hc : c = 88) (w : World) (h : QW w P base s vm vp vt) (ho : ROk s) (hbase : base ≤ w.heap.size) :
    Calls Try.prog 30 #[.pointer (some ⟨P, 0, none⟩), .int .i32 c] w fun e w' => ∃ v, e = .returned v ∧ QTakeOk w w' P base (rescapedS s c) vm vp vt v := by
  obtain rfl : c = 88 := hc
  have H := Lib.hid h
  have HOK := Lib.hid ho
  have HBS := Lib.hid hbase
  have hPl := lt_of_heap h.hP
  have HCS : Hid (rescapedS s 88 = (freshR 5, [])) := Lib.hid (by rfl)
  clear h ho hbase
  go_enter Try.func30, Try.ntmps30
  go_wp2_with fail
  refine (rto_any P base 5 s vm vp vt w H.out).mono ?_
  rintro e w9 ⟨rfl, hp, hI⟩
  have HF : Hid (QTakeOk w w9 P base (rescapedS s 88) vm vp vt (.slice none 0 0)) := Lib.hid (by rw [HCS.out]; exact QTakeOk.no (QStep.to hp hI))
  clear hp hI
  go_wp2_with fail
  go_ret
  exact ⟨_, rfl, HF.out⟩
theorem rescaped_c94 (P base : Nat) (s : RS) (vm vp vt : Value) (c : Int) (hc : c = 94) (w : World) (h : QW w P base s vm vp vt) (ho : ROk s) (hbase : base ≤ w.heap.size) :
    Calls Try.prog 30 #[.pointer (some ⟨P, 0, none⟩), .int .i32 c] w fun e w' => ∃ v, e = .returned v ∧ QTakeOk w w' P base (rescapedS s c) vm vp vt v := by
  obtain rfl : c = 94 := hc
  have H := Lib.hid h
  have HOK := Lib.hid ho
  have HBS := Lib.hid hbase
  have hPl := lt_of_heap h.hP
  have HCS : Hid (rescapedS s 94 = (freshR 5, [])) := Lib.hid (by rfl)
  clear h ho hbase
  go_enter Try.func30, Try.ntmps30
  go_wp2_with fail
  refine (rto_any P base 5 s vm vp vt w H.out).mono ?_
  rintro e w9 ⟨rfl, hp, hI⟩
  have HF : Hid (QTakeOk w w9 P base (rescapedS s 94) vm vp vt (.slice none 0 0)) := Lib.hid (by rw [HCS.out]; exact QTakeOk.no (QStep.to hp hI))
  clear hp hI
  go_wp2_with fail
  go_ret
  exact ⟨_, rfl, HF.out⟩
theorem rescaped_c95 (P base : Nat) (s : RS) (vm vp vt : Value) (c : Int) (hc : c = 95) (w : World) (h : QW w P base s vm vp vt) (ho : ROk s) (hbase : base ≤ w.heap.size) :
    Calls Try.prog 30 #[.pointer (some ⟨P, 0, none⟩), .int .i32 c] w fun e w' => ∃ v, e = .returned v ∧ QTakeOk w w' P base (rescapedS s c) vm vp vt v := by
  obtain rfl : c = 95 := hc
  have H := Lib.hid h
  have HOK := Lib.hid ho
  have HBS := Lib.hid hbase
  have hPl := lt_of_heap h.hP
  have HCS : Hid (rescapedS s 95 = (freshR 5, [])) := Lib.hid (by rfl)
  clear h ho hbase
  go_enter Try.func30, Try.ntmps30
  go_wp2_with fail
  refine (rto_any P base 5 s vm vp vt w H.out).mono ?_
  rintro e w9 ⟨rfl, hp, hI⟩
  have HF : Hid (QTakeOk w w9 P base (rescapedS s 95) vm vp vt (.slice none 0 0)) := Lib.hid (by rw [HCS.out]; exact QTakeOk.no (QStep.to hp hI))
  clear hp hI
  go_wp2_with fail
  go_ret
  exact ⟨_, rfl, HF.out⟩
theorem rescaped_high (P base : Nat) (s : RS) (vm vp vt : Value) (c : Int) (hc : 128 ≤ c) (w : World) (h : QW w P base s vm vp vt) (ho : ROk s) (hbase : base ≤ w.heap.size) :
    Calls Try.prog 30 #[.pointer (some ⟨P, 0, none⟩), .int .i32 c] w fun e w' => ∃ v, e = .returned v ∧ QTakeOk w w' P base (rescapedS s c) vm vp vt v := by
  have H := Lib.hid h
  have HOK := Lib.hid ho
  have HBS := Lib.hid hbase
  have hPl := lt_of_heap h.hP
  have HCS : Hid (rescapedS s c = (freshR 0, [])) := Lib.hid (by unfold rescapedS; rw [if_neg (by omega), if_neg (by omega), if_neg (by omega), if_neg (by omega), if_neg (by omega), if_pos hc])
  have hne91 : (c == 91) = false := by simp; omega
  have hne93 : (c == 93) = false := by simp; omega
  have hne80 : (c == 80) = false := by simp; omega
  have hne88 : (c == 88) = false := by simp; omega
  have hne94 : (c == 94) = false := by simp; omega
  have hne95 : (c == 95) = false := by simp; omega
  have hy0 : 32 ≤ c := by omega
  have hy1 : 48 ≤ c := by omega
  have hy2 : 128 ≤ c := by omega
  have hn0 : ¬ c < 48 := by omega
  have hn1 : ¬ c < 127 := by omega
  clear h ho hbase
  go_enter Try.func30, Try.ntmps30
  go_wp2_with fail
  refine (rto_any P base 0 s vm vp vt w H.out).mono ?_
  rintro e w9 ⟨rfl, hp, hI⟩
  have HF : Hid (QTakeOk w w9 P base (rescapedS s c) vm vp vt (.slice none 0 0)) := Lib.hid (by rw [HCS.out]; exact QTakeOk.no (QStep.to hp hI))
  clear hp hI
  go_wp2_with fail
  go_ret
  exact ⟨_, rfl, HF.out⟩
theorem rescaped_del (P base : Nat) (s : RS) (vm vp vt : Value) (c : Int) (hc : c = 127) (w : World) (h : QW w P base s vm vp vt) (ho : ROk s) (hbase : base ≤ w.heap.size) :
    Calls Try.prog 30 #[.pointer (some ⟨P, 0, none⟩), .int .i32 c] w fun e w' => ∃ v, e = .returned v ∧ QTakeOk w w' P base (rescapedS s c) vm vp vt v := by
  obtain rfl : c = 127 := hc
  have H := Lib.hid h
  have HOK := Lib.hid ho
  have HBS := Lib.hid hbase
  have hPl := lt_of_heap h.hP
  have HF : Hid (QTakeOk w w P base (rescapedS s 127) vm vp vt (.slice none 0 0)) := Lib.hid (by
    have e : rescapedS s 127 = (s, []) := by rfl
    rw [e]; exact QTakeOk.no (QStep.refl h))
  clear h ho hbase
  go_enter Try.func30, Try.ntmps30
  go_wp2_with fail
  go_ret
  exact ⟨_, rfl, HF.out⟩
theorem rescaped_low (P base : Nat) (s : RS) (vm vp vt : Value) (c : Int) (hc : c < 32) (w : World) (h : QW w P base s vm vp vt) (ho : ROk s) (hbase : base ≤ w.heap.size) :
    Calls Try.prog 30 #[.pointer (some ⟨P, 0, none⟩), .int .i32 c] w fun e w' => ∃ v, e = .returned v ∧ QTakeOk w w' P base (rescapedS s c) vm vp vt v := by
  have H := Lib.hid h
  have HOK := Lib.hid ho
  have HBS := Lib.hid hbase
  have hPl := lt_of_heap h.hP
  have HF : Hid (QTakeOk w w P base (rescapedS s c) vm vp vt (.slice none 0 0)) := Lib.hid (by
    have e : rescapedS s c = (s, []) := by unfold rescapedS; rw [if_neg (by omega), if_neg (by omega), if_neg (by omega), if_neg (by omega), if_neg (by omega), if_neg (by omega)]
    rw [e]; exact QTakeOk.no (QStep.refl h))
  have hne91 : (c == 91) = false := by simp; omega
  have hne93 : (c == 93) = false := by simp; omega
  have hne80 : (c == 80) = false := by simp; omega
  have hne88 : (c == 88) = false := by simp; omega
  have hne94 : (c == 94) = false := by simp; omega
  have hne95 : (c == 95) = false := by simp; omega
  have hn0 : ¬ 32 ≤ c := by omega
  have hn1 : ¬ 48 ≤ c := by omega
  have hn2 : ¬ 128 ≤ c := by omega
  clear h ho hbase
  go_enter Try.func30, Try.ntmps30
  go_wp2_with fail
  go_ret
  exact ⟨_, rfl, HF.out⟩
theorem rescaped_mid (P base : Nat) (s : RS) (vm vp vt : Value) (c : Int) (hc : 32 ≤ c ∧ c < 48) (w : World) (h : QW w P base s vm vp vt) (ho : ROk s) (hbase : base ≤ w.heap.size) :
    Calls Try.prog 30 #[.pointer (some ⟨P, 0, none⟩), .int .i32 c] w fun e w' => ∃ v, e = .returned v ∧ QTakeOk w w' P base (rescapedS s c) vm vp vt v := by
  have H := Lib.hid h
  have HOK := Lib.hid ho
  have HBS := Lib.hid hbase
  have hPl := lt_of_heap h.hP
  have hne91 : (c == 91) = false := by simp; omega
  have hne93 : (c == 93) = false := by simp; omega
  have hne80 : (c == 80) = false := by simp; omega
  have hne88 : (c == 88) = false := by simp; omega
  have hne94 : (c == 94) = false := by simp; omega
  have hne95 : (c == 95) = false := by simp; omega
  have hy0 : 32 ≤ c := by omega
  have hy1 : c < 48 := by omega
  have hwc : IntKind.u8.wrap c = c := by rw [IntKind.wrap_u8]; omega
  have HCS : Hid (rescapedS s c = ({ freshR 2 with mid := [c] }, [])) := Lib.hid (by unfold rescapedS; rw [if_neg (by omega), if_neg (by omega), if_neg (by omega), if_pos hc])
  clear h ho hbase
  go_enter Try.func30, Try.ntmps30
  go_wp2_with fail
  refine (rto_any P base 2 s vm vp vt w H.out).mono ?_
  rintro e w2 ⟨rfl, hp, hI⟩
  have HP2 := Lib.hid hp
  have HI2 := Lib.hid hI
  have hPl2 := lt_of_heap hp.hP
  clear hp hI
  obtain ⟨X, hX⟩ : ∃ X, w2.heap.size = X := ⟨_, rfl⟩
  obtain ⟨W, hW⟩ : ∃ W, w2.alloc (.cells #[.int .u8 c] 5) = W := ⟨_, rfl⟩
  have HBW : Hid (Below w2.heap.size w2 W) := Lib.hid (by rw [← hW]; exact Below.alloc (Below.refl _ _) (Nat.le_refl _) _)
  have HONE : Hid (OwK .u8 5 W base (.slice (some ⟨X, 0, none⟩) 1 1) [c]) := Lib.hid (by rw [← hW, ← hX]; exact OwK.one w2 base (by have := HBS.out; have := HI2.out.size; omega) c)
  have HPW := Lib.hid (HP2.out.below HBW.out)
  have hXb : ∀ b, (Value.slice (some ⟨X, 0, none⟩) 1 1).ownBlock = some b → X = b := fun b hb => by simpa [Value.ownBlock] using hb
  obtain ⟨g1, g2, g3, g4⟩ := QStep.grow_m (w := w2) (wa := W) (w' := W) (y := c) (v' := .slice (some ⟨X, 0, none⟩) 1 1) HP2.out HBW.out HONE.out ⟨rfl, rfl, rfl, Nat.le_refl _, fun _ _ _ => rfl⟩ (fun b hb => .inr (by have := hXb b hb; omega))
  have d2 : W.cell? ⟨P, 2, none⟩ = some (.slice none 0 0) := (cell_of_row _ _ _ _ _ _ g1).trans rfl
  have hfz : W.frozen? ⟨P, 2, none⟩ = false := frozen_of_row W P 2 _ _ g1
  have hPW : P < W.heap.size := lt_of_heap g1
  have HF : Hid (QTakeOk w (W.setCell ⟨P, 2, none⟩ (.slice (some ⟨X, 0, none⟩) 1 1)) P base (rescapedS s c) vm vp vt (.slice none 0 0)) := Lib.hid (by
    rw [HCS.out]
    exact QTakeOk.after HI2.out (QTakeOk.no ⟨_, _, _, g2, g3, g4⟩))
  clear g1 g2 g3 g4 hXb
  go_wp2_with fail
  go_ret
  exact ⟨_, rfl, HF.out⟩
theorem rescaped_end (P base : Nat) (s : RS) (vm vp vt : Value) (c : Int) (hc : 48 ≤ c ∧ c < 127 ∧ c ≠ 91 ∧ c ≠ 93 ∧ c ≠ 80 ∧ c ≠ 88 ∧ c ≠ 94 ∧ c ≠ 95) (w : World) (h : QW w P base s vm vp vt) (ho : ROk s) (hbase : base ≤ w.heap.size) :
    Calls Try.prog 30 #[.pointer (some ⟨P, 0, none⟩), .int .i32 c] w fun e w' => ∃ v, e = .returned v ∧ QTakeOk w w' P base (rescapedS s c) vm vp vt v := by
  have H := Lib.hid h
  have HOK := Lib.hid ho
  have HBS := Lib.hid hbase
  have hPl := lt_of_heap h.hP
  have hz : ∀ w, (zeroValue 31).run Try.prog w = .ok (.agg #[.int .u8 0, .int .i32 0, .int .u8 0, .int .u8 0, .slice none 0 0, .slice none 0 0, .slice none 0 0]) w := zero_act
  have hne91 : (c == 91) = false := by simp; omega
  have hne93 : (c == 93) = false := by simp; omega
  have hne80 : (c == 80) = false := by simp; omega
  have hne88 : (c == 88) = false := by simp; omega
  have hne94 : (c == 94) = false := by simp; omega
  have hne95 : (c == 95) = false := by simp; omega
  have hy0 : 32 ≤ c := by omega
  have hy1 : 48 ≤ c := by omega
  have hy2 : c < 127 := by omega
  have hn0 : ¬ c < 48 := by omega
  have hwc : IntKind.u8.wrap c = c := by rw [IntKind.wrap_u8]; omega
  have HCS : Hid (rescapedS s c = (freshR 0, [⟨3, 0, 0, c, [], [], []⟩])) := Lib.hid (by unfold rescapedS; rw [if_neg (by omega), if_neg (by omega), if_neg (by omega), if_neg (by omega), if_pos (by omega)])
  clear h ho hbase
  go_enter Try.func30, Try.ntmps30
  go_wp2_with fail
  refine (rto_any P base 0 s vm vp vt w H.out).mono ?_
  rintro e w2 ⟨rfl, hp, hI⟩
  have HF : Hid (QTakeOk w (w2.alloc (.cells #[.int .u8 3, .int .i32 0, .int .u8 0, .int .u8 c, .slice none 0 0, .slice none 0 0, .slice none 0 0] 31)) P base (rescapedS s c) vm vp vt (.slice (some ⟨w2.heap.size, 0, none⟩) 1 1)) := Lib.hid (by
    rw [HCS.out]
    exact QTakeOk.after hI (QTakeOk.plain (a := ⟨3, 0, 0, c, .slice none 0 0, .slice none 0 0, .slice none 0 0, [], [], []⟩) hp ⟨rfl, rfl, rfl, rfl, rfl, rfl⟩ (by have := HBS.out; have := hI.size; omega)))
  clear hp hI
  go_wp2_with fail
  go_ret
  exact ⟨_, rfl, HF.out⟩
theorem rescaped_any (P base : Nat) (s : RS) (vm vp vt : Value) (c : Int) (hc : 0 ≤ c) (w : World) (h : QW w P base s vm vp vt) (ho : ROk s) (hbase : base ≤ w.heap.size) :
    Calls Try.prog 30 #[.pointer (some ⟨P, 0, none⟩), .int .i32 c] w fun e w' => ∃ v, e = .returned v ∧ QTakeOk w w' P base (rescapedS s c) vm vp vt v := by
  rcases (by omega : c = 91 ∨ c = 93 ∨ c = 80 ∨ c = 88 ∨ c = 94 ∨ c = 95 ∨ (32 ≤ c ∧ c < 48) ∨ (48 ≤ c ∧ c < 127 ∧ c ≠ 91 ∧ c ≠ 93 ∧ c ≠ 80 ∧ c ≠ 88 ∧ c ≠ 94 ∧ c ≠ 95) ∨ 128 ≤ c ∨ c = 127 ∨ c < 32) with hc | hc | hc | hc | hc | hc | hc | hc | hc | hc | hc
  · exact rescaped_c91 P base s vm vp vt c hc w h ho hbase
  · exact rescaped_c93 P base s vm vp vt c hc w h ho hbase
  · exact rescaped_c80 P base s vm vp vt c hc w h ho hbase
  · exact rescaped_c88 P base s vm vp vt c hc w h ho hbase
  · exact rescaped_c94 P base s vm vp vt c hc w h ho hbase
  · exact rescaped_c95 P base s vm vp vt c hc w h ho hbase
  · exact rescaped_mid P base s vm vp vt c hc w h ho hbase
  · exact rescaped_end P base s vm vp vt c hc w h ho hbase
  · exact rescaped_high P base s vm vp vt c hc w h ho hbase
  · exact rescaped_del P base s vm vp vt c hc w h ho hbase
  · exact rescaped_low P base s vm vp vt c hc w h ho hbase
theorem rinner_high (P base : Nat) (s : RS) (vm vp vt : Value) (c : Int) (hc : 128 ≤ c) (w : World) (h : QW w P base s vm vp vt) (ho : ROk s) (hbase : base ≤ w.heap.size) :
    Calls Try.prog 31 #[.pointer (some ⟨P, 0, none⟩), .int .i32 c] w fun e w' => ∃ v, e = .returned v ∧ QTakeOk w w' P base (innerS s c) vm vp vt v := by
  have H := Lib.hid h
  have HOK := Lib.hid ho
  have HBS := Lib.hid hbase
  have hPl := lt_of_heap h.hP
  have HCS : Hid (innerS s c = (freshR 0, [])) := Lib.hid (by unfold innerS; rw [if_neg (by omega), if_neg (by omega), if_pos hc])
  have hy0 : 32 ≤ c := by omega
  have hy1 : 48 ≤ c := by omega
  have hy2 : 128 ≤ c := by omega
  have hn0 : ¬ c < 48 := by omega
  have hn1 : ¬ c < 127 := by omega
  clear h ho hbase
  go_enter Try.func31, Try.ntmps31
  go_wp2_with fail
  refine (rto_any P base 0 s vm vp vt w H.out).mono ?_
  rintro e w9 ⟨rfl, hp, hI⟩
  have HF : Hid (QTakeOk w w9 P base (innerS s c) vm vp vt (.slice none 0 0)) := Lib.hid (by rw [HCS.out]; exact QTakeOk.no (QStep.to hp hI))
  clear hp hI
  go_wp2_with fail
  go_ret
  exact ⟨_, rfl, HF.out⟩
theorem rinner_del (P base : Nat) (s : RS) (vm vp vt : Value) (c : Int) (hc : c = 127) (w : World) (h : QW w P base s vm vp vt) (ho : ROk s) (hbase : base ≤ w.heap.size) :
    Calls Try.prog 31 #[.pointer (some ⟨P, 0, none⟩), .int .i32 c] w fun e w' => ∃ v, e = .returned v ∧ QTakeOk w w' P base (innerS s c) vm vp vt v := by
  obtain rfl : c = 127 := hc
  have H := Lib.hid h
  have HOK := Lib.hid ho
  have HBS := Lib.hid hbase
  have hPl := lt_of_heap h.hP
  have HF : Hid (QTakeOk w w P base (innerS s 127) vm vp vt (.slice none 0 0)) := Lib.hid (by
    have e : innerS s 127 = (s, []) := by rfl
    rw [e]; exact QTakeOk.no (QStep.refl h))
  clear h ho hbase
  go_enter Try.func31, Try.ntmps31
  go_wp2_with fail
  go_ret
  exact ⟨_, rfl, HF.out⟩
theorem rinner_low (P base : Nat) (s : RS) (vm vp vt : Value) (c : Int) (hc : c < 32) (w : World) (h : QW w P base s vm vp vt) (ho : ROk s) (hbase : base ≤ w.heap.size) :
    Calls Try.prog 31 #[.pointer (some ⟨P, 0, none⟩), .int .i32 c] w fun e w' => ∃ v, e = .returned v ∧ QTakeOk w w' P base (innerS s c) vm vp vt v := by
  have H := Lib.hid h
  have HOK := Lib.hid ho
  have HBS := Lib.hid hbase
  have hPl := lt_of_heap h.hP
  have HF : Hid (QTakeOk w w P base (innerS s c) vm vp vt (.slice none 0 0)) := Lib.hid (by
    have e : innerS s c = (s, []) := by unfold innerS; rw [if_neg (by omega), if_neg (by omega), if_neg (by omega)]
    rw [e]; exact QTakeOk.no (QStep.refl h))
  have hn0 : ¬ 32 ≤ c := by omega
  have hn1 : ¬ 48 ≤ c := by omega
  have hn2 : ¬ 128 ≤ c := by omega
  clear h ho hbase
  go_enter Try.func31, Try.ntmps31
  go_wp2_with fail
  go_ret
  exact ⟨_, rfl, HF.out⟩
theorem rinner_gather (P base : Nat) (s : RS) (vm vp vt : Value) (c : Int) (hc : 32 ≤ c ∧ c < 48) (w : World) (h : QW w P base s vm vp vt) (ho : ROk s) (hbase : base ≤ w.heap.size) :
    Calls Try.prog 31 #[.pointer (some ⟨P, 0, none⟩), .int .i32 c] w fun e w' => ∃ v, e = .returned v ∧ QTakeOk w w' P base (innerS s c) vm vp vt v := by
  have H := Lib.hid h
  have HOK := Lib.hid ho
  have HBS := Lib.hid hbase
  have hPl := lt_of_heap h.hP
  have hy0 : 32 ≤ c := by omega
  have hy1 : c < 48 := by omega
  have HCS : Hid (innerS s c = (gatherS s c, [])) := Lib.hid (by unfold innerS; rw [if_pos hc])
  have HG := Lib.hid (gather_any P base s vm vp vt c (by omega) w h ho hbase)
  clear h ho hbase
  go_enter Try.func31, Try.ntmps31
  go_wp2_with fail
  refine HG.out.mono ?_
  rintro e w9 ⟨rfl, hp⟩
  have HF : Hid (QTakeOk w w9 P base (innerS s c) vm vp vt (.slice none 0 0)) := Lib.hid (by rw [HCS.out]; exact QTakeOk.no hp)
  clear hp
  go_wp2_with fail
  go_ret
  exact ⟨_, rfl, HF.out⟩
theorem rinner_end (P base : Nat) (s : RS) (vm vp vt : Value) (c : Int) (hc : 48 ≤ c ∧ c < 127) (w : World) (h : QW w P base s vm vp vt) (ho : ROk s) (hbase : base ≤ w.heap.size) :
    Calls Try.prog 31 #[.pointer (some ⟨P, 0, none⟩), .int .i32 c] w fun e w' => ∃ v, e = .returned v ∧ QTakeOk w w' P base (innerS s c) vm vp vt v := by
  have H := Lib.hid h
  have HOK := Lib.hid ho
  have HBS := Lib.hid hbase
  have hPl := lt_of_heap h.hP
  have hz : ∀ w, (zeroValue 31).run Try.prog w = .ok (.agg #[.int .u8 0, .int .i32 0, .int .u8 0, .int .u8 0, .slice none 0 0, .slice none 0 0, .slice none 0 0]) w := zero_act
  have hy0 : 32 ≤ c := by omega
  have hy1 : 48 ≤ c := by omega
  have hy2 : c < 127 := by omega
  have hn0 : ¬ c < 48 := by omega
  have hwc : IntKind.u8.wrap c = c := by rw [IntKind.wrap_u8]; omega
  have HCS : Hid (innerS s c = (freshR 0, bif s.no then [] else [⟨3, 0, 0, c, s.mid, [], []⟩])) := Lib.hid (by unfold innerS; rw [if_neg (by omega), if_pos hc])
  have c6 : w.cell? ⟨P, 6, none⟩ = some (.bool s.no) := h.cell rfl
  obtain ⟨b, hb⟩ : ∃ b, s.no = b := ⟨_, rfl⟩
  rw [hb] at c6 HCS
  obtain ⟨A, cp, hvm⟩ := h.m.slice
  obtain ⟨n, hn⟩ : ∃ n, s.mid.length = n := ⟨_, rfl⟩
  rw [hn] at hvm
  have d2 : w.cell? ⟨P, 2, none⟩ = some (.slice A n cp) := by rw [← hvm]; exact h.cell rfl
  have HVM := Lib.hid hvm
  clear h ho hbase hb hn hvm
  cases b with
  | true =>
    go_enter Try.func31, Try.ntmps31
    go_wp2_with fail
    refine (rto_any P base 0 s vm vp vt w H.out).mono ?_
    rintro e w9 ⟨rfl, hp, hI⟩
    have HF : Hid (QTakeOk w w9 P base (innerS s c) vm vp vt (.slice none 0 0)) := Lib.hid (by rw [HCS.out]; exact QTakeOk.no (QStep.to hp hI))
    clear hp hI
    go_wp2_with fail
    go_ret
    exact ⟨_, rfl, HF.out⟩
  | false =>
    obtain ⟨X, hX⟩ : ∃ X, w.heap.size = X := ⟨_, rfl⟩
    obtain ⟨W, hW⟩ : ∃ W, w.alloc (.cells #[.int .u8 3, .int .i32 0, .int .u8 0, .int .u8 c, .slice A n cp, .slice none 0 0, .slice none 0 0] 31) = W := ⟨_, rfl⟩
    have HBW : Hid (Below w.heap.size w W) := Lib.hid (by rw [← hW]; exact Below.alloc (Below.refl _ _) (Nat.le_refl _) _)
    have HROW : Hid (W.heap[X]? = some (.cells (arow ⟨3, 0, 0, c, .slice A n cp, .slice none 0 0, .slice none 0 0, s.mid, [], []⟩) 31 (0, 0))) := Lib.hid (by rw [← hW, ← hX]; exact heap_alloc_last _ _)
    have HPW := Lib.hid (H.out.below HBW.out)
    have HOW : Hid (OwA W base (.slice (some ⟨X, 0, none⟩) 1 1) [⟨3, 0, 0, c, .slice A n cp, .slice none 0 0, .slice none 0 0, s.mid, [], []⟩]) := Lib.hid (OwA.one (by have := HBS.out; omega) HROW.out ⟨by have := HPW.out.m.rdo; rw [HVM.out] at this; exact this, RdO.nil _ _ _ _, RdO.nil _ _ _ _⟩)
    have HNIL := Lib.hid (OwA.nil W base)
    have HL : Hid (([] : List HA).length + [(⟨3, 0, 0, c, .slice A n cp, .slice none 0 0, .slice none 0 0, s.mid, [], []⟩ : HA)].length ≤ 1048577) := Lib.hid (by simp)
    have HBA : Hid (base ≤ W.heap.size) := Lib.hid (by have := HBW.out.size; have := HBS.out; omega)
    go_enter Try.func31, Try.ntmps31
    go_wp2_with (at_builtin; refine wpList_appA (base := base) (base2 := base) rfl _ _ rfl (.slice none 0 0) (.slice (some ⟨X, 0, none⟩) 1 1) [] _ rfl HNIL.out rfl HOW.out HL.out HBA.out (Nat.le_refl _) ?_)
    intro v3 w3 k1 k2 k3
    have HP3 : Hid (QW w3 P base s vm vp vt) := Lib.hid (HPW.out.far (S := fun _ => False) (Inv.ofGrown k2 (fun g hg => by cases hg)) (fun _ _ h => h))
    have HK1 := Lib.hid k1
    have HK2 := Lib.hid k2
    have HK3 := Lib.hid k3
    obtain ⟨A6, c6', hv6⟩ := k1.slice
    clear k1 k2 k3
    subst hv6
    go_wp2_with fail
    refine (rto_any P base 0 s vm vp vt w3 HP3.out).mono ?_
    rintro e w9 ⟨rfl, hp, hI⟩
    have HF : Hid (QTakeOk w w9 P base (innerS s c) vm vp vt (.slice A6 ([] ++ [(⟨3, 0, 0, c, .slice A n cp, .slice none 0 0, .slice none 0 0, s.mid, [], []⟩ : HA)]).length c6')) := Lib.hid (by
      rw [HCS.out]
      refine QTakeOk.tell (X := X) (a := ⟨3, 0, 0, c, .slice A n cp, .slice none 0 0, .slice none 0 0, s.mid, [], []⟩) H.out HBW.out HK1.out HK2.out HK3.out (fun b hb => ?_) hp hI
      rcases hb with hb | hb | hb
      · have hb' : vm.ownBlock = some b := by rw [HVM.out]; exact hb
        exact ⟨.inr (.inl hb'), fun e => H.out.notP.1 (by rw [hb', e])⟩
      · cases hb
      · cases hb)
    clear hp hI
    go_wp2_with fail
    go_ret
    exact ⟨_, rfl, HF.out⟩
theorem rinner_any (P base : Nat) (s : RS) (vm vp vt : Value) (c : Int) (hc : 0 ≤ c) (w : World) (h : QW w P base s vm vp vt) (ho : ROk s) (hbase : base ≤ w.heap.size) :
    Calls Try.prog 31 #[.pointer (some ⟨P, 0, none⟩), .int .i32 c] w fun e w' => ∃ v, e = .returned v ∧ QTakeOk w w' P base (innerS s c) vm vp vt v := by
  rcases (by omega : (32 ≤ c ∧ c < 48) ∨ (48 ≤ c ∧ c < 127) ∨ 128 ≤ c ∨ c = 127 ∨ c < 32) with hc | hc | hc | hc | hc
  · exact rinner_gather P base s vm vp vt c hc w h ho hbase
  · exact rinner_end P base s vm vp vt c hc w h ho hbase
  · exact rinner_high P base s vm vp vt c hc w h ho hbase
  · exact rinner_del P base s vm vp vt c hc w h ho hbase
  · exact rinner_low P base s vm vp vt c hc w h ho hbase
end Go.Proofs.Ytecgipccippddaa
