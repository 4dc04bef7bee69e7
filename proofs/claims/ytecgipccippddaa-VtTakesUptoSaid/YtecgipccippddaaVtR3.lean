/- What is proved: what sequence of the reference's parser answers when it is called; conditions: those typed. -/
import Derived.Test.YtecgipccippddaaVtR2
import Derived.StillTailTactics
set_option linter.unusedSimpArgs false
set_option linter.unusedVariables false
namespace Go.Proofs.Ytecgipccippddaa
open Go.RowKit
set_option maxRecDepth 100000
set_option maxHeartbeats 8000000
/-- An action is told, then the parser goes to another state. -/
theorem QTakeOk.tell2 {w w3 w4 : World} {P base n : Nat} {r : RS} {a : HA} {vm vp vt v3 : Value} (h : QW w P base r vm vp vt) (hb3 : Below w.heap.size w w3) (ho : OwA w3 base v3 [a]) (hv : ∀ b, v3.ownBlock = some b → w.heap.size ≤ b)
    (hb : ∀ b, HB a b → PB P vm vp vt b ∧ b ≠ P) (h4 : QW w4 P base (freshR n) (.slice none 0 0) (.slice none 0 0) (.slice none 0 0)) (hI : Inv w3 (fun g => g = P) gh0 w4) : QTakeOk w w4 P base (freshR n, [a.ac]) vm vp vt v3 := by
  have hI3 : Inv w (fun g => g = P) gh0 w3 := Inv.ofBelow hb3
  have hP3 : w3.heap[P]? = some (.cells (qcells r vm vp vt) 38 (0, 0)) := (hb3.block P (lt_of_heap h.hP)).trans h.hP
  refine ⟨_, _, _, [a], h4, (hI3.then hI (fun g hg _ => hg)).wide (fun g hg => .inl hg), fun g hg => .inl (.inl (pb_nil hg)), ho.keep fun b hb2 hlt => hI.far b hlt fun e => ?_, rfl, by simp, hv, fun x hx b hb2 => ?_⟩
  · rcases hb2 with hb2 | ⟨x, hx, hb2⟩
    · obtain ⟨_, cur, hc⟩ := ho.blk hb2
      exact blk_ne hc hP3 (by decide) e
    · obtain rfl := List.mem_singleton.1 hx
      exact (hb b hb2).2 e
  · obtain rfl := List.mem_singleton.1 hx
    exact ⟨.inl (hb b hb2).1, fun h => (hb b hb2).2 (pb_nil h)⟩
/-- The first parameter is made. -/
theorem QW.first {w : World} {P base : Nat} {s : RS} {vm vp vt : Value} (h : QW w P base s vm vp vt) (hp : s.ps = []) (hb : base ≤ w.heap.size) {X : Nat} (hX : w.heap.size = X) {W : World} (hW : w.alloc (.cells #[.int .i64 0] 3) = W) :
    QW (W.setCell ⟨P, 4, none⟩ (.int .i64 1)) P base { s with many := 1 } vm vp vt ∧
    QW ((W.setCell ⟨P, 4, none⟩ (.int .i64 1)).setCell ⟨P, 3, none⟩ (.slice (some ⟨X, 0, none⟩) 1 1)) P base { s with many := 1, ps := [0] } vm (.slice (some ⟨X, 0, none⟩) 1 1) vt ∧
    Inv w (PB P vm vp vt) gh0 ((W.setCell ⟨P, 4, none⟩ (.int .i64 1)).setCell ⟨P, 3, none⟩ (.slice (some ⟨X, 0, none⟩) 1 1)) ∧
    (∀ g, PB P vm (.slice (some ⟨X, 0, none⟩) 1 1) vt g → PB P vm vp vt g ∨ w.heap.size ≤ g) := by
  have hb1 : Below w.heap.size w W := by rw [← hW]; exact Below.alloc (Below.refl _ _) (Nat.le_refl _) _
  have h1 := h.below hb1
  have h2 : QW (W.setCell ⟨P, 4, none⟩ (.int .i64 1)) P base { s with many := 1 } vm vp vt := h1.set rfl rfl rfl rfl
  have hPw := lt_of_heap h.hP
  have hXb : ∀ b, (Value.slice (some ⟨X, 0, none⟩) 1 1).ownBlock = some b → X = b := fun b hb => by simpa [Value.ownBlock] using hb
  have k0 : OwK .i64 3 (W.setCell ⟨P, 4, none⟩ (.int .i64 1)) base (.slice (some ⟨X, 0, none⟩) 1 1) [0] := by
    have := (OwK.one (k := .i64) (e := 3) w base hb 0)
    rw [hW, hX] at this
    exact this.keep fun b hb _ => heap_setCell_other _ ⟨_, _, _⟩ _ _ (by
      have := hXb b hb
      intro e
      have e : b = P := by simpa using e
      omega)
  have hI1 : Inv w (PB P vm vp vt) gh0 (W.setCell ⟨P, 4, none⟩ (.int .i64 1)) := (Inv.ofBelow hb1).then (Inv.ofSet (S := PB P vm vp vt) (.inl rfl)) (fun g hg _ => hg)
  have hk : ∀ b, b ≠ P → ((W.setCell ⟨P, 4, none⟩ (.int .i64 1)).setCell ⟨P, 3, none⟩ (.slice (some ⟨X, 0, none⟩) 1 1)).heap[b]? = (W.setCell ⟨P, 4, none⟩ (.int .i64 1)).heap[b]? := fun b hb => heap_setCell_other _ ⟨_, _, _⟩ _ _ (by simpa using hb)
  have hn := h2.notP
  refine ⟨h2, ⟨heap_setCell_same _ _ _ _ _ _ h2.hP, h2.m.keep fun b hb _ => hk b (fun e => hn.1 (by rw [hb, e])), k0.keep fun b hb _ => hk b (fun e => ?_), h2.t.keep fun b hb _ => hk b (fun e => hn.2.2 (by rw [hb, e]))⟩, hI1.then (Inv.ofSet (S := PB P vm vp vt) (.inl rfl)) (fun g hg _ => hg), fun g hg => ?_⟩
  · have := hXb b hb
    omega
  · rcases hg with hg | hg | hg | hg
    · exact .inl (.inl hg)
    · exact .inl (.inr (.inl hg))
    · exact .inr (by have := hXb g hg; omega)
    · exact .inl (.inr (.inr (.inr hg)))
theorem rsequence_high (P base : Nat) (s : RS) (vm vp vt : Value) (c : Int) (hc : 128 ≤ c) (w : World) (h : QW w P base s vm vp vt) (ho : ROk s) (hbase : base ≤ w.heap.size) :
    Calls Try.prog 32 #[.pointer (some ⟨P, 0, none⟩), .int .i32 c] w fun e w' => ∃ v, e = .returned v ∧ QTakeOk w w' P base (seqS s c) vm vp vt v := by
  have H := Lib.hid h
  have HOK := Lib.hid ho
  have HBS := Lib.hid hbase
  have hPl := lt_of_heap h.hP
  have HCS : Hid (seqS s c = (freshR 0, [])) := Lib.hid (by unfold seqS; rw [if_neg (show ¬ ((48 ≤ c ∧ c ≤ 57) ∨ c = 59) by omega), if_neg (by omega), if_neg (by omega), if_neg (by omega), if_neg (by omega), if_pos hc])
  have hne59 : (c == 59) = false := by simp; omega
  have hne58 : (c == 58) = false := by simp; omega
  have hy0 : 48 ≤ c := by omega
  have hy1 : 60 ≤ c := by omega
  have hy2 : 32 ≤ c := by omega
  have hy3 : 64 ≤ c := by omega
  have hy4 : 128 ≤ c := by omega
  have hn0 : ¬ c ≤ 57 := by omega
  have hn1 : ¬ c ≤ 63 := by omega
  have hn2 : ¬ c < 48 := by omega
  have hn3 : ¬ c < 127 := by omega
  clear h ho hbase
  go_enter Try.func32, Try.ntmps32
  go_wp2_with fail
  refine (rto_any P base 0 s vm vp vt w H.out).mono ?_
  rintro e w9 ⟨rfl, hp, hI⟩
  have HF : Hid (QTakeOk w w9 P base (seqS s c) vm vp vt (.slice none 0 0)) := Lib.hid (by rw [HCS.out]; exact QTakeOk.no (QStep.to hp hI))
  clear hp hI
  go_wp2_with fail
  go_ret
  exact ⟨_, rfl, HF.out⟩
theorem rsequence_del (P base : Nat) (s : RS) (vm vp vt : Value) (c : Int) (hc : c = 127) (w : World) (h : QW w P base s vm vp vt) (ho : ROk s) (hbase : base ≤ w.heap.size) :
    Calls Try.prog 32 #[.pointer (some ⟨P, 0, none⟩), .int .i32 c] w fun e w' => ∃ v, e = .returned v ∧ QTakeOk w w' P base (seqS s c) vm vp vt v := by
  obtain rfl : c = 127 := hc
  have H := Lib.hid h
  have HOK := Lib.hid ho
  have HBS := Lib.hid hbase
  have hPl := lt_of_heap h.hP
  have HF : Hid (QTakeOk w w P base (seqS s 127) vm vp vt (.slice none 0 0)) := Lib.hid (by
    have e : seqS s 127 = (s, []) := by rfl
    rw [e]; exact QTakeOk.no (QStep.refl h))
  clear h ho hbase
  go_enter Try.func32, Try.ntmps32
  go_wp2_with fail
  go_ret
  exact ⟨_, rfl, HF.out⟩
theorem rsequence_low (P base : Nat) (s : RS) (vm vp vt : Value) (c : Int) (hc : c < 32) (w : World) (h : QW w P base s vm vp vt) (ho : ROk s) (hbase : base ≤ w.heap.size) :
    Calls Try.prog 32 #[.pointer (some ⟨P, 0, none⟩), .int .i32 c] w fun e w' => ∃ v, e = .returned v ∧ QTakeOk w w' P base (seqS s c) vm vp vt v := by
  have H := Lib.hid h
  have HOK := Lib.hid ho
  have HBS := Lib.hid hbase
  have hPl := lt_of_heap h.hP
  have HF : Hid (QTakeOk w w P base (seqS s c) vm vp vt (.slice none 0 0)) := Lib.hid (by
    have e : seqS s c = (s, []) := by unfold seqS; rw [if_neg (show ¬ ((48 ≤ c ∧ c ≤ 57) ∨ c = 59) by omega), if_neg (by omega), if_neg (by omega), if_neg (by omega), if_neg (by omega), if_neg (by omega)]
    rw [e]; exact QTakeOk.no (QStep.refl h))
  have hne59 : (c == 59) = false := by simp; omega
  have hne58 : (c == 58) = false := by simp; omega
  have hn0 : ¬ 48 ≤ c := by omega
  have hn1 : ¬ 60 ≤ c := by omega
  have hn2 : ¬ 32 ≤ c := by omega
  have hn3 : ¬ 64 ≤ c := by omega
  have hn4 : ¬ 128 ≤ c := by omega
  clear h ho hbase
  go_enter Try.func32, Try.ntmps32
  go_wp2_with fail
  go_ret
  exact ⟨_, rfl, HF.out⟩
theorem rsequence_gather (P base : Nat) (s : RS) (vm vp vt : Value) (c : Int) (hc : 32 ≤ c ∧ c < 48) (w : World) (h : QW w P base s vm vp vt) (ho : ROk s) (hbase : base ≤ w.heap.size) :
    Calls Try.prog 32 #[.pointer (some ⟨P, 0, none⟩), .int .i32 c] w fun e w' => ∃ v, e = .returned v ∧ QTakeOk w w' P base (seqS s c) vm vp vt v := by
  have H := Lib.hid h
  have HOK := Lib.hid ho
  have HBS := Lib.hid hbase
  have hPl := lt_of_heap h.hP
  have hne59 : (c == 59) = false := by simp; omega
  have hne58 : (c == 58) = false := by simp; omega
  have hy0 : 32 ≤ c := by omega
  have hy1 : c < 48 := by omega
  have hn0 : ¬ 48 ≤ c := by omega
  have hn1 : ¬ 60 ≤ c := by omega
  have HCS : Hid (seqS s c = (gatherS s c, [])) := Lib.hid (by unfold seqS; rw [if_neg (show ¬ ((48 ≤ c ∧ c ≤ 57) ∨ c = 59) by omega), if_neg (by omega), if_neg (by omega), if_pos hc])
  have HG := Lib.hid (gather_any P base s vm vp vt c (by omega) w h ho hbase)
  clear h ho hbase
  go_enter Try.func32, Try.ntmps32
  go_wp2_with fail
  refine HG.out.mono ?_
  rintro e w9 ⟨rfl, hp⟩
  have HF : Hid (QTakeOk w w9 P base (seqS s c) vm vp vt (.slice none 0 0)) := Lib.hid (by rw [HCS.out]; exact QTakeOk.no hp)
  clear hp
  go_wp2_with fail
  go_ret
  exact ⟨_, rfl, HF.out⟩
theorem rsequence_colon (P base : Nat) (s : RS) (vm vp vt : Value) (c : Int) (hc : c = 58) (w : World) (h : QW w P base s vm vp vt) (ho : ROk s) (hbase : base ≤ w.heap.size) :
    Calls Try.prog 32 #[.pointer (some ⟨P, 0, none⟩), .int .i32 c] w fun e w' => ∃ v, e = .returned v ∧ QTakeOk w w' P base (seqS s c) vm vp vt v := by
  obtain rfl : c = 58 := hc
  have H := Lib.hid h
  have HOK := Lib.hid ho
  have HBS := Lib.hid hbase
  have hPl := lt_of_heap h.hP
  have hf6 : w.frozen? ⟨P, 6, none⟩ = false := frozen_of_row w P 6 _ _ h.hP
  have c6 : w.cell? ⟨P, 6, none⟩ = some (.bool s.no) := h.cell rfl
  have HF : Hid (QTakeOk w (w.setCell ⟨P, 6, none⟩ (.bool true)) P base (seqS s 58) vm vp vt (.slice none 0 0)) := Lib.hid (by
    have e : seqS s 58 = ({ s with no := true }, []) := rfl
    rw [e]
    exact QTakeOk.no (QStep.set h rfl rfl rfl rfl))
  clear h ho hbase
  go_enter Try.func32, Try.ntmps32
  go_wp2_with fail
  go_ret
  exact ⟨_, rfl, HF.out⟩
theorem rsequence_priv (P base : Nat) (s : RS) (vm vp vt : Value) (c : Int) (hc : 60 ≤ c ∧ c ≤ 63) (w : World) (h : QW w P base s vm vp vt) (ho : ROk s) (hbase : base ≤ w.heap.size) :
    Calls Try.prog 32 #[.pointer (some ⟨P, 0, none⟩), .int .i32 c] w fun e w' => ∃ v, e = .returned v ∧ QTakeOk w w' P base (seqS s c) vm vp vt v := by
  have H := Lib.hid h
  have HOK := Lib.hid ho
  have HBS := Lib.hid hbase
  have hPl := lt_of_heap h.hP
  have HCS : Hid (seqS s c = (seqP s c, [])) := Lib.hid (by unfold seqS; rw [if_neg (show ¬ ((48 ≤ c ∧ c ≤ 57) ∨ c = 59) by omega), if_pos hc])
  have hne59 : (c == 59) = false := by simp; omega
  have hy0 : 48 ≤ c := by omega
  have hy1 : 60 ≤ c := by omega
  have hy2 : c ≤ 63 := by omega
  have hn0 : ¬ c ≤ 57 := by omega
  have hwc : IntKind.u8.wrap c = c := by rw [IntKind.wrap_u8]; omega
  obtain ⟨A, cp, hvm⟩ := h.m.slice
  obtain ⟨n, hn⟩ : ∃ n, s.mid.length = n := ⟨_, rfl⟩
  obtain ⟨m, hm⟩ : ∃ n, s.many = n := ⟨_, rfl⟩
  obtain ⟨q, hq⟩ : ∃ q, s.pv = q := ⟨_, rfl⟩
  obtain ⟨b, hb⟩ : ∃ q, s.no = q := ⟨_, rfl⟩
  rw [hn] at hvm
  have c1 : w.cell? ⟨P, 1, none⟩ = some (.int .u8 s.pv) := h.cell rfl
  rw [hq] at c1
  have c2 : w.cell? ⟨P, 2, none⟩ = some (.slice A n cp) := by rw [← hvm]; exact h.cell rfl
  have c4 : w.cell? ⟨P, 4, none⟩ = some (.int .i64 s.many) := h.cell rfl
  rw [hm] at c4
  have c6 : w.cell? ⟨P, 6, none⟩ = some (.bool s.no) := h.cell rfl
  rw [hb] at c6
  have hf1 : w.frozen? ⟨P, 1, none⟩ = false := frozen_of_row w P 1 _ _ h.hP
  have hf6 : w.frozen? ⟨P, 6, none⟩ = false := frozen_of_row w P 6 _ _ h.hP
  have HT : Hid ((q ≠ 0 ∨ 0 < m ∨ 0 < n ∨ b = true) → QTakeOk w (w.setCell ⟨P, 6, none⟩ (.bool true)) P base (seqS s c) vm vp vt (.slice none 0 0)) := Lib.hid (fun hx => by
    rw [HCS.out]
    have e : seqP s c = { s with no := true } := by unfold seqP; rw [if_pos (by rw [hq, hm, hn, hb]; exact hx)]
    rw [e]
    exact QTakeOk.no (QStep.set h rfl rfl rfl rfl))
  have HN : Hid (¬ (q ≠ 0 ∨ 0 < m ∨ 0 < n ∨ b = true) → QTakeOk w (w.setCell ⟨P, 1, none⟩ (.int .u8 c)) P base (seqS s c) vm vp vt (.slice none 0 0)) := Lib.hid (fun hx => by
    rw [HCS.out]
    have e : seqP s c = { s with pv := c } := by unfold seqP; rw [if_neg (by rw [hq, hm, hn, hb]; exact hx)]
    rw [e]
    exact QTakeOk.no (QStep.set h rfl rfl rfl rfl))
  clear h ho hbase hn hm hvm hq HCS hb
  rcases Decidable.em (q = 0) with rfl | hq0
  · by_cases h0 : 0 < m
    · have h0i : (0 : Int) < (m : Int) := by omega
      have HF := Lib.hid (HT.out (.inr (.inl h0)))
      go_enter Try.func32, Try.ntmps32
      go_wp2_with fail
      go_ret
      exact ⟨_, rfl, HF.out⟩
    · obtain rfl : m = 0 := by omega
      clear h0
      by_cases h0 : 0 < n
      · have HF := Lib.hid (HT.out (.inr (.inr (.inl h0))))
        go_enter Try.func32, Try.ntmps32
        go_wp2_with fail
        go_ret
        exact ⟨_, rfl, HF.out⟩
      · obtain rfl : n = 0 := by omega
        clear h0
        cases b with
        | true =>
          have HF := Lib.hid (HT.out (.inr (.inr (.inr rfl))))
          go_enter Try.func32, Try.ntmps32
          go_wp2_with fail
          go_ret
          exact ⟨_, rfl, HF.out⟩
        | false =>
          have HF := Lib.hid (HN.out (by simp))
          go_enter Try.func32, Try.ntmps32
          go_wp2_with fail
          go_ret
          exact ⟨_, rfl, HF.out⟩
  · have HF := Lib.hid (HT.out (.inl hq0))
    go_enter Try.func32, Try.ntmps32
    go_wp2_with fail
    go_ret
    exact ⟨_, rfl, HF.out⟩
theorem rsequence_end (P base : Nat) (s : RS) (vm vp vt : Value) (c : Int) (hc : 64 ≤ c ∧ c < 127) (w : World) (h : QW w P base s vm vp vt) (ho : ROk s) (hbase : base ≤ w.heap.size) :
    Calls Try.prog 32 #[.pointer (some ⟨P, 0, none⟩), .int .i32 c] w fun e w' => ∃ v, e = .returned v ∧ QTakeOk w w' P base (seqS s c) vm vp vt v := by
  have H := Lib.hid h
  have HOK := Lib.hid ho
  have HBS := Lib.hid hbase
  have hPl := lt_of_heap h.hP
  have hz : ∀ w, (zeroValue 31).run Try.prog w = .ok (.agg #[.int .u8 0, .int .i32 0, .int .u8 0, .int .u8 0, .slice none 0 0, .slice none 0 0, .slice none 0 0]) w := zero_act
  have hne59 : (c == 59) = false := by simp; omega
  have hne58 : (c == 58) = false := by simp; omega
  have hy0 : 48 ≤ c := by omega
  have hy1 : 60 ≤ c := by omega
  have hy2 : 32 ≤ c := by omega
  have hy3 : 64 ≤ c := by omega
  have hy4 : c < 127 := by omega
  have hn0 : ¬ c ≤ 57 := by omega
  have hn1 : ¬ c ≤ 63 := by omega
  have hn2 : ¬ c < 48 := by omega
  have hwc : IntKind.u8.wrap c = c := by rw [IntKind.wrap_u8]; omega
  have HCS : Hid (seqS s c = (freshR 0, bif s.no then [] else [⟨4, 0, s.pv, c, s.mid, s.ps, []⟩])) := Lib.hid (by unfold seqS; rw [if_neg (show ¬ ((48 ≤ c ∧ c ≤ 57) ∨ c = 59) by omega), if_neg (by omega), if_neg (by omega), if_neg (by omega), if_pos hc])
  have c6 : w.cell? ⟨P, 6, none⟩ = some (.bool s.no) := h.cell rfl
  obtain ⟨b, hb⟩ : ∃ b, s.no = b := ⟨_, rfl⟩
  rw [hb] at c6 HCS
  obtain ⟨A, cp, hvm⟩ := h.m.slice
  obtain ⟨A0, cp0, hvp⟩ := h.p.slice
  obtain ⟨n, hn⟩ : ∃ n, s.mid.length = n := ⟨_, rfl⟩
  obtain ⟨n0, hn0⟩ : ∃ n, s.ps.length = n := ⟨_, rfl⟩
  rw [hn] at hvm
  rw [hn0] at hvp
  have d2 : w.cell? ⟨P, 2, none⟩ = some (.slice A n cp) := by rw [← hvm]; exact h.cell rfl
  have d3 : w.cell? ⟨P, 3, none⟩ = some (.slice A0 n0 cp0) := by rw [← hvp]; exact h.cell rfl
  have c1 : w.cell? ⟨P, 1, none⟩ = some (.int .u8 s.pv) := h.cell rfl
  obtain ⟨q, hq⟩ : ∃ q, s.pv = q := ⟨_, rfl⟩
  rw [hq] at c1 HCS
  have HVM := Lib.hid hvm
  have HVP := Lib.hid hvp
  clear h ho hbase hb hn hvm hn0 hvp hq hc
  cases b with
  | true =>
    go_enter Try.func32, Try.ntmps32
    go_wp2_with fail
    refine (rto_any P base 0 s vm vp vt w H.out).mono ?_
    rintro e w9 ⟨rfl, hp, hI⟩
    have HF : Hid (QTakeOk w w9 P base (seqS s c) vm vp vt (.slice none 0 0)) := Lib.hid (by rw [HCS.out]; exact QTakeOk.no (QStep.to hp hI))
    clear hp hI
    go_wp2_with fail
    go_ret
    exact ⟨_, rfl, HF.out⟩
  | false =>
    obtain ⟨it, hit, hzr, hs1z, hs8⟩ := actInfo8
    have HCSF : Hid (seqS s c = (freshR 0, [⟨4, 0, q, c, s.mid, s.ps, []⟩])) := Lib.hid HCS.out
    clear HCS
    have C1 := Lib.hid c1
    have D2 := Lib.hid d2
    have D3 := Lib.hid d3
    go_enter Try.func32, Try.ntmps32
    go_wp2_with fail
    apply wp_region_effT _ _ (Inv.start0 w fun _ => False) (hm := by kernel_rfl)
    case h =>
      (apply SeqF.pure; (focus (first | rfl | (go_simp; done) | (simp [Region.wanted, yielded]; done))); (focus (intro w; go_simp; with_reducible rfl)); go_simp)
      (apply SeqF.pure; (focus (first | rfl | (go_simp; done) | (simp [Region.wanted, yielded]; done))); (focus (intro w; go_simp; with_reducible rfl)); go_simp)
      (apply SeqF.pure; (focus (first | rfl | (go_simp; done) | (simp [Region.wanted, yielded]; done))); (focus (intro w; go_simp; with_reducible rfl)); go_simp)
      (apply SeqF.pure; (focus (first | rfl | (go_simp; done) | (simp [Region.wanted, yielded]; done))); (focus (intro w; go_simp; with_reducible rfl)); go_simp)
      apply SeqF.read (v := .int .u8 q) []
      · (first | rfl | (go_simp; done) | (simp [Region.wanted, yielded]; done))
      · intro γ' W hg hI
        have x0 : W.cell? ⟨P, 1, none⟩ = some (.int .u8 q) := (cell_same (hI.far P hPl (fun h => h))).trans C1.out
        go_simp
      go_simp
      (apply SeqF.pure; (focus (first | rfl | (go_simp; done) | (simp [Region.wanted, yielded]; done))); (focus (intro w; go_simp; with_reducible rfl)); go_simp)
      (apply SeqF.pure; (focus (first | rfl | (go_simp; done) | (simp [Region.wanted, yielded]; done))); (focus (intro w; go_simp; with_reducible rfl)); go_simp)
      (apply SeqF.pure; (focus (first | rfl | (go_simp; done) | (simp [Region.wanted, yielded]; done))); (focus (intro w; go_simp; with_reducible rfl)); go_simp)
      apply SeqF.read (v := .slice A0 n0 cp0) []
      · (first | rfl | (go_simp; done) | (simp [Region.wanted, yielded]; done))
      · intro γ' W hg hI
        have x0 : W.cell? ⟨P, 3, none⟩ = some (.slice A0 n0 cp0) := (cell_same (hI.far P hPl (fun h => h))).trans D3.out
        go_simp
      go_simp
      (apply SeqF.pure; (focus (first | rfl | (go_simp; done) | (simp [Region.wanted, yielded]; done))); (focus (intro w; go_simp; with_reducible rfl)); go_simp)
      (apply SeqF.pure; (focus (first | rfl | (go_simp; done) | (simp [Region.wanted, yielded]; done))); (focus (intro w; go_simp; with_reducible rfl)); go_simp)
      (apply SeqF.pure; (focus (first | rfl | (go_simp; done) | (simp [Region.wanted, yielded]; done))); (focus (intro w; go_simp; with_reducible rfl)); go_simp)
      apply SeqF.read (v := .slice A n cp) []
      · (first | rfl | (go_simp; done) | (simp [Region.wanted, yielded]; done))
      · intro γ' W hg hI
        have x0 : W.cell? ⟨P, 2, none⟩ = some (.slice A n cp) := (cell_same (hI.far P hPl (fun h => h))).trans D2.out
        go_simp
      go_simp
      (apply SeqF.pure; (focus (first | rfl | (go_simp; done) | (simp [Region.wanted, yielded]; done))); (focus (intro w; go_simp; with_reducible rfl)); go_simp)
      (apply SeqF.pure; (focus (first | rfl | (go_simp; done) | (simp [Region.wanted, yielded]; done))); (focus (intro w; go_simp; with_reducible rfl)); go_simp)
      (apply SeqF.pure; (focus (first | rfl | (go_simp; done) | (simp [Region.wanted, yielded]; done))); (focus (intro w; go_simp; with_reducible rfl)); go_simp)
      apply SeqF.new [] 0 (fun g => .slice (some ⟨g, 0, none⟩) 1 1) (fun _ => .cells #[.int .u8 4, .int .i32 0, .int .u8 q, .int .u8 c, .slice A n cp, .slice A0 n0 cp0, .slice none 0 0] 31 (0, 0))
      · intro γ' _; rfl
      · (first | rfl | (go_simp; done) | (simp [Region.wanted, yielded]; done))
      · intro γ' V hg hI; kernel_rfl
      intro X hX
      go_simp
      apply SeqF.append [0, 1] 1 (by simp) (.tmp 162) (.tmp 178) 25 31 it _ 7 88 rfl rfl Try.underlying25 hit hzr hs1z hs8 rfl (by decide) (.slice none 0 0) 0 [] rfl ?n0 ⟨X, 0, none⟩ 1 1 [.int .u8 4, .int .i32 0, .int .u8 q, .int .u8 c, .slice A n cp, .slice A0 n0 cp0, .slice none 0 0] rfl rfl ?n1 ?n2 ?n3 ?n4 (fun _ => [.int .u8 4, .int .i32 0, .int .u8 q, .int .u8 c, .slice A n cp, .slice A0 n0 cp0, .slice none 0 0]) ?n5 ?n6 ?n7
      case n0 => exact ⟨rfl, .inl ⟨rfl, rfl, by rw [Gh.set_far _ _ (by decide)]; rfl⟩⟩
      case n1 =>
        intro γ' V hg hI j u hj
        have hh := (hI.here 0 X _ ((hg 0 (by simp)).trans (Gh.set_here _ _ _))).1
        have e2 : (⟨X, 0, none⟩ : Addr).add j = ⟨X, j, none⟩ := by unfold Addr.add; split <;> simp_all
        rw [e2, cell_of_row _ _ _ _ _ _ hh, ← Array.getElem?_toList]
        exact hj
      case n2 =>
        intro y hy
        simp only [List.mem_cons, List.not_mem_nil, or_false] at hy
        rcases hy with rfl | rfl | rfl | rfl | rfl | rfl | rfl <;> rfl
      case n3 => unfold maxLen; omega
      case n4 => omega
      case n5 => intro γ' hg; rfl
      case n6 => rfl
      case n7 =>
        intro v3 x' hu hx'
        have HU := Lib.hid hu
        have HXN := Lib.hid hx'
        obtain ⟨A6, c6', hv6⟩ : ∃ A c, v3 = .slice A 1 c := by
          obtain ⟨_, ⟨h1, h2, h3⟩ | ⟨g, cap, cur, h1, h2, _⟩⟩ := hu
          · omega
          · exact ⟨_, _, h1⟩
        obtain rfl := hu.val (by decide)
        clear hu hx' hv6
        go_simp
        apply SeqF.dyn [1] (fun γ => rowVal 7 1 (γ 1))
        · intro γ' hg; simp only [hg 1 (by simp)]
        · (first | rfl | (go_simp; done) | (simp [Region.wanted, yielded]; done))
        · intro γ' W hg hI
          simp only [Gh.set_here]
          obtain ⟨A7, c7, hv7⟩ := HU.out.form
          rw [hv7]
          go_simp
        simp only [Gh.set_here]
        apply SeqF.done
        intro w3 hI3
        have HU2 := HU.out
        obtain ⟨A7, c7, hv7⟩ := HU2.form
        have HB3 : Hid (Below w.heap.size w w3) := Lib.hid hI3.belowOf
        have HX2 : Hid (∀ g o, x' = some (g, o) → w.heap.size ≤ g ∧ w3.heap[g]? = some o) := Lib.hid (fun g o e => ⟨by
          rcases HXN.out g o e with ⟨o', h⟩ | h
          · rw [Gh.set_far _ _ (by decide)] at h; cases h
          · exact h, (hI3.here 1 g o (by rw [Gh.set_here]; exact e)).1⟩)
        have hrow : w3.ownsRow base 31 7 (rowVal 7 1 x') 1 [.int .u8 4, .int .i32 0, .int .u8 q, .int .u8 c, .slice A n cp, .slice A0 n0 cp0, .slice none 0 0] := HU2.owns fun g o e => ⟨Nat.le_trans HBS.out (HX2.out g o e).1, (HX2.out g o e).2⟩
        have HBLK : Hid (∀ b, (rowVal 7 1 x').ownBlock = some b → w.heap.size ≤ b) := Lib.hid (fun b hb => by
          rw [HU2.block] at hb
          obtain ⟨⟨g, o⟩, e, rfl⟩ := Option.map_eq_some_iff.1 hb
          exact (HX2.out g o e).1)
        have HP3 := Lib.hid (H.out.below HB3.out)
        have HOA : Hid (OwA w3 base (rowVal 7 1 x') [⟨4, 0, q, c, .slice A n cp, .slice A0 n0 cp0, .slice none 0 0, s.mid, s.ps, []⟩]) := Lib.hid ⟨hrow, fun a ha => by
          obtain rfl := List.mem_singleton.1 ha
          have hm := HP3.out.m.rdo
          have hp := HP3.out.p.rdo
          rw [HVM.out] at hm
          rw [HVP.out] at hp
          exact ⟨hm, hp, RdO.nil _ _ _ _⟩⟩
        rw [hv7] at HOA HBLK ⊢
        clear hI3 HU HU2 HX2 hrow HXN
        go_simp
        go_wp2_with fail
        refine (rto_any P base 0 s vm vp vt w3 HP3.out).mono ?_
        rintro e w9 ⟨rfl, hp, hI⟩
        have HF : Hid (QTakeOk w w9 P base (seqS s c) vm vp vt (.slice A7 1 c7)) := Lib.hid (by
          rw [HCSF.out]
          refine QTakeOk.tell2 (a := ⟨4, 0, q, c, .slice A n cp, .slice A0 n0 cp0, .slice none 0 0, s.mid, s.ps, []⟩) H.out HB3.out HOA.out HBLK.out (fun b hb => ?_) hp hI
          rcases hb with hb | hb | hb
          · have hb' : vm.ownBlock = some b := by rw [HVM.out]; exact hb
            exact ⟨.inr (.inl hb'), fun e => H.out.notP.1 (by rw [hb', e])⟩
          · have hb' : vp.ownBlock = some b := by rw [HVP.out]; exact hb
            exact ⟨.inr (.inr (.inl hb')), fun e => H.out.notP.2.1 (by rw [hb', e])⟩
          · cases hb)
        clear hp hI
        go_wp2_with fail
        go_ret
        exact ⟨_, rfl, HF.out⟩
    case hl => rfl
    case ho => kernel_rfl
end Go.Proofs.Ytecgipccippddaa
