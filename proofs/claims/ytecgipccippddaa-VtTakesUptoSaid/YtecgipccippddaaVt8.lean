/- What is proved: rows of actions that grow; what Take of package vt answers when it is called; conditions: those typed. -/
import Derived.Test.YtecgipccippddaaVt7
set_option linter.unusedSimpArgs false
set_option linter.unusedVariables false
namespace Go.Proofs.Ytecgipccippddaa
open Go.RowKit
set_option maxRecDepth 100000
set_option maxHeartbeats 8000000
theorem OwA.keep {w w1 : World} {base : Nat} {v : Value} {L : List HA} (h : OwA w base v L) (hk : ∀ b, (v.ownBlock = some b ∨ ∃ a ∈ L, HB a b) → b < w.heap.size → w1.heap[b]? = w.heap[b]?) : OwA w1 base v L :=
  ⟨owns_keep h.row fun b h1 h2 => hk b (.inl h1) h2, fun a ha => (h.acts a ha).keep fun b h1 h2 => hk b (.inr ⟨a, ha, h1⟩) h2⟩
theorem OwA.below {w w1 : World} {base : Nat} {v : Value} {L : List HA} (h : OwA w base v L) (hb : Below w.heap.size w w1) : OwA w1 base v L := h.keep fun b _ hlt => hb.block b hlt
theorem OwA.mono {w : World} {base b' : Nat} {v : Value} {L : List HA} (h : OwA w base v L) (hb : b' ≤ base) : OwA w b' v L := by
  have hr : ∀ {k e v xs}, RdO k e w base v xs → RdO k e w b' v xs := fun ⟨A, c, h1, h2, h3, h4, h5, h6⟩ => ⟨A, c, h1, h2, h3, h4, h5, fun b hv => ⟨by have := (h6 b hv).1; omega, (h6 b hv).2⟩⟩
  refine ⟨⟨h.row.1, h.row.2.imp (fun h => h) (fun ⟨g, cap, cur, h1, h2, h3⟩ => ⟨g, cap, cur, h1, by omega, h3⟩)⟩, fun a ha => ⟨hr (h.acts a ha).m, hr (h.acts a ha).p, hr (h.acts a ha).t⟩⟩
/-- Two blocks of different kinds. -/
theorem blk_ne {w : World} {g g' : Nat} {cur cur' : Array Value} {e e' : TypeId} (h : w.heap[g]? = some (.cells cur e (0, 0))) (h' : w.heap[g']? = some (.cells cur' e' (0, 0))) (hne : e ≠ e') : g ≠ g' := by
  rintro rfl
  rw [h] at h'
  simp only [Option.some.injEq, Obj.cells.injEq] at h'
  exact hne h'.2.1
theorem AW.kind {w : World} {base : Nat} {a : HA} (h : AW w base a) {b : Nat} (hb : HB a b) : ∃ cur e, w.heap[b]? = some (.cells cur e (0, 0)) ∧ e ≠ 31 ∧ e ≠ 47 := by
  rcases hb with hb | hb | hb
  · obtain ⟨_, cur, h⟩ := h.m.blk hb; exact ⟨cur, _, h, by decide, by decide⟩
  · obtain ⟨_, cur, h⟩ := h.p.blk hb; exact ⟨cur, _, h, by decide, by decide⟩
  · obtain ⟨_, cur, h⟩ := h.t.blk hb; exact ⟨cur, _, h, by decide, by decide⟩
theorem OwA.blk {w : World} {base : Nat} {v : Value} {L : List HA} (h : OwA w base v L) {b : Nat} (hv : v.ownBlock = some b) : base ≤ b ∧ ∃ cur, w.heap[b]? = some (.cells cur 31 (0, 0)) := row_blk h.row hv
theorem OwA.slice {w : World} {base : Nat} {v : Value} {L : List HA} (h : OwA w base v L) : ∃ A c, v = .slice A L.length c := by
  obtain ⟨_, ⟨h1, h2⟩ | ⟨g, cap, cur, h1, _⟩⟩ := h.row
  · exact ⟨_, _, by rw [h1, h2]⟩
  · exact ⟨_, _, h1⟩
theorem actInfo8 : ∃ i, Try.prog.info? 31 = some i ∧ i.zero = some (.agg #[.int .u8 0, .int .i32 0, .int .u8 0, .int .u8 0, .slice none 0 0, .slice none 0 0, .slice none 0 0]) ∧ i.size = 7 ∧ i.bytes = 88 := by
  obtain ⟨i, h, h2⟩ := Option.map_eq_some_iff.1 (show (Try.prog.info? 31).map (fun i => (i.zero, i.size, i.bytes)) = some (some (.agg #[.int .u8 0, .int .i32 0, .int .u8 0, .int .u8 0, .slice none 0 0, .slice none 0 0, .slice none 0 0]), 7, 88) by kernel_rfl)
  simp only [Prod.mk.injEq] at h2
  exact ⟨i, h, h2⟩
/-- Actions put behind those that the call owns. -/
theorem wpList_appA {ops : Array Oper} {rest : List Oper} {o : Oper} {a : Act} {Q : Exit → Act → World → Prop} {w : World} {base base2 : Nat} (hgd : o.guard = none) (s x : Operand)
    (ho : o.op = .call { callee := .builtin .append, args := #[s, x], argTypes := #[25, 25] }) (v u : Value) (L M : List HA) (hs : a.eval s = v) (hown : OwA w base v L) (hx : a.eval x = u) (hu : OwA w base2 u M)
    (hl : L.length + M.length ≤ 1048577) (hbase : base ≤ w.heap.size) (hb2 : base ≤ base2)
    (h : ∀ v' w', OwA w' base v' (L ++ M) → w.grownBy w' v.ownBlock → (v'.ownBlock = v.ownBlock ∨ v'.ownBlock = some w.heap.size) → wpList Try.prog ops Q rest (a.put o.dst v') w') : wpList Try.prog ops Q (o :: rest) a w := by
  obtain ⟨i, hi, hz, h1, h8⟩ := actInfo8
  have hM : OwA w base u M := hu.mono hb2
  rcases hu.row.2 with ⟨e1, e2⟩ | ⟨g, cap, cur, e1, _, hh, e4, e5, e6, e7⟩
  · have hM0 : M = [] := List.eq_nil_of_length_eq_zero e2
    refine wpList_append_own_none hgd s x 25 ho base 31 i 7 Try.underlying25 hi v _ _ hs hown.row (by rw [hx, e1]) ?_
    exact h v w (by rw [hM0, List.append_nil]; exact hown) ⟨rfl, rfl, rfl, Nat.le_refl _, fun _ _ _ => rfl⟩ (.inl rfl)
  · refine wpList_append_own_at w hgd s x 25 ho base 31 i _ 7 88 Try.underlying25 hi hz h1 h8 rfl (by decide) v _ _ hs hown.row ⟨g, 0, none⟩ M.length cap (flatA M) (by rw [hx, e1]) (flatA_len M) ?_ ?_ (by unfold maxLen; omega) (by omega) hbase ?_
    · exact hu.row.cells (by rw [e1]; rfl)
    · intro y hy
      obtain ⟨b, hb, hy⟩ := List.mem_flatMap.1 hy
      have := (hu.acts b hb).one
      rw [Array.all_eq_true'] at this
      exact this y (by simpa using hy)
    · intro v' w' k1 k2 _ k4
      refine h v' w' ⟨by rw [List.length_append, flatA_app]; exact k1, fun b hb => ?_⟩ k2 k4
      have hk : AW w base b := (List.mem_append.1 hb).elim (fun hb => hown.acts b hb) (fun hb => hM.acts b hb)
      refine hk.keep fun q hq hlt => k2.block q hlt fun e => ?_
      obtain ⟨_, _, hc, hne, _⟩ := hk.kind hq
      obtain ⟨_, _, hc2⟩ := hown.blk e.symm
      exact blk_ne hc hc2 hne rfl
theorem take_neg (P base : Nat) (s : VS) (vm vp vt : Value) (c : Int) (hc : c < 0) (w : World) (h : PW w P base s vm vp vt) (ho : VOk s) (hst : s.st = 1 ∨ s.st = 5 ∨ s.st = 6) (hbase : base ≤ w.heap.size) :
    Calls Try.prog 9 #[.pointer (some ⟨P, 0, none⟩), .int .i32 c] w fun e w' => ∃ v, e = .returned v ∧ TakeOk w w' P base (takeS s c) vm vp vt v := by
  have H := Lib.hid h
  have HOK := Lib.hid ho
  have HBS := Lib.hid hbase
  have hPl := lt_of_heap h.hP
  have hneg : c < 0 := hc
  rcases hst with hk | hk | hk
  · have c0 : w.cell? ⟨P, 0, none⟩ = some (.int .u8 1) := by have : w.cell? ⟨P, 0, none⟩ = some (.int .u8 s.st) := h.cell rfl; rw [hk] at this; exact this
    have HF : Hid (TakeOk w w P base (takeS s c) vm vp vt (.slice none 0 0)) := Lib.hid (by
      have e : takeS s c = (s, []) := by unfold takeS; simp [if_pos hc, hk]
      rw [e]; exact TakeOk.no (PStep.refl h))
    clear h ho hbase hk hc
    go_enter Try.func9, Try.ntmps9
    go_wp2_with fail
    refine (there_any P base s vm vp vt w H.out HOK.out.st).mono ?_
    rintro e w1 ⟨rfl, hww⟩
    subst w1
    go_wp2_with fail
    go_ret
    exact ⟨_, rfl, HF.out⟩
  · have c0 : w.cell? ⟨P, 0, none⟩ = some (.int .u8 5) := by have : w.cell? ⟨P, 0, none⟩ = some (.int .u8 s.st) := h.cell rfl; rw [hk] at this; exact this
    have HF : Hid (TakeOk w w P base (takeS s c) vm vp vt (.slice none 0 0)) := Lib.hid (by
      have e : takeS s c = (s, []) := by unfold takeS; simp [if_pos hc, hk]
      rw [e]; exact TakeOk.no (PStep.refl h))
    clear h ho hbase hk hc
    go_enter Try.func9, Try.ntmps9
    go_wp2_with fail
    refine (there_any P base s vm vp vt w H.out HOK.out.st).mono ?_
    rintro e w1 ⟨rfl, hww⟩
    subst w1
    go_wp2_with fail
    go_ret
    exact ⟨_, rfl, HF.out⟩
  · have c0 : w.cell? ⟨P, 0, none⟩ = some (.int .u8 6) := by have : w.cell? ⟨P, 0, none⟩ = some (.int .u8 s.st) := h.cell rfl; rw [hk] at this; exact this
    have HF : Hid (TakeOk w w P base (takeS s c) vm vp vt (.slice none 0 0)) := Lib.hid (by
      have e : takeS s c = (s, []) := by unfold takeS; simp [if_pos hc, hk]
      rw [e]; exact TakeOk.no (PStep.refl h))
    clear h ho hbase hk hc
    go_enter Try.func9, Try.ntmps9
    go_wp2_with fail
    refine (there_any P base s vm vp vt w H.out HOK.out.st).mono ?_
    rintro e w1 ⟨rfl, hww⟩
    subst w1
    go_wp2_with fail
    go_ret
    exact ⟨_, rfl, HF.out⟩
theorem take_neg_esc (P base : Nat) (s : VS) (vm vp vt : Value) (c : Int) (hc : c < 0) (w : World) (h : PW w P base s vm vp vt) (ho : VOk s) (hst : s.st = 2 ∨ s.st = 3) (hbase : base ≤ w.heap.size) :
    Calls Try.prog 9 #[.pointer (some ⟨P, 0, none⟩), .int .i32 c] w fun e w' => ∃ v, e = .returned v ∧ TakeOk w w' P base (takeS s c) vm vp vt v := by
  have H := Lib.hid h
  have HOK := Lib.hid ho
  have HBS := Lib.hid hbase
  have hPl := lt_of_heap h.hP
  have hneg : c < 0 := hc
  rcases hst with hk | hk
  · have c0 : w.cell? ⟨P, 0, none⟩ = some (.int .u8 2) := by have : w.cell? ⟨P, 0, none⟩ = some (.int .u8 s.st) := h.cell rfl; rw [hk] at this; exact this
    have HE : Hid (takeS s c = escapedS s 127) := Lib.hid (by unfold takeS; simp [if_pos hc, hk])
    have HC := Lib.hid (escaped_any P base s vm vp vt 127 (by omega) w h ho (by omega) hbase)
    clear h ho hbase hk hc
    go_enter Try.func9, Try.ntmps9
    go_wp2_with fail
    refine (there_any P base s vm vp vt w H.out HOK.out.st).mono ?_
    rintro e w1 ⟨rfl, hww⟩
    subst w1
    go_wp2_with fail
    refine HC.out.mono ?_
    rintro e w9 ⟨v9, rfl, ht⟩
    have HF : Hid (TakeOk w w9 P base (takeS s c) vm vp vt v9) := Lib.hid (by rw [HE.out]; exact ht)
    clear ht
    go_wp2_with fail
    go_ret
    exact ⟨_, rfl, HF.out⟩
  · have c0 : w.cell? ⟨P, 0, none⟩ = some (.int .u8 3) := by have : w.cell? ⟨P, 0, none⟩ = some (.int .u8 s.st) := h.cell rfl; rw [hk] at this; exact this
    have HE : Hid (takeS s c = escapedS s 127) := Lib.hid (by unfold takeS; simp [if_pos hc, hk])
    have HC := Lib.hid (escaped_any P base s vm vp vt 127 (by omega) w h ho (by omega) hbase)
    clear h ho hbase hk hc
    go_enter Try.func9, Try.ntmps9
    go_wp2_with fail
    refine (there_any P base s vm vp vt w H.out HOK.out.st).mono ?_
    rintro e w1 ⟨rfl, hww⟩
    subst w1
    go_wp2_with fail
    refine HC.out.mono ?_
    rintro e w9 ⟨v9, rfl, ht⟩
    have HF : Hid (TakeOk w w9 P base (takeS s c) vm vp vt v9) := Lib.hid (by rw [HE.out]; exact ht)
    clear ht
    go_wp2_with fail
    go_ret
    exact ⟨_, rfl, HF.out⟩
theorem take_neg_csi (P base : Nat) (s : VS) (vm vp vt : Value) (c : Int) (hc : c < 0) (w : World) (h : PW w P base s vm vp vt) (ho : VOk s) (hst : s.st = 4) (hbase : base ≤ w.heap.size) :
    Calls Try.prog 9 #[.pointer (some ⟨P, 0, none⟩), .int .i32 c] w fun e w' => ∃ v, e = .returned v ∧ TakeOk w w' P base (takeS s c) vm vp vt v := by
  have H := Lib.hid h
  have HOK := Lib.hid ho
  have HBS := Lib.hid hbase
  have hPl := lt_of_heap h.hP
  have hneg : c < 0 := hc
  have hk : s.st = 4 := hst
  have c0 : w.cell? ⟨P, 0, none⟩ = some (.int .u8 4) := by have : w.cell? ⟨P, 0, none⟩ = some (.int .u8 s.st) := h.cell rfl; rw [hk] at this; exact this
  have HE : Hid (takeS s c = controlS s 127) := Lib.hid (by unfold takeS; simp [if_pos hc, hk])
  have HC := Lib.hid (control_any P base s vm vp vt 127 (by omega) w h ho hbase)
  clear h ho hbase hk hc
  go_enter Try.func9, Try.ntmps9
  go_wp2_with fail
  refine (there_any P base s vm vp vt w H.out HOK.out.st).mono ?_
  rintro e w1 ⟨rfl, hww⟩
  subst w1
  go_wp2_with fail
  refine HC.out.mono ?_
  rintro e w9 ⟨v9, rfl, ht⟩
  have HF : Hid (TakeOk w w9 P base (takeS s c) vm vp vt v9) := Lib.hid (by rw [HE.out]; exact ht)
  clear ht
  go_wp2_with fail
  go_ret
  exact ⟨_, rfl, HF.out⟩
theorem take_can (P base : Nat) (s : VS) (vm vp vt : Value) (c : Int) (hc : c = 24) (w : World) (h : PW w P base s vm vp vt) (ho : VOk s) (hst : s.st = 1 ∨ s.st = 2 ∨ s.st = 3 ∨ s.st = 4 ∨ s.st = 5 ∨ s.st = 6) (hbase : base ≤ w.heap.size) :
    Calls Try.prog 9 #[.pointer (some ⟨P, 0, none⟩), .int .i32 c] w fun e w' => ∃ v, e = .returned v ∧ TakeOk w w' P base (takeS s c) vm vp vt v := by
  obtain rfl : c = 24 := hc
  have H := Lib.hid h
  have HOK := Lib.hid ho
  have HBS := Lib.hid hbase
  have hPl := lt_of_heap h.hP
  rcases hst with hk | hk | hk | hk | hk | hk
  · have c0 : w.cell? ⟨P, 0, none⟩ = some (.int .u8 1) := by have : w.cell? ⟨P, 0, none⟩ = some (.int .u8 s.st) := h.cell rfl; rw [hk] at this; exact this
    have HE : Hid (takeS s 24 = (freshS 1, [])) := Lib.hid (by unfold takeS; simp [hk])
    clear h ho hbase hk
    go_enter Try.func9, Try.ntmps9
    go_wp2_with fail
    refine (there_any P base s vm vp vt w H.out HOK.out.st).mono ?_
    rintro e w1 ⟨rfl, hww⟩
    subst w1
    go_wp2_with fail
    refine (to_any P base 1 s vm vp vt w H.out).mono ?_
    rintro e w2 ⟨rfl, hp, hI⟩
    have HF : Hid (TakeOk w w2 P base (takeS s 24) vm vp vt (.slice none 0 0)) := Lib.hid (by rw [HE.out]; exact TakeOk.no (PStep.to hp hI))
    clear hp hI
    go_wp2_with fail
    go_ret
    exact ⟨_, rfl, HF.out⟩
  · have c0 : w.cell? ⟨P, 0, none⟩ = some (.int .u8 2) := by have : w.cell? ⟨P, 0, none⟩ = some (.int .u8 s.st) := h.cell rfl; rw [hk] at this; exact this
    have HE : Hid (takeS s 24 = (freshS 1, [])) := Lib.hid (by unfold takeS; simp [hk])
    clear h ho hbase hk
    go_enter Try.func9, Try.ntmps9
    go_wp2_with fail
    refine (there_any P base s vm vp vt w H.out HOK.out.st).mono ?_
    rintro e w1 ⟨rfl, hww⟩
    subst w1
    go_wp2_with fail
    refine (to_any P base 1 s vm vp vt w H.out).mono ?_
    rintro e w2 ⟨rfl, hp, hI⟩
    have HF : Hid (TakeOk w w2 P base (takeS s 24) vm vp vt (.slice none 0 0)) := Lib.hid (by rw [HE.out]; exact TakeOk.no (PStep.to hp hI))
    clear hp hI
    go_wp2_with fail
    go_ret
    exact ⟨_, rfl, HF.out⟩
  · have c0 : w.cell? ⟨P, 0, none⟩ = some (.int .u8 3) := by have : w.cell? ⟨P, 0, none⟩ = some (.int .u8 s.st) := h.cell rfl; rw [hk] at this; exact this
    have HE : Hid (takeS s 24 = (freshS 1, [])) := Lib.hid (by unfold takeS; simp [hk])
    clear h ho hbase hk
    go_enter Try.func9, Try.ntmps9
    go_wp2_with fail
    refine (there_any P base s vm vp vt w H.out HOK.out.st).mono ?_
    rintro e w1 ⟨rfl, hww⟩
    subst w1
    go_wp2_with fail
    refine (to_any P base 1 s vm vp vt w H.out).mono ?_
    rintro e w2 ⟨rfl, hp, hI⟩
    have HF : Hid (TakeOk w w2 P base (takeS s 24) vm vp vt (.slice none 0 0)) := Lib.hid (by rw [HE.out]; exact TakeOk.no (PStep.to hp hI))
    clear hp hI
    go_wp2_with fail
    go_ret
    exact ⟨_, rfl, HF.out⟩
  · have c0 : w.cell? ⟨P, 0, none⟩ = some (.int .u8 4) := by have : w.cell? ⟨P, 0, none⟩ = some (.int .u8 s.st) := h.cell rfl; rw [hk] at this; exact this
    have HE : Hid (takeS s 24 = (freshS 1, [])) := Lib.hid (by unfold takeS; simp [hk])
    clear h ho hbase hk
    go_enter Try.func9, Try.ntmps9
    go_wp2_with fail
    refine (there_any P base s vm vp vt w H.out HOK.out.st).mono ?_
    rintro e w1 ⟨rfl, hww⟩
    subst w1
    go_wp2_with fail
    refine (to_any P base 1 s vm vp vt w H.out).mono ?_
    rintro e w2 ⟨rfl, hp, hI⟩
    have HF : Hid (TakeOk w w2 P base (takeS s 24) vm vp vt (.slice none 0 0)) := Lib.hid (by rw [HE.out]; exact TakeOk.no (PStep.to hp hI))
    clear hp hI
    go_wp2_with fail
    go_ret
    exact ⟨_, rfl, HF.out⟩
  · have c0 : w.cell? ⟨P, 0, none⟩ = some (.int .u8 5) := by have : w.cell? ⟨P, 0, none⟩ = some (.int .u8 s.st) := h.cell rfl; rw [hk] at this; exact this
    have HE : Hid (takeS s 24 = (freshS 1, [])) := Lib.hid (by unfold takeS; simp [hk])
    clear h ho hbase hk
    go_enter Try.func9, Try.ntmps9
    go_wp2_with fail
    refine (there_any P base s vm vp vt w H.out HOK.out.st).mono ?_
    rintro e w1 ⟨rfl, hww⟩
    subst w1
    go_wp2_with fail
    refine (to_any P base 1 s vm vp vt w H.out).mono ?_
    rintro e w2 ⟨rfl, hp, hI⟩
    have HF : Hid (TakeOk w w2 P base (takeS s 24) vm vp vt (.slice none 0 0)) := Lib.hid (by rw [HE.out]; exact TakeOk.no (PStep.to hp hI))
    clear hp hI
    go_wp2_with fail
    go_ret
    exact ⟨_, rfl, HF.out⟩
  · have c0 : w.cell? ⟨P, 0, none⟩ = some (.int .u8 6) := by have : w.cell? ⟨P, 0, none⟩ = some (.int .u8 s.st) := h.cell rfl; rw [hk] at this; exact this
    have HE : Hid (takeS s 24 = (freshS 1, [])) := Lib.hid (by unfold takeS; simp [hk])
    clear h ho hbase hk
    go_enter Try.func9, Try.ntmps9
    go_wp2_with fail
    refine (there_any P base s vm vp vt w H.out HOK.out.st).mono ?_
    rintro e w1 ⟨rfl, hww⟩
    subst w1
    go_wp2_with fail
    refine (to_any P base 1 s vm vp vt w H.out).mono ?_
    rintro e w2 ⟨rfl, hp, hI⟩
    have HF : Hid (TakeOk w w2 P base (takeS s 24) vm vp vt (.slice none 0 0)) := Lib.hid (by rw [HE.out]; exact TakeOk.no (PStep.to hp hI))
    clear hp hI
    go_wp2_with fail
    go_ret
    exact ⟨_, rfl, HF.out⟩
theorem take_sub (P base : Nat) (s : VS) (vm vp vt : Value) (c : Int) (hc : c = 26) (w : World) (h : PW w P base s vm vp vt) (ho : VOk s) (hst : s.st = 1 ∨ s.st = 2 ∨ s.st = 3 ∨ s.st = 4 ∨ s.st = 5 ∨ s.st = 6) (hbase : base ≤ w.heap.size) :
    Calls Try.prog 9 #[.pointer (some ⟨P, 0, none⟩), .int .i32 c] w fun e w' => ∃ v, e = .returned v ∧ TakeOk w w' P base (takeS s c) vm vp vt v := by
  obtain rfl : c = 26 := hc
  have H := Lib.hid h
  have HOK := Lib.hid ho
  have HBS := Lib.hid hbase
  have hPl := lt_of_heap h.hP
  rcases hst with hk | hk | hk | hk | hk | hk
  · have c0 : w.cell? ⟨P, 0, none⟩ = some (.int .u8 1) := by have : w.cell? ⟨P, 0, none⟩ = some (.int .u8 s.st) := h.cell rfl; rw [hk] at this; exact this
    have HE : Hid (takeS s 26 = (freshS 1, [])) := Lib.hid (by unfold takeS; simp [hk])
    clear h ho hbase hk
    go_enter Try.func9, Try.ntmps9
    go_wp2_with fail
    refine (there_any P base s vm vp vt w H.out HOK.out.st).mono ?_
    rintro e w1 ⟨rfl, hww⟩
    subst w1
    go_wp2_with fail
    refine (to_any P base 1 s vm vp vt w H.out).mono ?_
    rintro e w2 ⟨rfl, hp, hI⟩
    have HF : Hid (TakeOk w w2 P base (takeS s 26) vm vp vt (.slice none 0 0)) := Lib.hid (by rw [HE.out]; exact TakeOk.no (PStep.to hp hI))
    clear hp hI
    go_wp2_with fail
    go_ret
    exact ⟨_, rfl, HF.out⟩
  · have c0 : w.cell? ⟨P, 0, none⟩ = some (.int .u8 2) := by have : w.cell? ⟨P, 0, none⟩ = some (.int .u8 s.st) := h.cell rfl; rw [hk] at this; exact this
    have HE : Hid (takeS s 26 = (freshS 1, [])) := Lib.hid (by unfold takeS; simp [hk])
    clear h ho hbase hk
    go_enter Try.func9, Try.ntmps9
    go_wp2_with fail
    refine (there_any P base s vm vp vt w H.out HOK.out.st).mono ?_
    rintro e w1 ⟨rfl, hww⟩
    subst w1
    go_wp2_with fail
    refine (to_any P base 1 s vm vp vt w H.out).mono ?_
    rintro e w2 ⟨rfl, hp, hI⟩
    have HF : Hid (TakeOk w w2 P base (takeS s 26) vm vp vt (.slice none 0 0)) := Lib.hid (by rw [HE.out]; exact TakeOk.no (PStep.to hp hI))
    clear hp hI
    go_wp2_with fail
    go_ret
    exact ⟨_, rfl, HF.out⟩
  · have c0 : w.cell? ⟨P, 0, none⟩ = some (.int .u8 3) := by have : w.cell? ⟨P, 0, none⟩ = some (.int .u8 s.st) := h.cell rfl; rw [hk] at this; exact this
    have HE : Hid (takeS s 26 = (freshS 1, [])) := Lib.hid (by unfold takeS; simp [hk])
    clear h ho hbase hk
    go_enter Try.func9, Try.ntmps9
    go_wp2_with fail
    refine (there_any P base s vm vp vt w H.out HOK.out.st).mono ?_
    rintro e w1 ⟨rfl, hww⟩
    subst w1
    go_wp2_with fail
    refine (to_any P base 1 s vm vp vt w H.out).mono ?_
    rintro e w2 ⟨rfl, hp, hI⟩
    have HF : Hid (TakeOk w w2 P base (takeS s 26) vm vp vt (.slice none 0 0)) := Lib.hid (by rw [HE.out]; exact TakeOk.no (PStep.to hp hI))
    clear hp hI
    go_wp2_with fail
    go_ret
    exact ⟨_, rfl, HF.out⟩
  · have c0 : w.cell? ⟨P, 0, none⟩ = some (.int .u8 4) := by have : w.cell? ⟨P, 0, none⟩ = some (.int .u8 s.st) := h.cell rfl; rw [hk] at this; exact this
    have HE : Hid (takeS s 26 = (freshS 1, [])) := Lib.hid (by unfold takeS; simp [hk])
    clear h ho hbase hk
    go_enter Try.func9, Try.ntmps9
    go_wp2_with fail
    refine (there_any P base s vm vp vt w H.out HOK.out.st).mono ?_
    rintro e w1 ⟨rfl, hww⟩
    subst w1
    go_wp2_with fail
    refine (to_any P base 1 s vm vp vt w H.out).mono ?_
    rintro e w2 ⟨rfl, hp, hI⟩
    have HF : Hid (TakeOk w w2 P base (takeS s 26) vm vp vt (.slice none 0 0)) := Lib.hid (by rw [HE.out]; exact TakeOk.no (PStep.to hp hI))
    clear hp hI
    go_wp2_with fail
    go_ret
    exact ⟨_, rfl, HF.out⟩
  · have c0 : w.cell? ⟨P, 0, none⟩ = some (.int .u8 5) := by have : w.cell? ⟨P, 0, none⟩ = some (.int .u8 s.st) := h.cell rfl; rw [hk] at this; exact this
    have HE : Hid (takeS s 26 = (freshS 1, [])) := Lib.hid (by unfold takeS; simp [hk])
    clear h ho hbase hk
    go_enter Try.func9, Try.ntmps9
    go_wp2_with fail
    refine (there_any P base s vm vp vt w H.out HOK.out.st).mono ?_
    rintro e w1 ⟨rfl, hww⟩
    subst w1
    go_wp2_with fail
    refine (to_any P base 1 s vm vp vt w H.out).mono ?_
    rintro e w2 ⟨rfl, hp, hI⟩
    have HF : Hid (TakeOk w w2 P base (takeS s 26) vm vp vt (.slice none 0 0)) := Lib.hid (by rw [HE.out]; exact TakeOk.no (PStep.to hp hI))
    clear hp hI
    go_wp2_with fail
    go_ret
    exact ⟨_, rfl, HF.out⟩
  · have c0 : w.cell? ⟨P, 0, none⟩ = some (.int .u8 6) := by have : w.cell? ⟨P, 0, none⟩ = some (.int .u8 s.st) := h.cell rfl; rw [hk] at this; exact this
    have HE : Hid (takeS s 26 = (freshS 1, [])) := Lib.hid (by unfold takeS; simp [hk])
    clear h ho hbase hk
    go_enter Try.func9, Try.ntmps9
    go_wp2_with fail
    refine (there_any P base s vm vp vt w H.out HOK.out.st).mono ?_
    rintro e w1 ⟨rfl, hww⟩
    subst w1
    go_wp2_with fail
    refine (to_any P base 1 s vm vp vt w H.out).mono ?_
    rintro e w2 ⟨rfl, hp, hI⟩
    have HF : Hid (TakeOk w w2 P base (takeS s 26) vm vp vt (.slice none 0 0)) := Lib.hid (by rw [HE.out]; exact TakeOk.no (PStep.to hp hI))
    clear hp hI
    go_wp2_with fail
    go_ret
    exact ⟨_, rfl, HF.out⟩
theorem take_esc (P base : Nat) (s : VS) (vm vp vt : Value) (c : Int) (hc : c = 27) (w : World) (h : PW w P base s vm vp vt) (ho : VOk s) (hst : s.st = 1 ∨ s.st = 2 ∨ s.st = 3 ∨ s.st = 4 ∨ s.st = 6) (hbase : base ≤ w.heap.size) :
    Calls Try.prog 9 #[.pointer (some ⟨P, 0, none⟩), .int .i32 c] w fun e w' => ∃ v, e = .returned v ∧ TakeOk w w' P base (takeS s c) vm vp vt v := by
  obtain rfl : c = 27 := hc
  have H := Lib.hid h
  have HOK := Lib.hid ho
  have HBS := Lib.hid hbase
  have hPl := lt_of_heap h.hP
  rcases hst with hk | hk | hk | hk | hk
  · have c0 : w.cell? ⟨P, 0, none⟩ = some (.int .u8 1) := by have : w.cell? ⟨P, 0, none⟩ = some (.int .u8 s.st) := h.cell rfl; rw [hk] at this; exact this
    have HE : Hid (takeS s 27 = (freshS 2, [])) := Lib.hid (by unfold takeS; simp [hk])
    clear h ho hbase hk
    go_enter Try.func9, Try.ntmps9
    go_wp2_with fail
    refine (there_any P base s vm vp vt w H.out HOK.out.st).mono ?_
    rintro e w1 ⟨rfl, hww⟩
    subst w1
    go_wp2_with fail
    refine (to_any P base 1 s vm vp vt w H.out).mono ?_
    rintro e w2 ⟨rfl, hp, hI⟩
    have HP2 := Lib.hid hp
    have HI2 := Lib.hid hI
    clear hp hI
    go_wp2_with fail
    refine (to_any P base 2 _ _ _ _ w2 HP2.out).mono ?_
    rintro e w9 ⟨rfl, hp, hI⟩
    have HF : Hid (TakeOk w w9 P base (takeS s 27) vm vp vt (.slice none 0 0)) := Lib.hid (by rw [HE.out]; exact TakeOk.no (PStep.then (HI2.out.wide fun g hg => .inl hg) (fun g hg => .inl (.inl (pb_nil hg))) (PStep.to hp hI)))
    clear hp hI
    go_wp2_with fail
    go_ret
    exact ⟨_, rfl, HF.out⟩
  · have c0 : w.cell? ⟨P, 0, none⟩ = some (.int .u8 2) := by have : w.cell? ⟨P, 0, none⟩ = some (.int .u8 s.st) := h.cell rfl; rw [hk] at this; exact this
    have HE : Hid (takeS s 27 = (freshS 2, [])) := Lib.hid (by unfold takeS; simp [hk])
    clear h ho hbase hk
    go_enter Try.func9, Try.ntmps9
    go_wp2_with fail
    refine (there_any P base s vm vp vt w H.out HOK.out.st).mono ?_
    rintro e w1 ⟨rfl, hww⟩
    subst w1
    go_wp2_with fail
    refine (to_any P base 1 s vm vp vt w H.out).mono ?_
    rintro e w2 ⟨rfl, hp, hI⟩
    have HP2 := Lib.hid hp
    have HI2 := Lib.hid hI
    clear hp hI
    go_wp2_with fail
    refine (to_any P base 2 _ _ _ _ w2 HP2.out).mono ?_
    rintro e w9 ⟨rfl, hp, hI⟩
    have HF : Hid (TakeOk w w9 P base (takeS s 27) vm vp vt (.slice none 0 0)) := Lib.hid (by rw [HE.out]; exact TakeOk.no (PStep.then (HI2.out.wide fun g hg => .inl hg) (fun g hg => .inl (.inl (pb_nil hg))) (PStep.to hp hI)))
    clear hp hI
    go_wp2_with fail
    go_ret
    exact ⟨_, rfl, HF.out⟩
  · have c0 : w.cell? ⟨P, 0, none⟩ = some (.int .u8 3) := by have : w.cell? ⟨P, 0, none⟩ = some (.int .u8 s.st) := h.cell rfl; rw [hk] at this; exact this
    have HE : Hid (takeS s 27 = (freshS 2, [])) := Lib.hid (by unfold takeS; simp [hk])
    clear h ho hbase hk
    go_enter Try.func9, Try.ntmps9
    go_wp2_with fail
    refine (there_any P base s vm vp vt w H.out HOK.out.st).mono ?_
    rintro e w1 ⟨rfl, hww⟩
    subst w1
    go_wp2_with fail
    refine (to_any P base 1 s vm vp vt w H.out).mono ?_
    rintro e w2 ⟨rfl, hp, hI⟩
    have HP2 := Lib.hid hp
    have HI2 := Lib.hid hI
    clear hp hI
    go_wp2_with fail
    refine (to_any P base 2 _ _ _ _ w2 HP2.out).mono ?_
    rintro e w9 ⟨rfl, hp, hI⟩
    have HF : Hid (TakeOk w w9 P base (takeS s 27) vm vp vt (.slice none 0 0)) := Lib.hid (by rw [HE.out]; exact TakeOk.no (PStep.then (HI2.out.wide fun g hg => .inl hg) (fun g hg => .inl (.inl (pb_nil hg))) (PStep.to hp hI)))
    clear hp hI
    go_wp2_with fail
    go_ret
    exact ⟨_, rfl, HF.out⟩
  · have c0 : w.cell? ⟨P, 0, none⟩ = some (.int .u8 4) := by have : w.cell? ⟨P, 0, none⟩ = some (.int .u8 s.st) := h.cell rfl; rw [hk] at this; exact this
    have HE : Hid (takeS s 27 = (freshS 2, [])) := Lib.hid (by unfold takeS; simp [hk])
    clear h ho hbase hk
    go_enter Try.func9, Try.ntmps9
    go_wp2_with fail
    refine (there_any P base s vm vp vt w H.out HOK.out.st).mono ?_
    rintro e w1 ⟨rfl, hww⟩
    subst w1
    go_wp2_with fail
    refine (to_any P base 1 s vm vp vt w H.out).mono ?_
    rintro e w2 ⟨rfl, hp, hI⟩
    have HP2 := Lib.hid hp
    have HI2 := Lib.hid hI
    clear hp hI
    go_wp2_with fail
    refine (to_any P base 2 _ _ _ _ w2 HP2.out).mono ?_
    rintro e w9 ⟨rfl, hp, hI⟩
    have HF : Hid (TakeOk w w9 P base (takeS s 27) vm vp vt (.slice none 0 0)) := Lib.hid (by rw [HE.out]; exact TakeOk.no (PStep.then (HI2.out.wide fun g hg => .inl hg) (fun g hg => .inl (.inl (pb_nil hg))) (PStep.to hp hI)))
    clear hp hI
    go_wp2_with fail
    go_ret
    exact ⟨_, rfl, HF.out⟩
  · have c0 : w.cell? ⟨P, 0, none⟩ = some (.int .u8 6) := by have : w.cell? ⟨P, 0, none⟩ = some (.int .u8 s.st) := h.cell rfl; rw [hk] at this; exact this
    have HE : Hid (takeS s 27 = (freshS 2, [])) := Lib.hid (by unfold takeS; simp [hk])
    clear h ho hbase hk
    go_enter Try.func9, Try.ntmps9
    go_wp2_with fail
    refine (there_any P base s vm vp vt w H.out HOK.out.st).mono ?_
    rintro e w1 ⟨rfl, hww⟩
    subst w1
    go_wp2_with fail
    refine (to_any P base 1 s vm vp vt w H.out).mono ?_
    rintro e w2 ⟨rfl, hp, hI⟩
    have HP2 := Lib.hid hp
    have HI2 := Lib.hid hI
    clear hp hI
    go_wp2_with fail
    refine (to_any P base 2 _ _ _ _ w2 HP2.out).mono ?_
    rintro e w9 ⟨rfl, hp, hI⟩
    have HF : Hid (TakeOk w w9 P base (takeS s 27) vm vp vt (.slice none 0 0)) := Lib.hid (by rw [HE.out]; exact TakeOk.no (PStep.then (HI2.out.wide fun g hg => .inl hg) (fun g hg => .inl (.inl (pb_nil hg))) (PStep.to hp hI)))
    clear hp hI
    go_wp2_with fail
    go_ret
    exact ⟨_, rfl, HF.out⟩
theorem take_exec (P base : Nat) (s : VS) (vm vp vt : Value) (c : Int) (hc : 0 ≤ c ∧ c < 32 ∧ c ≠ 27 ∧ c ≠ 24 ∧ c ≠ 26) (w : World) (h : PW w P base s vm vp vt) (ho : VOk s) (hst : s.st = 1 ∨ s.st = 2 ∨ s.st = 3 ∨ s.st = 4) (hbase : base ≤ w.heap.size) :
    Calls Try.prog 9 #[.pointer (some ⟨P, 0, none⟩), .int .i32 c] w fun e w' => ∃ v, e = .returned v ∧ TakeOk w w' P base (takeS s c) vm vp vt v := by
  have H := Lib.hid h
  have HOK := Lib.hid ho
  have HBS := Lib.hid hbase
  have hPl := lt_of_heap h.hP
  have hneg : ¬ c < 0 := by omega
  have hne27 : (c == 27) = false := by simp; omega
  have hne24 : (c == 24) = false := by simp; omega
  have hne26 : (c == 26) = false := by simp; omega
  have h32 : c < 32 := by omega
  rcases hst with hk | hk | hk | hk
  · have c0 : w.cell? ⟨P, 0, none⟩ = some (.int .u8 1) := by have : w.cell? ⟨P, 0, none⟩ = some (.int .u8 s.st) := h.cell rfl; rw [hk] at this; exact this
    have HF : Hid (TakeOk w (w.alloc (.cells #[.int .u8 2, .int .i32 c, .int .u8 0, .int .u8 0, .slice none 0 0, .slice none 0 0, .slice none 0 0] 31)) P base (takeS s c) vm vp vt (.slice (some ⟨w.heap.size, 0, none⟩) 1 1)) := Lib.hid (by
      have e : takeS s c = (s, [⟨2, c, 0, 0, [], [], []⟩]) := by unfold takeS; rw [if_neg (show ¬ c < 0 by omega)]; simp only []; rw [if_neg (by omega)]; rw [if_pos (by omega)]
      rw [e]; exact TakeOk.plain (a := ⟨2, c, 0, 0, .slice none 0 0, .slice none 0 0, .slice none 0 0, [], [], []⟩) h ⟨rfl, rfl, rfl, rfl, rfl, rfl⟩ hbase)
    have hz : ∀ w, (zeroValue 31).run Try.prog w = .ok (.agg #[.int .u8 0, .int .i32 0, .int .u8 0, .int .u8 0, .slice none 0 0, .slice none 0 0, .slice none 0 0]) w := zero_act
    clear h ho hbase hk hc
    go_enter Try.func9, Try.ntmps9
    go_wp2_with fail
    refine (there_any P base s vm vp vt w H.out HOK.out.st).mono ?_
    rintro e w1 ⟨rfl, hww⟩
    subst w1
    go_wp2_with fail
    go_ret
    exact ⟨_, rfl, HF.out⟩
  · have c0 : w.cell? ⟨P, 0, none⟩ = some (.int .u8 2) := by have : w.cell? ⟨P, 0, none⟩ = some (.int .u8 s.st) := h.cell rfl; rw [hk] at this; exact this
    have HF : Hid (TakeOk w (w.alloc (.cells #[.int .u8 2, .int .i32 c, .int .u8 0, .int .u8 0, .slice none 0 0, .slice none 0 0, .slice none 0 0] 31)) P base (takeS s c) vm vp vt (.slice (some ⟨w.heap.size, 0, none⟩) 1 1)) := Lib.hid (by
      have e : takeS s c = (s, [⟨2, c, 0, 0, [], [], []⟩]) := by unfold takeS; rw [if_neg (show ¬ c < 0 by omega)]; simp only []; rw [if_neg (by omega)]; rw [if_pos (by omega)]
      rw [e]; exact TakeOk.plain (a := ⟨2, c, 0, 0, .slice none 0 0, .slice none 0 0, .slice none 0 0, [], [], []⟩) h ⟨rfl, rfl, rfl, rfl, rfl, rfl⟩ hbase)
    have hz : ∀ w, (zeroValue 31).run Try.prog w = .ok (.agg #[.int .u8 0, .int .i32 0, .int .u8 0, .int .u8 0, .slice none 0 0, .slice none 0 0, .slice none 0 0]) w := zero_act
    clear h ho hbase hk hc
    go_enter Try.func9, Try.ntmps9
    go_wp2_with fail
    refine (there_any P base s vm vp vt w H.out HOK.out.st).mono ?_
    rintro e w1 ⟨rfl, hww⟩
    subst w1
    go_wp2_with fail
    go_ret
    exact ⟨_, rfl, HF.out⟩
  · have c0 : w.cell? ⟨P, 0, none⟩ = some (.int .u8 3) := by have : w.cell? ⟨P, 0, none⟩ = some (.int .u8 s.st) := h.cell rfl; rw [hk] at this; exact this
    have HF : Hid (TakeOk w (w.alloc (.cells #[.int .u8 2, .int .i32 c, .int .u8 0, .int .u8 0, .slice none 0 0, .slice none 0 0, .slice none 0 0] 31)) P base (takeS s c) vm vp vt (.slice (some ⟨w.heap.size, 0, none⟩) 1 1)) := Lib.hid (by
      have e : takeS s c = (s, [⟨2, c, 0, 0, [], [], []⟩]) := by unfold takeS; rw [if_neg (show ¬ c < 0 by omega)]; simp only []; rw [if_neg (by omega)]; rw [if_pos (by omega)]
      rw [e]; exact TakeOk.plain (a := ⟨2, c, 0, 0, .slice none 0 0, .slice none 0 0, .slice none 0 0, [], [], []⟩) h ⟨rfl, rfl, rfl, rfl, rfl, rfl⟩ hbase)
    have hz : ∀ w, (zeroValue 31).run Try.prog w = .ok (.agg #[.int .u8 0, .int .i32 0, .int .u8 0, .int .u8 0, .slice none 0 0, .slice none 0 0, .slice none 0 0]) w := zero_act
    clear h ho hbase hk hc
    go_enter Try.func9, Try.ntmps9
    go_wp2_with fail
    refine (there_any P base s vm vp vt w H.out HOK.out.st).mono ?_
    rintro e w1 ⟨rfl, hww⟩
    subst w1
    go_wp2_with fail
    go_ret
    exact ⟨_, rfl, HF.out⟩
  · have c0 : w.cell? ⟨P, 0, none⟩ = some (.int .u8 4) := by have : w.cell? ⟨P, 0, none⟩ = some (.int .u8 s.st) := h.cell rfl; rw [hk] at this; exact this
    have HF : Hid (TakeOk w (w.alloc (.cells #[.int .u8 2, .int .i32 c, .int .u8 0, .int .u8 0, .slice none 0 0, .slice none 0 0, .slice none 0 0] 31)) P base (takeS s c) vm vp vt (.slice (some ⟨w.heap.size, 0, none⟩) 1 1)) := Lib.hid (by
      have e : takeS s c = (s, [⟨2, c, 0, 0, [], [], []⟩]) := by unfold takeS; rw [if_neg (show ¬ c < 0 by omega)]; simp only []; rw [if_neg (by omega)]; rw [if_pos (by omega)]
      rw [e]; exact TakeOk.plain (a := ⟨2, c, 0, 0, .slice none 0 0, .slice none 0 0, .slice none 0 0, [], [], []⟩) h ⟨rfl, rfl, rfl, rfl, rfl, rfl⟩ hbase)
    have hz : ∀ w, (zeroValue 31).run Try.prog w = .ok (.agg #[.int .u8 0, .int .i32 0, .int .u8 0, .int .u8 0, .slice none 0 0, .slice none 0 0, .slice none 0 0]) w := zero_act
    clear h ho hbase hk hc
    go_enter Try.func9, Try.ntmps9
    go_wp2_with fail
    refine (there_any P base s vm vp vt w H.out HOK.out.st).mono ?_
    rintro e w1 ⟨rfl, hww⟩
    subst w1
    go_wp2_with fail
    go_ret
    exact ⟨_, rfl, HF.out⟩
theorem take_print (P base : Nat) (s : VS) (vm vp vt : Value) (c : Int) (hc : 32 ≤ c ∧ c < 127) (w : World) (h : PW w P base s vm vp vt) (ho : VOk s) (hst : s.st = 1) (hbase : base ≤ w.heap.size) :
    Calls Try.prog 9 #[.pointer (some ⟨P, 0, none⟩), .int .i32 c] w fun e w' => ∃ v, e = .returned v ∧ TakeOk w w' P base (takeS s c) vm vp vt v := by
  have H := Lib.hid h
  have HOK := Lib.hid ho
  have HBS := Lib.hid hbase
  have hPl := lt_of_heap h.hP
  have hneg : ¬ c < 0 := by omega
  have hne27 : (c == 27) = false := by simp; omega
  have hne24 : (c == 24) = false := by simp; omega
  have hne26 : (c == 26) = false := by simp; omega
  have h32 : ¬ c < 32 := by omega
  have h127 : c < 127 := by omega
  have hk : s.st = 1 := hst
  have c0 : w.cell? ⟨P, 0, none⟩ = some (.int .u8 1) := by have : w.cell? ⟨P, 0, none⟩ = some (.int .u8 s.st) := h.cell rfl; rw [hk] at this; exact this
  have HF : Hid (TakeOk w (w.alloc (.cells #[.int .u8 1, .int .i32 c, .int .u8 0, .int .u8 0, .slice none 0 0, .slice none 0 0, .slice none 0 0] 31)) P base (takeS s c) vm vp vt (.slice (some ⟨w.heap.size, 0, none⟩) 1 1)) := Lib.hid (by
    have e : takeS s c = (s, [⟨1, c, 0, 0, [], [], []⟩]) := by unfold takeS; rw [if_neg (show ¬ c < 0 by omega)]; simp only []; rw [if_neg (by omega)]; rw [if_neg (by omega)]; rw [if_pos hk, if_pos (by omega)]
    rw [e]; exact TakeOk.plain (a := ⟨1, c, 0, 0, .slice none 0 0, .slice none 0 0, .slice none 0 0, [], [], []⟩) h ⟨rfl, rfl, rfl, rfl, rfl, rfl⟩ hbase)
  have hz : ∀ w, (zeroValue 31).run Try.prog w = .ok (.agg #[.int .u8 0, .int .i32 0, .int .u8 0, .int .u8 0, .slice none 0 0, .slice none 0 0, .slice none 0 0]) w := zero_act
  clear h ho hbase hk hc
  go_enter Try.func9, Try.ntmps9
  go_wp2_with fail
  refine (there_any P base s vm vp vt w H.out HOK.out.st).mono ?_
  rintro e w1 ⟨rfl, hww⟩
  subst w1
  go_wp2_with fail
  go_ret
  exact ⟨_, rfl, HF.out⟩
theorem take_print2 (P base : Nat) (s : VS) (vm vp vt : Value) (c : Int) (hc : 160 ≤ c) (w : World) (h : PW w P base s vm vp vt) (ho : VOk s) (hst : s.st = 1) (hbase : base ≤ w.heap.size) :
    Calls Try.prog 9 #[.pointer (some ⟨P, 0, none⟩), .int .i32 c] w fun e w' => ∃ v, e = .returned v ∧ TakeOk w w' P base (takeS s c) vm vp vt v := by
  have H := Lib.hid h
  have HOK := Lib.hid ho
  have HBS := Lib.hid hbase
  have hPl := lt_of_heap h.hP
  have hneg : ¬ c < 0 := by omega
  have hne27 : (c == 27) = false := by simp; omega
  have hne24 : (c == 24) = false := by simp; omega
  have hne26 : (c == 26) = false := by simp; omega
  have h32 : ¬ c < 32 := by omega
  have h127 : ¬ c < 127 := by omega
  have h160 : 160 ≤ c := by omega
  have hk : s.st = 1 := hst
  have c0 : w.cell? ⟨P, 0, none⟩ = some (.int .u8 1) := by have : w.cell? ⟨P, 0, none⟩ = some (.int .u8 s.st) := h.cell rfl; rw [hk] at this; exact this
  have HF : Hid (TakeOk w (w.alloc (.cells #[.int .u8 1, .int .i32 c, .int .u8 0, .int .u8 0, .slice none 0 0, .slice none 0 0, .slice none 0 0] 31)) P base (takeS s c) vm vp vt (.slice (some ⟨w.heap.size, 0, none⟩) 1 1)) := Lib.hid (by
    have e : takeS s c = (s, [⟨1, c, 0, 0, [], [], []⟩]) := by unfold takeS; rw [if_neg (show ¬ c < 0 by omega)]; simp only []; rw [if_neg (by omega)]; rw [if_neg (by omega)]; rw [if_pos hk, if_pos (by omega)]
    rw [e]; exact TakeOk.plain (a := ⟨1, c, 0, 0, .slice none 0 0, .slice none 0 0, .slice none 0 0, [], [], []⟩) h ⟨rfl, rfl, rfl, rfl, rfl, rfl⟩ hbase)
  have hz : ∀ w, (zeroValue 31).run Try.prog w = .ok (.agg #[.int .u8 0, .int .i32 0, .int .u8 0, .int .u8 0, .slice none 0 0, .slice none 0 0, .slice none 0 0]) w := zero_act
  clear h ho hbase hk hc
  go_enter Try.func9, Try.ntmps9
  go_wp2_with fail
  refine (there_any P base s vm vp vt w H.out HOK.out.st).mono ?_
  rintro e w1 ⟨rfl, hww⟩
  subst w1
  go_wp2_with fail
  go_ret
  exact ⟨_, rfl, HF.out⟩
theorem take_mid (P base : Nat) (s : VS) (vm vp vt : Value) (c : Int) (hc : 127 ≤ c ∧ c < 160) (w : World) (h : PW w P base s vm vp vt) (ho : VOk s) (hst : s.st = 1) (hbase : base ≤ w.heap.size) :
    Calls Try.prog 9 #[.pointer (some ⟨P, 0, none⟩), .int .i32 c] w fun e w' => ∃ v, e = .returned v ∧ TakeOk w w' P base (takeS s c) vm vp vt v := by
  have H := Lib.hid h
  have HOK := Lib.hid ho
  have HBS := Lib.hid hbase
  have hPl := lt_of_heap h.hP
  have hneg : ¬ c < 0 := by omega
  have hne27 : (c == 27) = false := by simp; omega
  have hne24 : (c == 24) = false := by simp; omega
  have hne26 : (c == 26) = false := by simp; omega
  have h32 : ¬ c < 32 := by omega
  have h127 : ¬ c < 127 := by omega
  have h160 : ¬ 160 ≤ c := by omega
  have hk : s.st = 1 := hst
  have c0 : w.cell? ⟨P, 0, none⟩ = some (.int .u8 1) := by have : w.cell? ⟨P, 0, none⟩ = some (.int .u8 s.st) := h.cell rfl; rw [hk] at this; exact this
  have HF : Hid (TakeOk w w P base (takeS s c) vm vp vt (.slice none 0 0)) := Lib.hid (by
    have e : takeS s c = (s, []) := by unfold takeS; rw [if_neg (show ¬ c < 0 by omega)]; simp only []; rw [if_neg (by omega)]; rw [if_neg (by omega)]; rw [if_pos hk, if_neg (by omega)]
    rw [e]; exact TakeOk.no (PStep.refl h))
  clear h ho hbase hk hc
  go_enter Try.func9, Try.ntmps9
  go_wp2_with fail
  refine (there_any P base s vm vp vt w H.out HOK.out.st).mono ?_
  rintro e w1 ⟨rfl, hww⟩
  subst w1
  go_wp2_with fail
  go_ret
  exact ⟨_, rfl, HF.out⟩
theorem take_escaped (P base : Nat) (s : VS) (vm vp vt : Value) (c : Int) (hc : 32 ≤ c ∧ c ≤ 2147483647) (w : World) (h : PW w P base s vm vp vt) (ho : VOk s) (hst : s.st = 2 ∨ s.st = 3) (hbase : base ≤ w.heap.size) :
    Calls Try.prog 9 #[.pointer (some ⟨P, 0, none⟩), .int .i32 c] w fun e w' => ∃ v, e = .returned v ∧ TakeOk w w' P base (takeS s c) vm vp vt v := by
  have H := Lib.hid h
  have HOK := Lib.hid ho
  have HBS := Lib.hid hbase
  have hPl := lt_of_heap h.hP
  have hneg : ¬ c < 0 := by omega
  have hne27 : (c == 27) = false := by simp; omega
  have hne24 : (c == 24) = false := by simp; omega
  have hne26 : (c == 26) = false := by simp; omega
  have h32 : ¬ c < 32 := by omega
  rcases hst with hk | hk
  · have c0 : w.cell? ⟨P, 0, none⟩ = some (.int .u8 2) := by have : w.cell? ⟨P, 0, none⟩ = some (.int .u8 s.st) := h.cell rfl; rw [hk] at this; exact this
    have HE : Hid (takeS s c = escapedS s c) := Lib.hid (by unfold takeS; rw [if_neg (show ¬ c < 0 by omega)]; simp only []; rw [if_neg (by omega)]; rw [if_neg (by omega)]; rw [if_neg (by omega), if_pos (by omega)])
    have HC := Lib.hid (escaped_any P base s vm vp vt c (by omega) w h ho (by omega) hbase)
    clear h ho hbase hk hc
    go_enter Try.func9, Try.ntmps9
    go_wp2_with fail
    refine (there_any P base s vm vp vt w H.out HOK.out.st).mono ?_
    rintro e w1 ⟨rfl, hww⟩
    subst w1
    go_wp2_with fail
    refine HC.out.mono ?_
    rintro e w9 ⟨v9, rfl, ht⟩
    have HF : Hid (TakeOk w w9 P base (takeS s c) vm vp vt v9) := Lib.hid (by rw [HE.out]; exact ht)
    clear ht
    go_wp2_with fail
    go_ret
    exact ⟨_, rfl, HF.out⟩
  · have c0 : w.cell? ⟨P, 0, none⟩ = some (.int .u8 3) := by have : w.cell? ⟨P, 0, none⟩ = some (.int .u8 s.st) := h.cell rfl; rw [hk] at this; exact this
    have HE : Hid (takeS s c = escapedS s c) := Lib.hid (by unfold takeS; rw [if_neg (show ¬ c < 0 by omega)]; simp only []; rw [if_neg (by omega)]; rw [if_neg (by omega)]; rw [if_neg (by omega), if_pos (by omega)])
    have HC := Lib.hid (escaped_any P base s vm vp vt c (by omega) w h ho (by omega) hbase)
    clear h ho hbase hk hc
    go_enter Try.func9, Try.ntmps9
    go_wp2_with fail
    refine (there_any P base s vm vp vt w H.out HOK.out.st).mono ?_
    rintro e w1 ⟨rfl, hww⟩
    subst w1
    go_wp2_with fail
    refine HC.out.mono ?_
    rintro e w9 ⟨v9, rfl, ht⟩
    have HF : Hid (TakeOk w w9 P base (takeS s c) vm vp vt v9) := Lib.hid (by rw [HE.out]; exact ht)
    clear ht
    go_wp2_with fail
    go_ret
    exact ⟨_, rfl, HF.out⟩
theorem take_control (P base : Nat) (s : VS) (vm vp vt : Value) (c : Int) (hc : 32 ≤ c) (w : World) (h : PW w P base s vm vp vt) (ho : VOk s) (hst : s.st = 4) (hbase : base ≤ w.heap.size) :
    Calls Try.prog 9 #[.pointer (some ⟨P, 0, none⟩), .int .i32 c] w fun e w' => ∃ v, e = .returned v ∧ TakeOk w w' P base (takeS s c) vm vp vt v := by
  have H := Lib.hid h
  have HOK := Lib.hid ho
  have HBS := Lib.hid hbase
  have hPl := lt_of_heap h.hP
  have hneg : ¬ c < 0 := by omega
  have hne27 : (c == 27) = false := by simp; omega
  have hne24 : (c == 24) = false := by simp; omega
  have hne26 : (c == 26) = false := by simp; omega
  have h32 : ¬ c < 32 := by omega
  have hk : s.st = 4 := hst
  have c0 : w.cell? ⟨P, 0, none⟩ = some (.int .u8 4) := by have : w.cell? ⟨P, 0, none⟩ = some (.int .u8 s.st) := h.cell rfl; rw [hk] at this; exact this
  have HE : Hid (takeS s c = controlS s c) := Lib.hid (by unfold takeS; rw [if_neg (show ¬ c < 0 by omega)]; simp only []; rw [if_neg (by omega)]; rw [if_neg (by omega)]; rw [if_neg (by omega), if_neg (by omega), if_pos hk])
  have HC := Lib.hid (control_any P base s vm vp vt c (by omega) w h ho hbase)
  clear h ho hbase hk hc
  go_enter Try.func9, Try.ntmps9
  go_wp2_with fail
  refine (there_any P base s vm vp vt w H.out HOK.out.st).mono ?_
  rintro e w1 ⟨rfl, hww⟩
  subst w1
  go_wp2_with fail
  refine HC.out.mono ?_
  rintro e w9 ⟨v9, rfl, ht⟩
  have HF : Hid (TakeOk w w9 P base (takeS s c) vm vp vt v9) := Lib.hid (by rw [HE.out]; exact ht)
  clear ht
  go_wp2_with fail
  go_ret
  exact ⟨_, rfl, HF.out⟩
theorem take_hid_low (P base : Nat) (s : VS) (vm vp vt : Value) (c : Int) (hc : 0 ≤ c ∧ c < 32 ∧ c ≠ 27 ∧ c ≠ 24 ∧ c ≠ 26) (w : World) (h : PW w P base s vm vp vt) (ho : VOk s) (hst : s.st = 6) (hbase : base ≤ w.heap.size) :
    Calls Try.prog 9 #[.pointer (some ⟨P, 0, none⟩), .int .i32 c] w fun e w' => ∃ v, e = .returned v ∧ TakeOk w w' P base (takeS s c) vm vp vt v := by
  have H := Lib.hid h
  have HOK := Lib.hid ho
  have HBS := Lib.hid hbase
  have hPl := lt_of_heap h.hP
  have hneg : ¬ c < 0 := by omega
  have hne27 : (c == 27) = false := by simp; omega
  have hne24 : (c == 24) = false := by simp; omega
  have hne26 : (c == 26) = false := by simp; omega
  have h32 : c < 32 := by omega
  have hk : s.st = 6 := hst
  have c0 : w.cell? ⟨P, 0, none⟩ = some (.int .u8 6) := by have : w.cell? ⟨P, 0, none⟩ = some (.int .u8 s.st) := h.cell rfl; rw [hk] at this; exact this
  have HF : Hid (TakeOk w w P base (takeS s c) vm vp vt (.slice none 0 0)) := Lib.hid (by
    have e : takeS s c = (s, []) := by unfold takeS; rw [if_neg (show ¬ c < 0 by omega)]; simp only []; rw [if_neg (by omega)]; rw [if_neg (by omega)]; rw [if_neg (by omega), if_neg (by omega), if_neg (by omega), if_neg (by omega)]
    rw [e]; exact TakeOk.no (PStep.refl h))
  clear h ho hbase hk hc
  go_enter Try.func9, Try.ntmps9
  go_wp2_with fail
  refine (there_any P base s vm vp vt w H.out HOK.out.st).mono ?_
  rintro e w1 ⟨rfl, hww⟩
  subst w1
  go_wp2_with fail
  go_ret
  exact ⟨_, rfl, HF.out⟩
theorem take_hid_high (P base : Nat) (s : VS) (vm vp vt : Value) (c : Int) (hc : 32 ≤ c) (w : World) (h : PW w P base s vm vp vt) (ho : VOk s) (hst : s.st = 6) (hbase : base ≤ w.heap.size) :
    Calls Try.prog 9 #[.pointer (some ⟨P, 0, none⟩), .int .i32 c] w fun e w' => ∃ v, e = .returned v ∧ TakeOk w w' P base (takeS s c) vm vp vt v := by
  have H := Lib.hid h
  have HOK := Lib.hid ho
  have HBS := Lib.hid hbase
  have hPl := lt_of_heap h.hP
  have hneg : ¬ c < 0 := by omega
  have hne27 : (c == 27) = false := by simp; omega
  have hne24 : (c == 24) = false := by simp; omega
  have hne26 : (c == 26) = false := by simp; omega
  have h32 : ¬ c < 32 := by omega
  have hk : s.st = 6 := hst
  have c0 : w.cell? ⟨P, 0, none⟩ = some (.int .u8 6) := by have : w.cell? ⟨P, 0, none⟩ = some (.int .u8 s.st) := h.cell rfl; rw [hk] at this; exact this
  have HF : Hid (TakeOk w w P base (takeS s c) vm vp vt (.slice none 0 0)) := Lib.hid (by
    have e : takeS s c = (s, []) := by unfold takeS; rw [if_neg (show ¬ c < 0 by omega)]; simp only []; rw [if_neg (by omega)]; rw [if_neg (by omega)]; rw [if_neg (by omega), if_neg (by omega), if_neg (by omega), if_neg (by omega)]
    rw [e]; exact TakeOk.no (PStep.refl h))
  clear h ho hbase hk hc
  go_enter Try.func9, Try.ntmps9
  go_wp2_with fail
  refine (there_any P base s vm vp vt w H.out HOK.out.st).mono ?_
  rintro e w1 ⟨rfl, hww⟩
  subst w1
  go_wp2_with fail
  go_ret
  exact ⟨_, rfl, HF.out⟩
theorem take_osc_low (P base : Nat) (s : VS) (vm vp vt : Value) (c : Int) (hc : 0 ≤ c ∧ c < 32 ∧ c ≠ 27 ∧ c ≠ 24 ∧ c ≠ 26 ∧ c ≠ 7) (w : World) (h : PW w P base s vm vp vt) (ho : VOk s) (hst : s.st = 5) (hbase : base ≤ w.heap.size) :
    Calls Try.prog 9 #[.pointer (some ⟨P, 0, none⟩), .int .i32 c] w fun e w' => ∃ v, e = .returned v ∧ TakeOk w w' P base (takeS s c) vm vp vt v := by
  have H := Lib.hid h
  have HOK := Lib.hid ho
  have HBS := Lib.hid hbase
  have hPl := lt_of_heap h.hP
  have hneg : ¬ c < 0 := by omega
  have hne27 : (c == 27) = false := by simp; omega
  have hne24 : (c == 24) = false := by simp; omega
  have hne26 : (c == 26) = false := by simp; omega
  have hne7 : (c == 7) = false := by simp; omega
  have h32 : c < 32 := by omega
  have h32b : ¬ 32 ≤ c := by omega
  have hk : s.st = 5 := hst
  have c0 : w.cell? ⟨P, 0, none⟩ = some (.int .u8 5) := by have : w.cell? ⟨P, 0, none⟩ = some (.int .u8 s.st) := h.cell rfl; rw [hk] at this; exact this
  have HF : Hid (TakeOk w w P base (takeS s c) vm vp vt (.slice none 0 0)) := Lib.hid (by
    have e : takeS s c = (s, []) := by unfold takeS; rw [if_neg (show ¬ c < 0 by omega)]; simp only []; rw [if_neg (by omega)]; rw [if_neg (by omega)]; rw [if_neg (by omega), if_neg (by omega), if_neg (by omega), if_pos hk]; rw [if_neg (by omega), if_neg (by omega)]
    rw [e]; exact TakeOk.no (PStep.refl h))
  clear h ho hbase hk hc
  go_enter Try.func9, Try.ntmps9
  go_wp2_with fail
  refine (there_any P base s vm vp vt w H.out HOK.out.st).mono ?_
  rintro e w1 ⟨rfl, hww⟩
  subst w1
  go_wp2_with fail
  go_ret
  exact ⟨_, rfl, HF.out⟩
theorem take_osc_del (P base : Nat) (s : VS) (vm vp vt : Value) (c : Int) (hc : c = 127) (w : World) (h : PW w P base s vm vp vt) (ho : VOk s) (hst : s.st = 5) (hbase : base ≤ w.heap.size) :
    Calls Try.prog 9 #[.pointer (some ⟨P, 0, none⟩), .int .i32 c] w fun e w' => ∃ v, e = .returned v ∧ TakeOk w w' P base (takeS s c) vm vp vt v := by
  obtain rfl : c = 127 := hc
  have H := Lib.hid h
  have HOK := Lib.hid ho
  have HBS := Lib.hid hbase
  have hPl := lt_of_heap h.hP
  have hk : s.st = 5 := hst
  have c0 : w.cell? ⟨P, 0, none⟩ = some (.int .u8 5) := by have : w.cell? ⟨P, 0, none⟩ = some (.int .u8 s.st) := h.cell rfl; rw [hk] at this; exact this
  have HF : Hid (TakeOk w w P base (takeS s 127) vm vp vt (.slice none 0 0)) := Lib.hid (by
    have e : takeS s 127 = (s, []) := by unfold takeS; simp [hk]
    rw [e]; exact TakeOk.no (PStep.refl h))
  clear h ho hbase hk
  go_enter Try.func9, Try.ntmps9
  go_wp2_with fail
  refine (there_any P base s vm vp vt w H.out HOK.out.st).mono ?_
  rintro e w1 ⟨rfl, hww⟩
  subst w1
  go_wp2_with fail
  go_ret
  exact ⟨_, rfl, HF.out⟩
theorem take_osc_full (P base : Nat) (s : VS) (vm vp vt : Value) (c : Int) (hc : 32 ≤ c ∧ c ≠ 127 ∧ 256 ≤ s.tx.length) (w : World) (h : PW w P base s vm vp vt) (ho : VOk s) (hst : s.st = 5) (hbase : base ≤ w.heap.size) :
    Calls Try.prog 9 #[.pointer (some ⟨P, 0, none⟩), .int .i32 c] w fun e w' => ∃ v, e = .returned v ∧ TakeOk w w' P base (takeS s c) vm vp vt v := by
  have H := Lib.hid h
  have HOK := Lib.hid ho
  have HBS := Lib.hid hbase
  have hPl := lt_of_heap h.hP
  have hneg : ¬ c < 0 := by omega
  have hne27 : (c == 27) = false := by simp; omega
  have hne24 : (c == 24) = false := by simp; omega
  have hne26 : (c == 26) = false := by simp; omega
  have hne7 : (c == 7) = false := by simp; omega
  have hnn : (c != 127) = true := by simp; omega
  have h32 : ¬ c < 32 := by omega
  have h32b : 32 ≤ c := by omega
  obtain ⟨A, cp, hvt⟩ := h.t.slice
  obtain ⟨n, hn⟩ : ∃ n, s.tx.length = n := ⟨_, rfl⟩
  have HN := Lib.hid hn
  rw [hn] at hvt
  have c4 : w.cell? ⟨P, 4, none⟩ = some (.slice A n cp) := by rw [← hvt]; exact h.cell rfl
  have HVT := Lib.hid hvt
  have hn256 : ¬ (n : Int) < 256 := by omega
  have hk : s.st = 5 := hst
  have c0 : w.cell? ⟨P, 0, none⟩ = some (.int .u8 5) := by have : w.cell? ⟨P, 0, none⟩ = some (.int .u8 s.st) := h.cell rfl; rw [hk] at this; exact this
  have HF : Hid (TakeOk w w P base (takeS s c) vm vp vt (.slice none 0 0)) := Lib.hid (by
    have e : takeS s c = (s, []) := by unfold takeS; rw [if_neg (show ¬ c < 0 by omega)]; simp only []; rw [if_neg (by omega)]; rw [if_neg (by omega)]; rw [if_neg (by omega), if_neg (by omega), if_neg (by omega), if_pos hk]; rw [if_neg (by omega), if_neg (by omega)]
    rw [e]; exact TakeOk.no (PStep.refl h))
  clear h ho hbase hk hc hn hvt
  go_enter Try.func9, Try.ntmps9
  go_wp2_with fail
  refine (there_any P base s vm vp vt w H.out HOK.out.st).mono ?_
  rintro e w1 ⟨rfl, hww⟩
  subst w1
  go_wp2_with fail
  go_ret
  exact ⟨_, rfl, HF.out⟩
theorem take_osc_add (P base : Nat) (s : VS) (vm vp vt : Value) (c : Int) (hc : 32 ≤ c ∧ c ≠ 127 ∧ s.tx.length < 256) (w : World) (h : PW w P base s vm vp vt) (ho : VOk s) (hst : s.st = 5) (hbase : base ≤ w.heap.size) :
    Calls Try.prog 9 #[.pointer (some ⟨P, 0, none⟩), .int .i32 c] w fun e w' => ∃ v, e = .returned v ∧ TakeOk w w' P base (takeS s c) vm vp vt v := by
  have H := Lib.hid h
  have HOK := Lib.hid ho
  have HBS := Lib.hid hbase
  have hPl := lt_of_heap h.hP
  have hneg : ¬ c < 0 := by omega
  have hne27 : (c == 27) = false := by simp; omega
  have hne24 : (c == 24) = false := by simp; omega
  have hne26 : (c == 26) = false := by simp; omega
  have hne7 : (c == 7) = false := by simp; omega
  have hnn : (c != 127) = true := by simp; omega
  have h32 : ¬ c < 32 := by omega
  have h32b : 32 ≤ c := by omega
  obtain ⟨A, cp, hvt⟩ := h.t.slice
  obtain ⟨n, hn⟩ : ∃ n, s.tx.length = n := ⟨_, rfl⟩
  have HN := Lib.hid hn
  rw [hn] at hvt
  have c4 : w.cell? ⟨P, 4, none⟩ = some (.slice A n cp) := by rw [← hvt]; exact h.cell rfl
  have HVT := Lib.hid hvt
  have hn256 : (n : Int) < 256 := by omega
  have hk : s.st = 5 := hst
  have c0 : w.cell? ⟨P, 0, none⟩ = some (.int .u8 5) := by have : w.cell? ⟨P, 0, none⟩ = some (.int .u8 s.st) := h.cell rfl; rw [hk] at this; exact this
  have HE : Hid (takeS s c = ({ s with tx := s.tx ++ [c] }, [])) := Lib.hid (by unfold takeS; rw [if_neg (show ¬ c < 0 by omega)]; simp only []; rw [if_neg (by omega)]; rw [if_neg (by omega)]; rw [if_neg (by omega), if_neg (by omega), if_neg (by omega), if_pos hk]; rw [if_neg (by omega), if_pos (by omega)])
  obtain ⟨X, hX⟩ : ∃ X, w.heap.size = X := ⟨_, rfl⟩
  have HBX : Hid (Below w.heap.size w (w.alloc (.cells #[.int .i32 c] 21))) := Lib.hid (by (repeat' (first | (with_reducible exact Below.refl _ _) | (with_reducible assumption) | (with_reducible refine Below.alloc ?_ ?_ _) | (with_reducible refine below_setRow ?_ ?_ _) | (with_reducible refine bl_drew ?_) | (with_reducible refine bl_drewN ?_ _) | (with_reducible refine Below.setCell ?_ ?_ _) | (with_reducible refine bl_then ?_ ?_ hb) | (with_reducible refine bl_then ?_ ?_ hb1) | (with_reducible refine bl_then ?_ ?_ hb2) | (with_reducible refine bl_then ?_ ?_ hb3) | (with_reducible refine bl_then ?_ ?_ hb4) | (with_reducible refine bl_then ?_ ?_ hb5) | (with_reducible refine bl_then ?_ ?_ hb6) | (with_reducible refine bl_then ?_ ?_ hb7) | (with_reducible refine bl_then ?_ ?_ hb8) | (with_reducible exact Nat.le_refl _) | omega | (simp only [World.size_alloc, World.size_setCell, World.size_drew, size_setRow]; omega) | (simp; omega) | (simp; done))))
  have HBASE : Hid (base ≤ (w.alloc (.cells #[.int .i32 c] 21)).heap.size) := Lib.hid (by simp; omega)
  have HX : Hid ((w.alloc (.cells #[.int .i32 c] 21)).heap[X]? = some (.cells #[.int .i32 c] 21 (0, 0))) := Lib.hid (by rw [← hX]; exact heap_alloc_last _ _)
  have HOWN : Hid (OwK .i32 21 (w.alloc (.cells #[.int .i32 c] 21)) base (.slice A n cp) s.tx) := Lib.hid (by rw [← hvt]; exact h.t.below HBX.out)
  have HLEN : Hid (s.tx.length ≤ 1000000) := Lib.hid (by omega)
  clear hn hvt h ho hbase hk hc
  go_enter Try.func9, Try.ntmps9
  go_wp2_with fail
  refine (there_any P base s vm vp vt w H.out HOK.out.st).mono ?_
  rintro e w1 ⟨rfl, hww⟩
  subst w1
  go_wp2_with (at_builtin; refine wpList_app_r (base := base) rfl _ _ rfl (.slice A n cp) s.tx c X rfl HOWN.out rfl HX.out HLEN.out HBASE.out ?_)
  · intro v' w' k1 k2 k4
    rw [← HVT.out] at k2 k4
    obtain ⟨g1, g2, g3, g4⟩ := PStep.grow_t H.out HBX.out k1 k2 (fun b hb => k4.elim (fun e => .inl (e ▸ hb)) (fun e => .inr (by rw [e] at hb; simp only [Option.some.injEq] at hb; omega)))
    obtain ⟨A3, c3, hv3⟩ := k1.slice
    obtain ⟨m3, hm3⟩ : ∃ m, (s.tx ++ [c]).length = m := ⟨_, rfl⟩
    rw [hm3] at hv3
    subst hv3
    have d4 : w'.cell? ⟨P, 4, none⟩ = some vt := (cell_of_row _ _ _ _ _ _ g1).trans rfl
    have hfz : w'.frozen? ⟨P, 4, none⟩ = false := frozen_of_row w' P 4 _ _ g1
    have HF : Hid (TakeOk w (w'.setCell ⟨P, 4, none⟩ (.slice A3 m3 c3)) P base (takeS s c) vm vp vt (.slice none 0 0)) := Lib.hid (by
      rw [HE.out]
      exact TakeOk.no ⟨_, _, _, g2, g3, g4⟩)
    clear k1 k2 k4 g1 g2 g3 g4 hm3
    go_wp2_with fail
    go_ret
    exact ⟨_, rfl, HF.out⟩
theorem take_osc_end (P base : Nat) (s : VS) (vm vp vt : Value) (c : Int) (hc : c = 7) (w : World) (h : PW w P base s vm vp vt) (ho : VOk s) (hst : s.st = 5) (hbase : base ≤ w.heap.size) :
    Calls Try.prog 9 #[.pointer (some ⟨P, 0, none⟩), .int .i32 c] w fun e w' => ∃ v, e = .returned v ∧ TakeOk w w' P base (takeS s c) vm vp vt v := by
  obtain rfl : c = 7 := hc
  have H := Lib.hid h
  have HOK := Lib.hid ho
  have HBS := Lib.hid hbase
  have hPl := lt_of_heap h.hP
  obtain ⟨A, cp, hvt⟩ := h.t.slice
  obtain ⟨n, hn⟩ : ∃ n, s.tx.length = n := ⟨_, rfl⟩
  have HN := Lib.hid hn
  rw [hn] at hvt
  have c4 : w.cell? ⟨P, 4, none⟩ = some (.slice A n cp) := by rw [← hvt]; exact h.cell rfl
  have HVT := Lib.hid hvt
  have hk : s.st = 5 := hst
  have c0 : w.cell? ⟨P, 0, none⟩ = some (.int .u8 5) := by have : w.cell? ⟨P, 0, none⟩ = some (.int .u8 s.st) := h.cell rfl; rw [hk] at this; exact this
  have HE : Hid (takeS s 7 = (freshS 1, endR s ⟨5, 0, 0, 0, [], [], s.tx⟩)) := Lib.hid (by unfold takeS; simp [hk])
  have HC := Lib.hid (command_any P base s vm vp vt w h)
  clear h ho hbase hk
  clear hn hvt
  go_enter Try.func9, Try.ntmps9
  go_wp2_with fail
  refine (there_any P base s vm vp vt w H.out HOK.out.st).mono ?_
  rintro e w1 ⟨rfl, hww⟩
  subst w1
  go_wp2_with fail
  refine HC.out.mono ?_
  rintro e w2 ⟨rfl, hb⟩
  have HB2 := Lib.hid hb
  clear hb
  have HP2 := Lib.hid (H.out.below HB2.out)
  have HEND := Lib.hid (end_any P base s vm vp vt (.slice none 0 0) (.slice none 0 0) vt 5 0 0 0 w2 HP2.out ⟨⟨_, _, _, rfl⟩, ⟨_, _, _, rfl⟩, ⟨_, _, _, HVT.out⟩⟩)
  go_wp2_with fail
  refine HEND.out.mono ?_
  rintro e w9 ⟨v9, rfl, he⟩
  have HF : Hid (TakeOk w w9 P base (takeS s 7) vm vp vt v9) := Lib.hid (by
    rw [HE.out]
    refine TakeOk.later HB2.out (TakeOk.ends (a := ⟨5, 0, 0, 0, .slice none 0 0, .slice none 0 0, vt, [], [], s.tx⟩) HP2.out he ⟨RdO.nil _ _ _ _, RdO.nil _ _ _ _, HP2.out.t.rdo⟩ (fun b hb => ?_) (by have := HBS.out; have := HB2.out.size; omega))
    rcases hb with hb | hb | hb
    · cases hb
    · cases hb
    · exact ⟨.inr (.inr (.inr hb)), fun e => H.out.notP.2.2 (by rw [← e]; exact hb)⟩)
  clear he
  go_wp2_with fail
  go_ret
  exact ⟨_, rfl, HF.out⟩
theorem take_osc_esc (P base : Nat) (s : VS) (vm vp vt : Value) (c : Int) (hc : c = 27) (w : World) (h : PW w P base s vm vp vt) (ho : VOk s) (hst : s.st = 5) (hbase : base ≤ w.heap.size) :
    Calls Try.prog 9 #[.pointer (some ⟨P, 0, none⟩), .int .i32 c] w fun e w' => ∃ v, e = .returned v ∧ TakeOk w w' P base (takeS s c) vm vp vt v := by
  obtain rfl : c = 27 := hc
  have H := Lib.hid h
  have HOK := Lib.hid ho
  have HBS := Lib.hid hbase
  have hPl := lt_of_heap h.hP
  obtain ⟨A, cp, hvt⟩ := h.t.slice
  obtain ⟨n, hn⟩ : ∃ n, s.tx.length = n := ⟨_, rfl⟩
  have HN := Lib.hid hn
  rw [hn] at hvt
  have c4 : w.cell? ⟨P, 4, none⟩ = some (.slice A n cp) := by rw [← hvt]; exact h.cell rfl
  have HVT := Lib.hid hvt
  have hk : s.st = 5 := hst
  have c0 : w.cell? ⟨P, 0, none⟩ = some (.int .u8 5) := by have : w.cell? ⟨P, 0, none⟩ = some (.int .u8 s.st) := h.cell rfl; rw [hk] at this; exact this
  have HE : Hid (takeS s 27 = (freshS 2, [⟨5, 0, 0, 0, [], [], s.tx⟩])) := Lib.hid (by unfold takeS; simp [hk])
  have HC := Lib.hid (command_any P base s vm vp vt w h)
  clear h ho hbase hk
  clear hn hvt c4
  go_enter Try.func9, Try.ntmps9
  go_wp2_with fail
  refine (there_any P base s vm vp vt w H.out HOK.out.st).mono ?_
  rintro e w1 ⟨rfl, hww⟩
  subst w1
  go_wp2_with fail
  refine HC.out.mono ?_
  rintro e w2 ⟨rfl, hb⟩
  have HB2 := Lib.hid hb
  clear hb
  obtain ⟨X, hX⟩ : ∃ X, w2.heap.size = X := ⟨_, rfl⟩
  obtain ⟨W, hW⟩ : ∃ W, w2.alloc (.cells #[.int .u8 5, .int .i32 0, .int .u8 0, .int .u8 0, .slice none 0 0, .slice none 0 0, vt] 31) = W := ⟨_, rfl⟩
  have HBW : Hid (Below w.heap.size w W) := Lib.hid (by rw [← hW]; exact Below.alloc HB2.out HB2.out.size _)
  have HSZ : Hid (w.heap.size ≤ X ∧ W.heap.size = X + 1) := Lib.hid (by rw [← hW, ← hX]; exact ⟨HB2.out.size, by simp⟩)
  have HROW : Hid (W.heap[X]? = some (.cells (arow ⟨5, 0, 0, 0, .slice none 0 0, .slice none 0 0, vt, [], [], s.tx⟩) 31 (0, 0))) := Lib.hid (by rw [← hW, ← hX]; exact heap_alloc_last _ _)
  have HPW := Lib.hid (H.out.below HBW.out)
  have HOW : Hid (OwA W base (.slice (some ⟨X, 0, none⟩) 1 1) [⟨5, 0, 0, 0, .slice none 0 0, .slice none 0 0, vt, [], [], s.tx⟩]) := Lib.hid (OwA.one (by have := HSZ.out; have := HBS.out; omega) HROW.out ⟨RdO.nil _ _ _ _, RdO.nil _ _ _ _, HPW.out.t.rdo⟩)
  have HNIL := Lib.hid (OwA.nil W base)
  have HL : Hid (([] : List HA).length + [(⟨5, 0, 0, 0, .slice none 0 0, .slice none 0 0, vt, [], [], s.tx⟩ : HA)].length ≤ 1048577) := Lib.hid (by simp)
  have HBA : Hid (base ≤ W.heap.size) := Lib.hid (by have := HSZ.out; have := HBS.out; omega)
  obtain ⟨A5, n5, cp5, hvt5⟩ : ∃ A n c, vt = .slice A n c := ⟨_, _, _, HVT.out⟩
  subst hvt5
  go_wp2_with (at_builtin; refine wpList_appA (base := base) (base2 := base) rfl _ _ rfl (.slice none 0 0) (.slice (some ⟨X, 0, none⟩) 1 1) [] _ rfl HNIL.out rfl HOW.out HL.out HBA.out (Nat.le_refl _) ?_)
  intro v3 w3 k1 k2 k3
  have HI3 : Hid (Inv w (fun g => g = P) gh0 w3) := Lib.hid ((Inv.ofBelow HBW.out).then (Inv.ofGrown (S := fun g => g = P) k2 (fun g hg => by cases hg)) (fun g hg _ => hg))
  have HP3 : Hid (PW w3 P base s vm vp (.slice A5 n5 cp5)) := Lib.hid (HPW.out.far (S := fun _ => False) (Inv.ofGrown k2 (fun g hg => by cases hg)) (fun _ _ h => h))
  have HOW3 := Lib.hid k1
  have HNEW : Hid (∀ b, v3.ownBlock = some b → w.heap.size ≤ b) := Lib.hid (fun b hb => by
    rcases k3 with k3 | k3
    · rw [k3] at hb; cases hb
    · rw [k3] at hb; simp only [Option.some.injEq] at hb; have := HSZ.out; omega)
  obtain ⟨A6, c6, hv6⟩ := k1.slice
  clear k1 k2 k3
  subst hv6
  go_wp2_with fail
  refine (to_any P base 1 s vm vp _ w3 HP3.out).mono ?_
  rintro e w4 ⟨rfl, hp4, hI4⟩
  have HP4 := Lib.hid hp4
  have HI4 := Lib.hid hI4
  clear hp4 hI4
  go_wp2_with fail
  refine (to_any P base 2 _ _ _ _ w4 HP4.out).mono ?_
  rintro e w5 ⟨rfl, hp5, hI5⟩
  have HF : Hid (TakeOk w w5 P base (takeS s 27) vm vp (.slice A5 n5 cp5) (.slice A6 ([] ++ [(⟨5, 0, 0, 0, .slice none 0 0, .slice none 0 0, .slice A5 n5 cp5, [], [], s.tx⟩ : HA)]).length c6)) := Lib.hid (by
    rw [HE.out]
    have hI := (HI3.out.then HI4.out (fun g hg _ => hg)).then hI5 (fun g hg _ => hg)
    have hI35 := (HI4.out.then hI5 (fun g hg _ => hg))
    have hna : ∀ b, HB (⟨5, 0, 0, 0, .slice none 0 0, .slice none 0 0, .slice A5 n5 cp5, [], [], s.tx⟩ : HA) b → (Value.slice A5 n5 cp5).ownBlock = some b := fun b hb => by
      rcases hb with hb | hb | hb
      · cases hb
      · cases hb
      · exact hb
    refine ⟨_, _, _, _, hp5, hI.wide (fun g hg => .inl hg), fun g hg => .inl (.inl (pb_nil hg)), HOW3.out.keep fun b hb hlt => hI35.far b hlt fun e => ?_, rfl, by simp, HNEW.out, fun a ha b hb => ?_⟩
    · rcases hb with hb | ⟨a, ha, hb⟩
      · obtain ⟨_, cur, hc⟩ := HOW3.out.blk hb
        exact blk_ne hc HP3.out.hP (by decide) e
      · obtain rfl := List.mem_singleton.1 ha
        exact H.out.notP.2.2 (by rw [← e]; exact hna b hb)
    · obtain rfl := List.mem_singleton.1 ha
      exact ⟨.inl (.inr (.inr (.inr (hna b hb)))), fun h => H.out.notP.2.2 (by rw [← pb_nil h]; exact hna b hb)⟩)
  clear hp5 hI5
  go_wp2_with fail
  go_ret
  exact ⟨_, rfl, HF.out⟩
theorem take_any (P base : Nat) (s : VS) (vm vp vt : Value) (c : Int) (hc : c ≤ 2147483647) (w : World) (h : PW w P base s vm vp vt) (ho : VOk s) (hbase : base ≤ w.heap.size) :
    Calls Try.prog 9 #[.pointer (some ⟨P, 0, none⟩), .int .i32 c] w fun e w' => ∃ v, e = .returned v ∧ TakeOk w w' P base (takeS s c) vm vp vt v := by
  have hst := ho.st
  rcases (by omega : c < 0 ∨ c = 27 ∨ c = 24 ∨ c = 26 ∨ (0 ≤ c ∧ c < 32 ∧ c ≠ 27 ∧ c ≠ 24 ∧ c ≠ 26) ∨ 32 ≤ c) with h1 | h1 | h1 | h1 | h1 | h1
  · rcases (by omega : (s.st = 1 ∨ s.st = 5 ∨ s.st = 6) ∨ (s.st = 2 ∨ s.st = 3) ∨ s.st = 4) with h2 | h2 | h2
    · exact take_neg P base s vm vp vt c h1 w h ho h2 hbase
    · exact take_neg_esc P base s vm vp vt c h1 w h ho h2 hbase
    · exact take_neg_csi P base s vm vp vt c h1 w h ho h2 hbase
  · by_cases h2 : s.st = 5
    · exact take_osc_esc P base s vm vp vt c h1 w h ho h2 hbase
    · exact take_esc P base s vm vp vt c h1 w h ho (by omega) hbase
  · exact take_can P base s vm vp vt c h1 w h ho (by omega) hbase
  · exact take_sub P base s vm vp vt c h1 w h ho (by omega) hbase
  · by_cases h2 : s.st = 5
    · by_cases h3 : c = 7
      · exact take_osc_end P base s vm vp vt c h3 w h ho h2 hbase
      · exact take_osc_low P base s vm vp vt c (by omega) w h ho h2 hbase
    · by_cases h3 : s.st = 6
      · exact take_hid_low P base s vm vp vt c h1 w h ho h3 hbase
      · exact take_exec P base s vm vp vt c h1 w h ho (by omega) hbase
  · rcases (by omega : s.st = 1 ∨ (s.st = 2 ∨ s.st = 3) ∨ s.st = 4 ∨ s.st = 5 ∨ s.st = 6) with h2 | h2 | h2 | h2 | h2
    · rcases (by omega : c < 127 ∨ 160 ≤ c ∨ (127 ≤ c ∧ c < 160)) with h3 | h3 | h3
      · exact take_print P base s vm vp vt c ⟨h1, h3⟩ w h ho h2 hbase
      · exact take_print2 P base s vm vp vt c h3 w h ho h2 hbase
      · exact take_mid P base s vm vp vt c h3 w h ho h2 hbase
    · exact take_escaped P base s vm vp vt c ⟨h1, hc⟩ w h ho h2 hbase
    · exact take_control P base s vm vp vt c h1 w h ho h2 hbase
    · by_cases h3 : c = 127
      · exact take_osc_del P base s vm vp vt c h3 w h ho h2 hbase
      · by_cases h4 : s.tx.length < 256
        · exact take_osc_add P base s vm vp vt c ⟨h1, h3, h4⟩ w h ho h2 hbase
        · exact take_osc_full P base s vm vp vt c ⟨h1, h3, by omega⟩ w h ho h2 hbase
    · exact take_hid_high P base s vm vp vt c h1 w h ho h2 hbase
theorem take_nil (c : Int) (w : World) : Calls Try.prog 9 #[.pointer none, .int .i32 c] w fun e w' => e = .returned (.slice none 0 0) ∧ w' = w := by
  go_enter Try.func9, Try.ntmps9
  go_wp2_with fail
  refine (there_nil w).mono ?_
  rintro e w1 ⟨rfl, rfl⟩
  go_wp2_with fail
  go_ret
  exact ⟨rfl, rfl⟩
end Go.Proofs.Ytecgipccippddaa
