/- What is proved: plain laws of parts' forms; what Grow and Concat of slices of bytes answer when they are called; conditions: those typed. -/
import Derived.Test.YtnhhibdkojgnlaaWireC
import Derived.Test.YtnhhibdkojgnlaaFrag11
import Derived.Lib.AppendZeros
set_option linter.unusedSimpArgs false
set_option linter.unusedVariables false
namespace Go.Proofs.Ytnhhibdkojgnlaa
open Go.RowKit
set_option maxRecDepth 100000
set_option maxHeartbeats 4000000
theorem rdF_good {bs : List Int} (hx : okB bs) : ∀ (f k : Nat), f + k = 10 → AllMore bs k → (rdF f k bs).2.2 = 0 → 1 ≤ (rdF f k bs).2.1 ∧ (rdF f k bs).2.1 ≤ bs.length ∧ (rdF f k bs).1 < 18446744073709551616 ∧ uintB (rdF f k bs).1 = bs.take (rdF f k bs).2.1
  | 0, k, _, _, h => by simp [rdF] at h
  | f + 1, k, hfk, hm, h => by
    by_cases hk : k < bs.length
    · have hb := hx.getD k
      by_cases h9 : k = 9 ∧ 1 < bs.getD k 0
      · obtain ⟨rfl, h9⟩ := h9
        rw [rdF_nine f bs hk h9] at h
        simp at h
      · by_cases hc : bs.getD k 0 < 128
        · by_cases h0 : bs.getD k 0 = 0 ∧ 0 < k
          · rw [rdF_zero k f bs hk h0.1 h0.2] at h
            simp at h
          · rw [rdF_last k f bs hk hc h9 h0]
            refine ⟨by simp, by simp; omega, ?_, same_good hm hk (by omega) hx hc h0⟩
            show valU (bs.take (k + 1)) < _
            rw [take_snoc bs k hk, valU_snoc]
            have h1 := valU_lt (bs.take k)
            have h2 : (bs.take k).length = k := by rw [List.length_take]; omega
            rw [h2] at h1 ⊢
            rcases (by omega : k = 9 ∨ k ≤ 8) with rfl | hk8
            · have : (bs.getD 9 0).toNat % 128 ≤ 1 := by
                have : ¬ 1 < bs.getD 9 0 := fun h => h9 ⟨rfl, h⟩
                omega
              have h3 := Nat.mul_le_mul_left (128 ^ 9) this
              simp only [Nat.reducePow] at h1 h3 ⊢
              omega
            · have h4 : (bs.getD k 0).toNat % 128 ≤ 127 := by omega
              have h3 := Nat.mul_le_mul_left (128 ^ k) h4
              have h5 : 128 ^ k ≤ 128 ^ 8 := Nat.pow_le_pow_right (by omega) hk8
              simp only [Nat.reducePow] at h5
              omega
        · by_cases h9' : k = 9
          · subst h9'
            exact absurd (show 1 < bs.getD 9 0 by omega) (fun h => h9 ⟨rfl, h⟩)
          · rw [rdF_next k f bs hk hc h9'] at h ⊢
            exact rdF_good hx f (k + 1) (by omega) (hm.next hk hx hc) h
    · rw [rdF_end k f bs hk] at h
      simp at h
theorem readS_good {bs : List Int} (hx : okB bs) (h : (readS bs).2.2 = 0) : 1 ≤ (readS bs).2.1 ∧ (readS bs).2.1 ≤ bs.length ∧ (readS bs).1 < 18446744073709551616 ∧ uintB (readS bs).1 = bs.take (readS bs).2.1 :=
  rdF_good hx 10 0 rfl (by intro x hx; simp at hx) h
theorem readS_form {n : Nat} (hn : n < 18446744073709551616) (rest : List Int) : readS (uintB n ++ rest) = (n, (uintB n).length, 0) := by
  obtain ⟨l, c, e, F⟩ := uintB_form hn
  have hv := valU_uintB hn
  rw [e] at hv
  have hl9 : l.length ≤ 9 := by
    rcases Nat.lt_or_ge 9 l.length with h | h
    · exfalso
      have hc : 0 < c := F.full (fun h' => by rw [h'] at h; simp at h)
      rw [valU_snoc] at hv
      have h1 : 1 ≤ c.toNat % 128 := by have := F.last; omega
      have h2 := Nat.mul_le_mul_left (128 ^ l.length) h1
      have h3 : 128 ^ 10 ≤ 128 ^ l.length := Nat.pow_le_pow_right (by omega) h
      simp only [Nat.reducePow] at h3
      omega
    · exact h
  rw [e]
  obtain ⟨bs, hbs⟩ : ∃ bs, l ++ [c] ++ rest = bs := ⟨_, rfl⟩
  rw [hbs]
  have hlen : l.length < bs.length := by rw [← hbs]; simp
  have hget : ∀ k (hk : k < l.length), bs.getD k 0 = l[k] := fun k hk => by
    rw [← hbs, List.getD_eq_getElem?_getD, List.append_assoc, List.getElem?_append_left hk, List.getElem?_eq_getElem hk]
    rfl
  have hc : bs.getD l.length 0 = c := by
    rw [← hbs, List.getD_eq_getElem?_getD, List.append_assoc, List.getElem?_append_right (by omega), Nat.sub_self]
    rfl
  have htake : bs.take (l.length + 1) = l ++ [c] := by
    rw [← hbs]
    exact List.take_left' (by simp)
  have step : ∀ k, k ≤ l.length → rdF 10 0 bs = rdF (10 - k) k bs := by
    intro k hk
    induction k with
    | zero => rfl
    | succ k ih =>
      rw [ih (by omega)]
      have h1 : 10 - k = (10 - (k + 1)) + 1 := by omega
      rw [h1]
      have h2 := hget k (by omega)
      have h3 := F.more l[k] (List.getElem_mem _)
      exact rdF_next k _ bs (by omega) (by rw [h2]; omega) (by omega)
  unfold readS
  rw [step l.length (Nat.le_refl _)]
  obtain ⟨f, hf⟩ : ∃ f, 10 - l.length = f + 1 := ⟨9 - l.length, by omega⟩
  have hF := F.last
  rw [hf, rdF_last l.length f bs hlen (by rw [hc]; omega) (by
    rw [hc]
    rintro ⟨h1, h2⟩
    rw [valU_snoc, h1] at hv
    have h3 : 2 ≤ c.toNat % 128 := by omega
    have h4 := Nat.mul_le_mul_left (128 ^ 9) h3
    simp only [Nat.reducePow] at h4 hv
    omega) (by
    rw [hc]
    rintro ⟨h1, h2⟩
    have := F.full (fun h' => by rw [h'] at h2; simp at h2)
    omega), htake, hv]
  simp
/-- A part's form. -/
def writeF (id n : Nat) (last : Bool) (bs : List Int) : List Int := uintB id ++ (uintB (2 * n + last.toNat) ++ bs)
/-- What is read of bytes: an error, or a part. -/
def readPF (bs : List Int) : Nat × Option (Nat × Nat × Bool × List Int) :=
  if (readS bs).2.2 ≠ 0 then ((readS bs).2.2, none)
  else if (readS (bs.drop (readS bs).2.1)).2.2 ≠ 0 then ((readS (bs.drop (readS bs).2.1)).2.2, none)
  else if mayB (min ((readS (bs.drop (readS bs).2.1)).1 / 2) 256 : Nat) ((readS (bs.drop (readS bs).2.1)).1 % 2 == 1) (bs.drop ((readS bs).2.1 + (readS (bs.drop (readS bs).2.1)).2.1)).length then
    (0, some ((readS bs).1, min ((readS (bs.drop (readS bs).2.1)).1 / 2) 256, (readS (bs.drop (readS bs).2.1)).1 % 2 == 1, bs.drop ((readS bs).2.1 + (readS (bs.drop (readS bs).2.1)).2.1)))
  else (8, none)
theorem readP_write {id n : Nat} {last : Bool} {bs : List Int} (hid : id < 18446744073709551616) (hm : mayB n last bs.length = true) : readPF (writeF id n last bs) = (0, some (id, n, last, bs)) := by
  have hm' := hm
  simp only [mayB, Bool.and_eq_true, decide_eq_true_eq] at hm'
  have hn : n < 256 := by omega
  have h2 : 2 * n + last.toNat < 18446744073709551616 := by cases last <;> simp <;> omega
  have r1 : readS (writeF id n last bs) = (id, (uintB id).length, 0) := readS_form hid _
  have d1 : (writeF id n last bs).drop (uintB id).length = uintB (2 * n + last.toNat) ++ bs := List.drop_left' rfl
  have r2 : readS (uintB (2 * n + last.toNat) ++ bs) = (2 * n + last.toNat, (uintB (2 * n + last.toNat)).length, 0) := readS_form h2 _
  have d2 : (writeF id n last bs).drop ((uintB id).length + (uintB (2 * n + last.toNat)).length) = bs := by
    rw [← List.drop_drop, d1]
    exact List.drop_left' rfl
  have e1 : min ((2 * n + last.toNat) / 2) 256 = n := by cases last <;> simp <;> omega
  have e2 : ((2 * n + last.toNat) % 2 == 1) = last := by cases last <;> simp <;> omega
  unfold readPF
  rw [r1]
  dsimp only
  rw [d1, r2]
  dsimp only
  rw [d2, e1, e2, hm]
  simp
theorem write_readP {bs : List Int} (hx : okB bs) {id n : Nat} {last : Bool} {rs : List Int} (h : readPF bs = (0, some (id, n, last, rs))) : writeF id n last rs = bs ∧ mayB n last rs.length = true ∧ id < 18446744073709551616 := by
  unfold readPF at h
  split at h
  · simp at h
  · rename_i h1
    split at h
    · simp at h
    · rename_i h2
      split at h
      · rename_i h3
        simp only [Prod.mk.injEq, Option.some.injEq, true_and] at h
        obtain ⟨rfl, rfl, rfl, rfl⟩ := h
        have g1 := readS_good hx (by omega)
        have g2 := readS_good (hx.drop (readS bs).2.1) (by omega)
        refine ⟨?_, h3, g1.2.2.1⟩
        have hlt : min ((readS (bs.drop (readS bs).2.1)).1 / 2) 256 < 256 := by
          simp only [mayB, Bool.and_eq_true, decide_eq_true_eq] at h3
          omega
        have e : 2 * min ((readS (bs.drop (readS bs).2.1)).1 / 2) 256 + ((readS (bs.drop (readS bs).2.1)).1 % 2 == 1).toNat = (readS (bs.drop (readS bs).2.1)).1 := by
          generalize (readS (bs.drop (readS bs).2.1)).1 = x at *
          rcases (by omega : x % 2 = 0 ∨ x % 2 = 1) with h | h <;> rw [h] <;> simp <;> omega
        unfold writeF
        rw [e, g1.2.2.2, g2.2.2.2, ← List.drop_drop, List.take_append_drop, List.take_append_drop]
      · simp at h
theorem grow_any (n : Nat) (w : World) (hn : 0 < n) (hl : n ≤ 140737488355328) : Calls Try.prog 34 #[.slice none 0 0, .int .i64 n] w fun e w' => (∃ v, e = .returned v ∧ OwB w' w.heap.size v []) ∧ Below w.heap.size w w' := by
  obtain ⟨i, hi, hz, h1, h8⟩ : ∃ i, Try.prog.info? 5 = some i ∧ i.zero = some (.int .u8 0) ∧ i.size = 1 ∧ i.bytes = 1 := by
    obtain ⟨i, h, h2⟩ := Option.map_eq_some_iff.1 (show (Try.prog.info? 5).map (fun i => (i.zero, i.size, i.bytes)) = some (some (.int .u8 0), 1, 1) by kernel_rfl)
    simp only [Prod.mk.injEq] at h2
    exact ⟨i, h, h2⟩
  have happ := Lib.run_append_nil_zeros (P := Try.prog) w 28 3 28 5 i (.int .u8 0) .i64 .i64 Try.underlying28 Try.underlying3 hi hz n hn (by omega) (by omega) (by rw [h8]; omega)
  have hcg := grownCap_ge w n 0 5
  have hcm := grownCap_le_maxLen w n 0 5 (by unfold maxLen; omega)
  generalize grownCap w n 0 5 = cap2 at happ hcg hcm
  have hZs : (Builtin.zeroCells (Value.int .u8 0).cells n ++ Builtin.zeroCells (Value.int .u8 0).cells (cap2 - n)).size = cap2 := by simp [size_zeroCells, Value.cells]; omega
  generalize Builtin.zeroCells (Value.int .u8 0).cells n ++ Builtin.zeroCells (Value.int .u8 0).cells (cap2 - n) = Z at happ hZs
  have hni : (0 : Int) < (n : Int) := by omega
  have hn0 : ¬ (n : Int) < 0 := by omega
  have hw0 : IntKind.i64.wrap (n : Int) = (n : Int) := IntWalk.i64_in _ (by omega)
  go_enter Try.func34, Try.ntmps34
  go_wp2_with (at_builtin; refine Lib.wpList_append_run _ rfl _ _ _ _ rfl _ _ rfl rfl _ _ happ ?_)
  go_ret
  exact ⟨⟨_, rfl, ⟨by simp, .inr ⟨w.heap.size, cap2, Z, rfl, Nat.le_refl _, heap_alloc_last _ _, by simp, hcm, by omega, by simp⟩⟩⟩, by (repeat' (first | (with_reducible exact Below.refl _ _) | (with_reducible assumption) | (with_reducible refine Below.alloc ?_ ?_ _) | (with_reducible refine below_setRow ?_ ?_ _) | (with_reducible refine bl_drew ?_) | (with_reducible refine bl_drewN ?_ _) | (with_reducible refine Below.setCell ?_ ?_ _) | (with_reducible refine bl_then ?_ ?_ hb) | (with_reducible refine bl_then ?_ ?_ hb1) | (with_reducible refine bl_then ?_ ?_ hb2) | (with_reducible refine bl_then ?_ ?_ hb3) | (with_reducible refine bl_then ?_ ?_ hb4) | (with_reducible refine bl_then ?_ ?_ hb5) | (with_reducible refine bl_then ?_ ?_ hb6) | (with_reducible refine bl_then ?_ ?_ hb7) | (with_reducible refine bl_then ?_ ?_ hb8) | (with_reducible exact Nat.le_refl _) | omega | (simp only [World.size_alloc, World.size_setCell, World.size_drew, size_setRow]; omega) | (simp; omega) | (simp; done)))⟩
/-- Slices of bytes that lie in a row. -/
def catF (L : List (Value × List Int)) : List Int := (L.map (·.2)).flatten
theorem catF_take {L : List (Value × List Int)} {k : Nat} {p : Value × List Int} (h : L[k]? = some p) : catF (L.take (k + 1)) = catF (L.take k) ++ p.2 := by
  unfold catF
  rw [List.take_add_one, h]
  simp
theorem catF_le {L : List (Value × List Int)} (k : Nat) : (catF (L.take k)).length ≤ (catF L).length := by
  unfold catF
  conv => rhs; rw [← List.take_append_drop k L]
  rw [List.map_append, List.flatten_append, List.length_append]
  omega
theorem concat_any (X : Nat) (t : TypeId) (L : List (Value × List Int)) (w : World) (hX : w.heap[X]? = some (.cells (L.map (·.1)).toArray t (0, 0))) (hb : ∀ p ∈ L, BB w p.1 p.2) (hl : (catF L).length ≤ 140737488355328) (h0 : 0 < (catF L).length) (hn : L.length ≤ 1000) :
    Calls Try.prog 29 #[.slice (some ⟨X, 0, none⟩) L.length L.length] w fun e w' => (∃ v, e = .returned v ∧ OwB w' w.heap.size v (catF L)) ∧ Below w.heap.size w w' := by
  obtain ⟨q, hq⟩ : ∃ q, L.length = q := ⟨_, rfl⟩
  have HQ := Lib.hid hq
  rw [hq] at hn ⊢
  clear hq
  obtain ⟨cs, hcs⟩ : ∃ cs, catF L = cs := ⟨_, rfl⟩
  rw [hcs] at hl h0 ⊢
  have HCS := Lib.hid hcs
  have HB := Lib.hid hb
  have HX : Hid (∀ k p, L[k]? = some p → w.cell? ⟨X, k, none⟩ = some p.1) := Lib.hid (fun k p hp => by
    rw [cell_of_row _ _ _ _ _ _ hX]
    simp [hp])
  clear hb hcs hX
  go_enter Try.func29, Try.ntmps29
  go_wp2_with fail
  go_loopw [11, 3] (fun i a wr => ∃ k : Nat, k ≤ q ∧ i = .int .i64 k ∧ a = .int .i64 (((catF (L.take k)).length : Nat) : Int) ∧ wr = w) (fun i _ _ => q - (intOf i).toNat)
  case atStart => exact ⟨0, by omega, rfl, rfl, rfl⟩
  case round =>
    obtain ⟨k, hk, rfl, rfl, rfl⟩ := hrel
    by_cases hkq : k < q
    · have hki : (k : Int) < (q : Int) := by omega
      have hk0 : (0 : Int) ≤ (k : Int) := by omega
      obtain ⟨p, hp⟩ : ∃ p, L[k]? = some p := ⟨_, List.getElem?_eq_getElem (by rw [HQ.out]; exact hkq)⟩
      have dn := HX.out k p hp
      obtain ⟨_, _, A3, c3, hv3, _⟩ := HB.out p (List.mem_of_getElem? hp)
      rw [hv3] at dn
      have hsl := catF_le (L := L) k
      have hs2 := catF_le (L := L) (k + 1)
      rw [catF_take hp, List.length_append] at hs2
      rw [HCS.out] at hsl hs2
      have HST : Hid ((catF (L.take (k + 1))).length = (catF (L.take k)).length + p.2.length) := Lib.hid (by rw [catF_take hp, List.length_append])
      generalize (catF (L.take k)).length = a at *
      generalize p.2.length = z at *
      have hwr : IntKind.i64.wrap ((a : Int) + (z : Int)) = (a : Int) + (z : Int) := IntWalk.i64_in _ (by omega)
      have hnn : ¬ (a : Int) + (z : Int) < 0 := by omega
      clear hp hv3
      go_wp2_with fail
      go_roundw
      case rel =>
        first
          | exact ⟨k + 1, by omega, by go_num, by rw [HST.out]; go_num, rfl⟩
          | exact ⟨k + 1, by omega, by go_num, by rw [HST.out]; go_num, trivial⟩
          | ((repeat apply Exists.intro); refine ⟨?_, rfl⟩; exact ⟨k + 1, by omega, by go_num, by rw [HST.out]; go_num, rfl⟩)
      case measure => first | (simp [intOf]; done) | (simp [intOf]; omega)
    · have hki : ¬ (k : Int) < (q : Int) := by omega
      have hsum : (catF (L.take k)).length = cs.length := by rw [List.take_of_length_le (by rw [HQ.out]; omega), HCS.out]
      rw [hsum]
      clear hsum
      obtain ⟨wy, hwy⟩ : ∃ wy, wy = wr := ⟨_, rfl⟩
      subst hwy
      go_wp2_with fail
      refine (grow_any cs.length wy h0 hl).mono ?_
      rintro e w1 ⟨⟨v0, rfl, ho⟩, hb1⟩
      have HO := Lib.hid ho
      have HL := Lib.hid hb1
      clear ho hb1
      go_wp2_with fail
      go_loopw [27, 6] (fun i vv wx => ∃ k : Nat, k ≤ q ∧ i = .int .i64 k ∧ OwB wx wy.heap.size vv (catF (L.take k)) ∧ Below wy.heap.size wy wx) (fun i _ _ => q - (intOf i).toNat)
      case atStart => exact ⟨0, by omega, rfl, HO.out, HL.out⟩
      case round =>
        obtain ⟨k, hk, rfl, hacc, hL⟩ := hrel
        by_cases hkq : k < q
        · have hki : (k : Int) < (q : Int) := by omega
          have hk0 : (0 : Int) ≤ (k : Int) := by omega
          obtain ⟨p, hp⟩ : ∃ p, L[k]? = some p := ⟨_, List.getElem?_eq_getElem (by rw [HQ.out]; exact hkq)⟩
          have dn0 := HX.out k p hp
          have dn := ((bcell hL).1 X k (block_lt_of_cell dn0)).trans dn0
          have hbp := (HB.out p (List.mem_of_getElem? hp)).below hL
          have hs2 := catF_le (L := L) (k + 1)
          rw [catF_take hp, List.length_append, HCS.out] at hs2
          have HST := Lib.hid (catF_take hp)
          generalize catF (L.take k) = acc at *
          obtain ⟨A0, c0, hv0⟩ := hacc.slice
          subst hv0
          have HA := Lib.hid hacc
          have HBP := Lib.hid hbp
          have HLL := Lib.hid hL
          clear hp dn0 hacc hbp hL
          go_wp2_with (at_builtin; refine wpList_appB (base := wy.heap.size) rfl _ _ rfl (.slice A0 acc.length c0) p.1 acc p.2 rfl ?_ rfl ?_ ?_ ?_ ?_)
          · exact HA.out
          · exact HBP.out
          · omega
          · exact HLL.out.size
          · intro v' w' k1 k2 _
            have HL2 := Lib.hid (HLL.out.grown k2 HLL.out.size (fun b hb => (HA.out.own_blk hb).1))
            rw [← HST.out] at k1
            clear k2
            go_wp2_with fail
            go_roundw
            case rel =>
              first
                | exact ⟨k + 1, by omega, by go_num, k1, HL2.out⟩
                | ((repeat apply Exists.intro); refine ⟨?_, rfl⟩; exact ⟨k + 1, by omega, by go_num, k1, HL2.out⟩)
            case measure => first | (simp [intOf]; done) | (simp [intOf]; omega)
        · have hki : ¬ (k : Int) < (q : Int) := by omega
          rw [List.take_of_length_le (by rw [HQ.out]; omega), HCS.out] at hacc
          obtain ⟨A0, c0, hv0⟩ := hacc.slice
          subst hv0
          have HA := Lib.hid hacc
          clear hacc
          go_wp2_with fail
          go_ret
          exact ⟨⟨_, rfl, HA.out⟩, hL⟩
end Go.Proofs.Ytnhhibdkojgnlaa
