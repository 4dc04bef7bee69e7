/- What is proved: what boxes of package aes answers when it is called; no condition. -/
import Derived.Test.YtppponobefljgaaAes3
set_option linter.unusedSimpArgs false
set_option linter.unusedVariables false
namespace Go.Proofs.Ytppponobefljgaa
open Go.RowKit
set_option maxRecDepth 100000
set_option maxHeartbeats 8000000
theorem rot_lt {q n : Nat} (h : q < 256) : rot q n < 256 := by
  unfold rot
  refine Nat.or_lt_two_pow (n := 8) (by omega) ?_
  exact Nat.lt_of_le_of_lt (Nat.div_le_self _ _) h
theorem xor_lt {a b : Nat} (ha : a < 256) (hb : b < 256) : a ^^^ b < 256 := Nat.xor_lt_two_pow (n := 8) ha hb
theorem sF_lt {q : Nat} (h : q < 256) : ∀ i, sF q i < 256
  | 0 => xor_lt h (by omega)
  | i + 1 => xor_lt (sF_lt h i) (rot_lt h)
def subI (j : Nat) : Int := (subT j : Nat)
def unsI (j : Nat) : Int := (unsT j : Nat)
def subK (k : Nat) (j : Nat) : Int := if 1 ≤ logT j ∧ logT j ≤ k then (subT j : Nat) else 0
def unsK (k : Nat) (j : Nat) : Int := if unsT j < k then (unsT j : Nat) else 0
def logZ (p : Nat) : Nat := if p = 1 then 0 else logT p
theorem logZ_at {k : Nat} (hk : k ≤ 254) : logZ (pT k) = k := by
  rcases Nat.eq_zero_or_pos k with h | h
  · rw [h, tab_0.2.1]
    rfl
  · obtain ⟨k', rfl⟩ : ∃ k', k = k' + 1 := ⟨k - 1, by omega⟩
    obtain ⟨_, _, _, _, _, _, _, t8, t9⟩ := tab_p k' (by omega)
    unfold logZ
    rw [if_neg (fun h => by have := t9.1 h; omega), t8]
theorem subK_step {k j : Nat} (hk : k ≤ 254) (hj : j < 256) : upd (subK k) (pT (k + 1)) ((subT (pT (k + 1)) : Nat) : Int) j = subK (k + 1) j := by
  obtain ⟨_, _, t3, _, _, _, _, t8, _⟩ := tab_p k (by omega)
  obtain ⟨_, _, _, s4, _⟩ := tab_s j hj
  unfold upd subK
  by_cases e : j = pT (k + 1)
  · rw [if_pos e, e, t8, if_pos (by omega)]
  · rw [if_neg e]
    by_cases h : 1 ≤ logT j ∧ logT j ≤ k
    · rw [if_pos h, if_pos (by omega)]
    · rw [if_neg h, if_neg (fun h2 => ?_)]
      have h3 : logT j = k + 1 := by omega
      have := s4 h2.1
      rw [h3] at this
      exact e this.symm
theorem subK_all {j : Nat} (hj : j < 256) : upd (subK 255) 0 99 j = subI j := by
  obtain ⟨_, _, s3, _, s5, _⟩ := tab_s j hj
  unfold upd subK subI
  by_cases e : j = 0
  · rw [if_pos e, e, tab_0.1]
    rfl
  · rw [if_neg e, if_pos (by omega)]
theorem unsK_step {i j : Nat} (hi : i < 256) (hj : j < 256) : upd (unsK i) (subT i) (i : Int) j = unsK (i + 1) j := by
  obtain ⟨_, s2, _⟩ := tab_s i hi
  obtain ⟨_, _, _, _, _, _, s7⟩ := tab_s j hj
  unfold upd unsK
  by_cases e : j = subT i
  · rw [if_pos e, e, s2, if_pos (by omega)]
  · rw [if_neg e]
    by_cases h : unsT j < i
    · rw [if_pos h, if_pos (by omega)]
    · rw [if_neg h, if_neg (fun h2 => ?_)]
      have h3 : unsT j = i := by omega
      rw [h3] at s7
      exact e s7.symm
theorem unsK_all {j : Nat} (hj : j < 256) : unsK 256 j = unsI j := by
  obtain ⟨_, _, _, _, _, s6, _⟩ := tab_s j hj
  unfold unsK unsI
  rw [if_pos s6]
theorem xor_int (a b : Nat) (ha : a < 256) (hb : b < 256) (c : Nat) (h : c = a ^^^ b) : bits .xor .u8 (a : Int) (b : Int) = (c : Int) := by rw [h]; exact u8_xor_nat a b ha hb
theorem zeros256 : ∀ w, (zeroValue 35).run Try.prog w = .ok (.agg (rwb 256 fun _ => 0)) w := (zero_of_info (n := 256) (by kernel_rfl)).1
theorem run_index_rwb {w : World} {i : Nat} {F : Nat → Int} (h : i < 256) : (Instr.index 35 (.agg (rwb 256 F)) (.int .i64 i)).run Try.prog w = .ok (.int .u8 (F i)) w := by
  have hg := rwb_get (n := 256) F h
  obtain ⟨hlt, hg⟩ := Array.getElem?_eq_some_iff.1 hg
  have hs := rwb_size 256 F
  have hi : (i : Int) < 256 := by omega
  obtain ⟨ti, ht, h1⟩ : ∃ ti, Try.prog.info? 5 = some ti ∧ ti.size = 1 := by
    obtain ⟨i, h, h2⟩ := Option.map_eq_some_iff.1 (show (Try.prog.info? 5).map (fun i => i.size) = some 1 by kernel_rfl)
    exact ⟨i, h, h2⟩
  have ha : (isAgg 5).run Try.prog w = .ok false w := by simp [isAgg, run_underlying Try.underlying5]
  simp [Instr.index, part, asIntOf, run_underlying Try.underlying35, sizeOf, typeInfo, ht, h1, hi, ha, hg, hs, h]
theorem shut_row {w : World} {g : Nat} {t : TypeId} {n i : Nat} {F G : Nat → Int} {v : Int} (h : w.heap[g]? = some (.cells (rwb n F) t (0, 0))) (hi : i < n) (hG : ∀ j, j < n → upd F i v j = G j) : (w.setCell ⟨g, i, none⟩ (.int .u8 v)).heap[g]? = some (.cells (rwb n G) t (0, 0)) := by
  refine (heap_setCell_same _ _ i _ _ _ h).trans ?_
  rw [rwb_set _ _ hi, rwb_congr hG]
theorem Inv.belowS {w w0 w1 : World} {S : Nat → Prop} {γ : Gh} {B : Nat} (h : Inv w0 S γ w1) (hb : Below B w w0) (hB : B ≤ w0.heap.size) (hS : ∀ g, S g → B ≤ g) : Below B w w1 :=
  ⟨h.os.trans hb.os, h.tape.trans hb.tape, h.output.trans hb.output, Nat.le_trans hb.size h.size, fun k hk => (h.far k (by omega) (fun hs => by have := hS k hs; omega)).trans (hb.block k hk)⟩
theorem boxes_any (w : World) : Calls Try.prog 21 #[] w fun e w' => e = .returned (.tuple #[.agg (rwb 256 subI), .agg (rwb 256 unsI)]) ∧ Below w.heap.size w w' := by
  have hz := zeros256
  go_enter Try.func21, Try.ntmps21
  go_wp2_with fail
  clear hz
  go_loopw [2, 3] (fun x y wr => ∃ k : Nat, k ≤ 254 ∧ x = .int .u8 (pT k : Nat) ∧ y = .int .u8 (qT k : Nat) ∧ Hid (wr.heap[w.heap.size]? = some (.cells (rwb 256 (subK k)) 35 (0, 0))) ∧ Hid (wr.heap[w.heap.size + 1]? = some (.cells (rwb 256 fun _ => 0) 35 (0, 0))) ∧ Hid (Below w.heap.size w wr)) (fun x _ _ => 255 - logZ (intOf x).toNat)
  case atStart =>
    refine ⟨0, by omega, rfl, rfl, Lib.hid ?_, Lib.hid ?_, Lib.hid (by (repeat' (first | (with_reducible exact Below.refl _ _) | (with_reducible assumption) | (with_reducible refine Below.alloc ?_ ?_ _) | (with_reducible refine below_setRow ?_ ?_ _) | (with_reducible refine bl_drew ?_) | (with_reducible refine bl_drewN ?_ _) | (with_reducible refine Below.setCell ?_ ?_ _) | (with_reducible refine bl_then ?_ ?_ hb) | (with_reducible refine bl_then ?_ ?_ hb1) | (with_reducible refine bl_then ?_ ?_ hb2) | (with_reducible refine bl_then ?_ ?_ hb3) | (with_reducible refine bl_then ?_ ?_ hb4) | (with_reducible refine bl_then ?_ ?_ hb5) | (with_reducible refine bl_then ?_ ?_ hb6) | (with_reducible refine bl_then ?_ ?_ hb7) | (with_reducible refine bl_then ?_ ?_ hb8) | (with_reducible exact Nat.le_refl _) | omega | (simp only [World.size_alloc, World.size_setCell, World.size_drew, size_setRow]; omega) | (simp; omega) | (simp; done))))⟩
    · rw [rwb_congr (f := subK 0) (g := fun _ => 0) (fun j _ => if_neg (by omega))]
      (simp only [heap_setRow_if, heap_alloc_if, heap_setCell_if, World.size_alloc, size_setRow, World.size_setCell]; simp)
    · (simp only [heap_setRow_if, heap_alloc_if, heap_setCell_if, World.size_alloc, size_setRow, World.size_setCell]; simp)
  case round =>
    obtain ⟨k, hk, rfl, rfl, HA, HB, HL⟩ := hrel
    obtain ⟨t1, t2, t3, t4, t5, t6, t7, t8, t9⟩ := tab_p k (by omega)
    have HT := Lib.hid (And.intro t7 (And.intro t8 t9))
    have HSK := Lib.hid (fun j (hj : j < 256) => subK_step (k := k) (j := j) hk hj)
    have HLK := Lib.hid (logZ_at hk)
    have hx2 := x2_lt t2
    have HTW := Lib.hid (fun W => twice_any (pT k) W t2)
    have e1 := xor_int (pT k) (x2 (pT k)) t2 hx2 _ t1
    clear t1 t7 t8 t9
    generalize x2 (pT k) = p2 at *
    generalize pT k = p at *
    obtain ⟨p', hp'⟩ : ∃ p', pT (k + 1) = p' := ⟨_, rfl⟩
    rw [hp'] at t3 e1 HT HSK
    obtain ⟨q', hq'⟩ : ∃ q', qT (k + 1) = q' := ⟨_, rfl⟩
    rw [hq'] at t6 t4 HT
    have HPQ := Lib.hid (And.intro hp' hq')
    clear hp' hq'
    generalize qT k = q at *
    have l1 : qa q < 256 := xor_lt t5 (by omega)
    have l2 : qb (qa q) < 256 := xor_lt l1 (by omega)
    have l3 : qc (qb (qa q)) < 256 := xor_lt l2 (by omega)
    have l4 : qc (qb (qa q)) ^^^ 9 < 256 := xor_lt l3 (by omega)
    have x1 := xor_int q (q * 2 % 256) t5 (by omega) (qa q) rfl
    have x2' := xor_int (qa q) (qa q * 4 % 256) l1 (by omega) (qb (qa q)) rfl
    have x3 := xor_int (qb (qa q)) (qb (qa q) * 16 % 256) l2 (by omega) (qc (qb (qa q))) rfl
    have x4 := xor_int (qc (qb (qa q))) 9 l3 (by omega) _ rfl
    have x5 := and128 (qc (qb (qa q))) l3
    unfold qd at t4
    generalize qc (qb (qa q)) = c at *
    generalize qb (qa q) = b at *
    generalize qa q = a at *
    push_cast at x1 x2' x3 x4
    have x6 := xor_int q' 99 t6 (by omega) _ rfl
    push_cast at x6
    have HS0 : Hid (q' ^^^ 99 = sF q' 0) := Lib.hid rfl
    have HROT := Lib.hid (fun n W (hn : 1 ≤ n ∧ n ≤ 4) => turned_any q' n W t6 hn)
    have HSF := Lib.hid (fun i => xor_int (sF q' i) (rot q' (i + 1)) (sF_lt t6 i) (rot_lt t6) (sF q' (i + 1)) rfl)
    have HSL := Lib.hid (sF_lt t6)
    have HRL := Lib.hid (fun n => rot_lt (n := n) t6)
    rcases Nat.lt_or_ge c 128 with h1 | h1
    · rw [if_neg (by omega)] at t4 x5
      subst t4
      clear x4
      go_wp2_with fail
      refine (HTW.out wr).mono ?_
      rintro e w1 ⟨rfl, rfl⟩
      go_wp2_with fail
      go_loopw [4, 5] (fun x y wr => ∃ i : Nat, i ≤ 4 ∧ x = .int .u8 (sF q' i : Nat) ∧ y = .int .i64 (i + 1 : Nat) ∧ Hid (wr.heap[w.heap.size]? = some (.cells (rwb 256 (subK k)) 35 (0, 0))) ∧ Hid (wr.heap[w.heap.size + 1]? = some (.cells (rwb 256 fun _ => 0) 35 (0, 0))) ∧ Hid (Below w.heap.size w wr)) (fun _ y _ => 5 - (intOf y).toNat)
      case atStart => exact ⟨0, by omega, by rw [← HS0.out], rfl, HA, HB, HL⟩
      case round =>
        clear HA HB HL
        obtain ⟨i, hi4, rfl, rfl, HA, HB, HL⟩ := hrel
        by_cases hlt : i < 4
        · have hsl := HSL.out i
          have hsf := HSF.out i
          have HR1 := Lib.hid (fun W => HROT.out (i + 1) W (by omega))
          have hrl := HRL.out (i + 1)
          have hsn := HSL.out (i + 1)
          obtain ⟨s', hs'⟩ : ∃ s', sF q' (i + 1) = s' := ⟨_, rfl⟩
          rw [hs'] at hsf hsn
          have HS' := Lib.hid hs'
          clear hs'
          have hrs : (rot q' (i + 1) : Nat) < 256 := hrl
          generalize sF q' i = s at *
          generalize rot q' (i + 1) = r at *
          go_wp2_with fail
          refine (HR1.out _).mono ?_
          rintro e w2 ⟨rfl, hb⟩
          have HA2 := Lib.hid ((hb.block _ (lt_of_heap HA.out)).trans HA.out)
          have HB2 := Lib.hid ((hb.block _ (lt_of_heap HB.out)).trans HB.out)
          have HL2 := Lib.hid (bl_then HL.out HL.out.size hb)
          clear hb
          go_wp2_with fail
          go_roundw
          case rel =>
            first
              | exact ⟨i + 1, by omega, by rw [HS'.out], by go_num, HA2, HB2, HL2⟩
              | ((repeat apply Exists.intro); refine ⟨?_, rfl⟩; exact ⟨i + 1, by omega, by rw [HS'.out], by go_num, HA2, HB2, HL2⟩)
          case measure =>
            simp [intOf]
            omega
        · obtain rfl : i = 4 := by omega
          obtain ⟨u7, u8, u9⟩ := HT.out
          rw [← u7]
          have hsp : subT p' < 256 := (tab_s p' t3).1
          have HSKp := Lib.hid HSK.out
          obtain ⟨s, hs⟩ : ∃ s, subT p' = s := ⟨_, rfl⟩
          rw [hs] at hsp
          rw [hs]
          have HSS := Lib.hid hs
          clear hs u7 HSK
          have hg := HA.out
          have cx := cell_rwb hg t3
          have fx := frozen_of_row wr w.heap.size p' _ _ hg
          have HG := Lib.hid hg
          clear hg
          generalize subK k p' = old at *
          have hpi : (p' : Int) < 256 := by omega
          have hp0 : (0 : Int) ≤ (p' : Int) := by omega
          have HA3 : Hid ((wr.setCell ⟨w.heap.size, p', none⟩ (.int .u8 s)).heap[w.heap.size]? = some (.cells (rwb 256 (subK (k + 1))) 35 (0, 0))) := Lib.hid (shut_row HG.out t3 (fun j hj => by rw [← HSS.out]; exact HSKp.out j hj))
          have HB3 : Hid ((wr.setCell ⟨w.heap.size, p', none⟩ (.int .u8 s)).heap[w.heap.size + 1]? = some (.cells (rwb 256 fun _ => 0) 35 (0, 0))) := Lib.hid ((heap_setCell_other _ ⟨_, _, _⟩ _ _ (by simp)).trans HB.out)
          have HL3 : Hid (Below w.heap.size w (wr.setCell ⟨w.heap.size, p', none⟩ (.int .u8 s))) := Lib.hid (HL.out.setCell (by simp) _)
          by_cases hk4 : k = 254
          · have hp1 : p' = 1 := u9.2 hk4
            subst hk4
            subst hp1
            have c0 := cell_rwb (i := 0) HA3.out (by omega)
            have f0 := frozen_of_row (wr.setCell ⟨w.heap.size, 1, none⟩ (.int .u8 s)) w.heap.size 0 _ _ HA3.out
            have HA4 : Hid (((wr.setCell ⟨w.heap.size, 1, none⟩ (.int .u8 s)).setCell ⟨w.heap.size, 0, none⟩ (.int .u8 99)).heap[w.heap.size]? = some (.cells (rwb 256 subI) 35 (0, 0))) := Lib.hid (shut_row HA3.out (by omega) (fun j hj => subK_all hj))
            have HB4 : Hid (((wr.setCell ⟨w.heap.size, 1, none⟩ (.int .u8 s)).setCell ⟨w.heap.size, 0, none⟩ (.int .u8 99)).heap[w.heap.size + 1]? = some (.cells (rwb 256 fun _ => 0) 35 (0, 0))) := Lib.hid ((heap_setCell_other _ ⟨_, _, _⟩ _ _ (by simp)).trans HB3.out)
            have HL4 : Hid (Below w.heap.size w ((wr.setCell ⟨w.heap.size, 1, none⟩ (.int .u8 s)).setCell ⟨w.heap.size, 0, none⟩ (.int .u8 99))) := Lib.hid (HL3.out.setCell (by simp) _)
            clear u8 u9 HA3 HB3 HL3 HG
            generalize subK (254 + 1) 0 = old0 at *
            go_wp2_with (with_reducible refine wpList_ld rowBox rfl (.tmp 0) rfl rfl HA4.out (by omega) (G := subI) (fun j _ => by rw [Nat.zero_add]) ?_)
            go_loopw [47] (fun i wr => ∃ m : Nat, m ≤ 256 ∧ i = .int .i64 m ∧ Hid (wr.heap[w.heap.size]? = some (.cells (rwb 256 subI) 35 (0, 0))) ∧ Hid (wr.heap[w.heap.size + 1]? = some (.cells (rwb 256 (unsK m)) 35 (0, 0))) ∧ Hid (Below w.heap.size w wr)) (fun i _ => 256 - (intOf i).toNat)
            case atStart => exact ⟨0, by omega, rfl, HA4, by rw [rwb_congr (f := unsK 0) (g := fun _ => 0) (fun j _ => if_neg (by omega))]; exact HB4, HL4⟩
            case round =>
              clear HA4 HB4 HL4 HTW HSS HSL HRL HSF HROT HS0 HPQ HLK HSKp
              obtain ⟨m, hm, rfl, HA, HB, HL⟩ := hrel
              by_cases hmlt : m < 256
              · have hs2 := (tab_s m hmlt).1
                have HIX : Hid (∀ W, (Instr.index 35 (.agg (rwb 256 subI)) (.int .i64 m)).run Try.prog W = .ok (.int .u8 ((subT m : Nat) : Int)) W) := Lib.hid (fun W => run_index_rwb hmlt)
                have HUK := Lib.hid (fun j (hj : j < 256) => unsK_step hmlt hj)
                have cx2 := cell_rwb HB.out hs2
                have fx2 := frozen_of_row wr (w.heap.size + 1) (subT m) _ _ HB.out
                generalize unsK m (subT m) = old2 at *
                generalize subT m = s2 at *
                have hs2i : (s2 : Int) < 256 := by omega
                have hmi : (m : Int) < 256 := by omega
                have hix := HIX.out
                go_wp2_with fail
                go_roundw
                case rel =>
                  first
                    | exact ⟨m + 1, by omega, by go_num, Lib.hid ((heap_setCell_other _ ⟨_, _, _⟩ _ _ (by simp)).trans HA.out), Lib.hid (shut_row HB.out hs2 HUK.out), Lib.hid (HL.out.setCell (by simp) _)⟩
                    | ((repeat apply Exists.intro); refine ⟨?_, rfl⟩; exact ⟨m + 1, by omega, by go_num, Lib.hid ((heap_setCell_other _ ⟨_, _, _⟩ _ _ (by simp)).trans HA.out), Lib.hid (shut_row HB.out hs2 HUK.out), Lib.hid (HL.out.setCell (by simp) _)⟩)
                case measure =>
                  simp [intOf] <;> omega
              · obtain rfl : m = 256 := by omega
                have HB5 : Hid (wr.heap[w.heap.size + 1]? = some (.cells (rwb 256 unsI) 35 (0, 0))) := Lib.hid (by rw [HB.out, rwb_congr (g := unsI) (fun j hj => unsK_all hj)])
                have HI0 : Hid (Inv wr (fun g => g = w.heap.size ∨ g = w.heap.size + 1) (gh2 (some (w.heap.size, .cells (rwb 256 subI) 35 (0, 0))) (some (w.heap.size + 1, .cells (rwb 256 unsI) 35 (0, 0)))) wr.drew) := Lib.hid (Inv.start2 HA.out (.inl rfl) (by
                  rintro g o h
                  simp only [Option.some.injEq, Prod.mk.injEq] at h
                  obtain ⟨rfl, rfl⟩ := h
                  exact ⟨HB5.out, by omega, .inr rfl⟩))
                clear HB
                have hmi : ¬ ((256 : Nat) : Int) < 256 := by omega
                go_wp2_with fail
                apply wp_region_eff _ _ HI0.out (hm := by kernel_rfl)
                case h =>
                  apply SeqF.read (v := .agg (rwb 256 subI)) [0]
                  · (first | rfl | (go_simp; done) | (simp [Region.wanted, yielded]; done))
                  · exact fun γ' W hg hI => exec_load rfl rfl (run_load_rwb rowBox (hI.here 0 _ _ ((hg 0 (by simp)).trans rfl)).1 (by omega) (fun j _ => by rw [Nat.zero_add]))
                  go_simp
                  apply SeqF.read (v := .agg (rwb 256 unsI)) [1]
                  · (first | rfl | (go_simp; done) | (simp [Region.wanted, yielded]; done))
                  · exact fun γ' W hg hI => exec_load rfl rfl (run_load_rwb rowBox (hI.here 1 _ _ ((hg 1 (by simp)).trans rfl)).1 (by omega) (fun j _ => by rw [Nat.zero_add]))
                  go_simp
                  apply SeqF.store [0] 0 w.heap.size (.cells (rwb 256 subI) 35 (0, 0)) rfl (by simp) (fun _ => .cells (rwb 256 subI) 35 (0, 0))
                  · exact fun _ _ => rfl
                  · (first | rfl | (go_simp; done) | (simp [Region.wanted, yielded]; done))
                  · exact fun γ' W hg hI hW => ⟨_, exec_store rfl rfl rfl (run_store_rwb rowBox hW), only_setRow hW⟩
                  go_simp
                  apply SeqF.store [1] 1 (w.heap.size + 1) (.cells (rwb 256 unsI) 35 (0, 0)) rfl (by simp) (fun _ => .cells (rwb 256 unsI) 35 (0, 0))
                  · exact fun _ _ => rfl
                  · (first | rfl | (go_simp; done) | (simp [Region.wanted, yielded]; done))
                  · exact fun γ' W hg hI hW => ⟨_, exec_store rfl rfl rfl (run_store_rwb rowBox hW), only_setRow hW⟩
                  go_simp
                  apply SeqF.done
                  intro w9 hI9
                  have h0 := (hI9.here 0 w.heap.size (.cells (rwb 256 subI) 35 (0, 0)) rfl).1
                  have h1 := (hI9.here 1 (w.heap.size + 1) (.cells (rwb 256 unsI) 35 (0, 0)) rfl).1
                  have HB9 := Lib.hid (hI9.belowS HL.out HL.out.size (by rintro g (rfl | rfl) <;> omega))
                  clear hI9
                  go_simp
                  go_wp2_with fail
                  refine bodyPost_ret (v := .tuple #[.agg (rwb 256 subI), .agg (rwb 256 unsI)]) ?_ rfl ?_
                  · exact results_cell2 (fn := Try.f21) Try.results21 rfl rfl (run_loadVar_rwb rowBox h0 (by omega) (fun j _ => by rw [Nat.zero_add])) (run_loadVar_rwb rowBox h1 (by omega) (fun j _ => by rw [Nat.zero_add]))
                  · exact ⟨rfl, HB9.out⟩
                case hl => rfl
                case ho => kernel_rfl
          · have hp1 : ¬ (p' : Int) = 1 := fun h => hk4 (u9.1 (by omega))
            go_wp2_with fail
            go_roundw
            case rel =>
              first
                | exact ⟨k + 1, by omega, by rw [HPQ.out.1], by rw [HPQ.out.2], HA3, HB3, HL3⟩
                | ((repeat apply Exists.intro); refine ⟨?_, rfl⟩; exact ⟨k + 1, by omega, by rw [HPQ.out.1], by rw [HPQ.out.2], HA3, HB3, HL3⟩)
            case measure =>
              have h2 := HLK.out
              have h3 := logZ_at (k := k + 1) (by omega)
              rw [HPQ.out.1] at h3
              simp [intOf, h2, h3]
              omega
    · rw [if_pos h1] at t4 x5
      rw [← t4] at x4 l4
      clear t4
      go_wp2_with fail
      refine (HTW.out wr).mono ?_
      rintro e w1 ⟨rfl, rfl⟩
      go_wp2_with fail
      go_loopw [4, 5] (fun x y wr => ∃ i : Nat, i ≤ 4 ∧ x = .int .u8 (sF q' i : Nat) ∧ y = .int .i64 (i + 1 : Nat) ∧ Hid (wr.heap[w.heap.size]? = some (.cells (rwb 256 (subK k)) 35 (0, 0))) ∧ Hid (wr.heap[w.heap.size + 1]? = some (.cells (rwb 256 fun _ => 0) 35 (0, 0))) ∧ Hid (Below w.heap.size w wr)) (fun _ y _ => 5 - (intOf y).toNat)
      case atStart => exact ⟨0, by omega, by rw [← HS0.out], rfl, HA, HB, HL⟩
      case round =>
        clear HA HB HL
        obtain ⟨i, hi4, rfl, rfl, HA, HB, HL⟩ := hrel
        by_cases hlt : i < 4
        · have hsl := HSL.out i
          have hsf := HSF.out i
          have HR1 := Lib.hid (fun W => HROT.out (i + 1) W (by omega))
          have hrl := HRL.out (i + 1)
          have hsn := HSL.out (i + 1)
          obtain ⟨s', hs'⟩ : ∃ s', sF q' (i + 1) = s' := ⟨_, rfl⟩
          rw [hs'] at hsf hsn
          have HS' := Lib.hid hs'
          clear hs'
          have hrs : (rot q' (i + 1) : Nat) < 256 := hrl
          generalize sF q' i = s at *
          generalize rot q' (i + 1) = r at *
          go_wp2_with fail
          refine (HR1.out _).mono ?_
          rintro e w2 ⟨rfl, hb⟩
          have HA2 := Lib.hid ((hb.block _ (lt_of_heap HA.out)).trans HA.out)
          have HB2 := Lib.hid ((hb.block _ (lt_of_heap HB.out)).trans HB.out)
          have HL2 := Lib.hid (bl_then HL.out HL.out.size hb)
          clear hb
          go_wp2_with fail
          go_roundw
          case rel =>
            first
              | exact ⟨i + 1, by omega, by rw [HS'.out], by go_num, HA2, HB2, HL2⟩
              | ((repeat apply Exists.intro); refine ⟨?_, rfl⟩; exact ⟨i + 1, by omega, by rw [HS'.out], by go_num, HA2, HB2, HL2⟩)
          case measure =>
            simp [intOf]
            omega
        · obtain rfl : i = 4 := by omega
          obtain ⟨u7, u8, u9⟩ := HT.out
          rw [← u7]
          have hsp : subT p' < 256 := (tab_s p' t3).1
          have HSKp := Lib.hid HSK.out
          obtain ⟨s, hs⟩ : ∃ s, subT p' = s := ⟨_, rfl⟩
          rw [hs] at hsp
          rw [hs]
          have HSS := Lib.hid hs
          clear hs u7 HSK
          have hg := HA.out
          have cx := cell_rwb hg t3
          have fx := frozen_of_row wr w.heap.size p' _ _ hg
          have HG := Lib.hid hg
          clear hg
          generalize subK k p' = old at *
          have hpi : (p' : Int) < 256 := by omega
          have hp0 : (0 : Int) ≤ (p' : Int) := by omega
          have HA3 : Hid ((wr.setCell ⟨w.heap.size, p', none⟩ (.int .u8 s)).heap[w.heap.size]? = some (.cells (rwb 256 (subK (k + 1))) 35 (0, 0))) := Lib.hid (shut_row HG.out t3 (fun j hj => by rw [← HSS.out]; exact HSKp.out j hj))
          have HB3 : Hid ((wr.setCell ⟨w.heap.size, p', none⟩ (.int .u8 s)).heap[w.heap.size + 1]? = some (.cells (rwb 256 fun _ => 0) 35 (0, 0))) := Lib.hid ((heap_setCell_other _ ⟨_, _, _⟩ _ _ (by simp)).trans HB.out)
          have HL3 : Hid (Below w.heap.size w (wr.setCell ⟨w.heap.size, p', none⟩ (.int .u8 s))) := Lib.hid (HL.out.setCell (by simp) _)
          by_cases hk4 : k = 254
          · have hp1 : p' = 1 := u9.2 hk4
            subst hk4
            subst hp1
            have c0 := cell_rwb (i := 0) HA3.out (by omega)
            have f0 := frozen_of_row (wr.setCell ⟨w.heap.size, 1, none⟩ (.int .u8 s)) w.heap.size 0 _ _ HA3.out
            have HA4 : Hid (((wr.setCell ⟨w.heap.size, 1, none⟩ (.int .u8 s)).setCell ⟨w.heap.size, 0, none⟩ (.int .u8 99)).heap[w.heap.size]? = some (.cells (rwb 256 subI) 35 (0, 0))) := Lib.hid (shut_row HA3.out (by omega) (fun j hj => subK_all hj))
            have HB4 : Hid (((wr.setCell ⟨w.heap.size, 1, none⟩ (.int .u8 s)).setCell ⟨w.heap.size, 0, none⟩ (.int .u8 99)).heap[w.heap.size + 1]? = some (.cells (rwb 256 fun _ => 0) 35 (0, 0))) := Lib.hid ((heap_setCell_other _ ⟨_, _, _⟩ _ _ (by simp)).trans HB3.out)
            have HL4 : Hid (Below w.heap.size w ((wr.setCell ⟨w.heap.size, 1, none⟩ (.int .u8 s)).setCell ⟨w.heap.size, 0, none⟩ (.int .u8 99))) := Lib.hid (HL3.out.setCell (by simp) _)
            clear u8 u9 HA3 HB3 HL3 HG
            generalize subK (254 + 1) 0 = old0 at *
            go_wp2_with (with_reducible refine wpList_ld rowBox rfl (.tmp 0) rfl rfl HA4.out (by omega) (G := subI) (fun j _ => by rw [Nat.zero_add]) ?_)
            go_loopw [47] (fun i wr => ∃ m : Nat, m ≤ 256 ∧ i = .int .i64 m ∧ Hid (wr.heap[w.heap.size]? = some (.cells (rwb 256 subI) 35 (0, 0))) ∧ Hid (wr.heap[w.heap.size + 1]? = some (.cells (rwb 256 (unsK m)) 35 (0, 0))) ∧ Hid (Below w.heap.size w wr)) (fun i _ => 256 - (intOf i).toNat)
            case atStart => exact ⟨0, by omega, rfl, HA4, by rw [rwb_congr (f := unsK 0) (g := fun _ => 0) (fun j _ => if_neg (by omega))]; exact HB4, HL4⟩
            case round =>
              clear HA4 HB4 HL4 HTW HSS HSL HRL HSF HROT HS0 HPQ HLK HSKp
              obtain ⟨m, hm, rfl, HA, HB, HL⟩ := hrel
              by_cases hmlt : m < 256
              · have hs2 := (tab_s m hmlt).1
                have HIX : Hid (∀ W, (Instr.index 35 (.agg (rwb 256 subI)) (.int .i64 m)).run Try.prog W = .ok (.int .u8 ((subT m : Nat) : Int)) W) := Lib.hid (fun W => run_index_rwb hmlt)
                have HUK := Lib.hid (fun j (hj : j < 256) => unsK_step hmlt hj)
                have cx2 := cell_rwb HB.out hs2
                have fx2 := frozen_of_row wr (w.heap.size + 1) (subT m) _ _ HB.out
                generalize unsK m (subT m) = old2 at *
                generalize subT m = s2 at *
                have hs2i : (s2 : Int) < 256 := by omega
                have hmi : (m : Int) < 256 := by omega
                have hix := HIX.out
                go_wp2_with fail
                go_roundw
                case rel =>
                  first
                    | exact ⟨m + 1, by omega, by go_num, Lib.hid ((heap_setCell_other _ ⟨_, _, _⟩ _ _ (by simp)).trans HA.out), Lib.hid (shut_row HB.out hs2 HUK.out), Lib.hid (HL.out.setCell (by simp) _)⟩
                    | ((repeat apply Exists.intro); refine ⟨?_, rfl⟩; exact ⟨m + 1, by omega, by go_num, Lib.hid ((heap_setCell_other _ ⟨_, _, _⟩ _ _ (by simp)).trans HA.out), Lib.hid (shut_row HB.out hs2 HUK.out), Lib.hid (HL.out.setCell (by simp) _)⟩)
                case measure =>
                  simp [intOf] <;> omega
              · obtain rfl : m = 256 := by omega
                have HB5 : Hid (wr.heap[w.heap.size + 1]? = some (.cells (rwb 256 unsI) 35 (0, 0))) := Lib.hid (by rw [HB.out, rwb_congr (g := unsI) (fun j hj => unsK_all hj)])
                have HI0 : Hid (Inv wr (fun g => g = w.heap.size ∨ g = w.heap.size + 1) (gh2 (some (w.heap.size, .cells (rwb 256 subI) 35 (0, 0))) (some (w.heap.size + 1, .cells (rwb 256 unsI) 35 (0, 0)))) wr.drew) := Lib.hid (Inv.start2 HA.out (.inl rfl) (by
                  rintro g o h
                  simp only [Option.some.injEq, Prod.mk.injEq] at h
                  obtain ⟨rfl, rfl⟩ := h
                  exact ⟨HB5.out, by omega, .inr rfl⟩))
                clear HB
                have hmi : ¬ ((256 : Nat) : Int) < 256 := by omega
                go_wp2_with fail
                apply wp_region_eff _ _ HI0.out (hm := by kernel_rfl)
                case h =>
                  apply SeqF.read (v := .agg (rwb 256 subI)) [0]
                  · (first | rfl | (go_simp; done) | (simp [Region.wanted, yielded]; done))
                  · exact fun γ' W hg hI => exec_load rfl rfl (run_load_rwb rowBox (hI.here 0 _ _ ((hg 0 (by simp)).trans rfl)).1 (by omega) (fun j _ => by rw [Nat.zero_add]))
                  go_simp
                  apply SeqF.read (v := .agg (rwb 256 unsI)) [1]
                  · (first | rfl | (go_simp; done) | (simp [Region.wanted, yielded]; done))
                  · exact fun γ' W hg hI => exec_load rfl rfl (run_load_rwb rowBox (hI.here 1 _ _ ((hg 1 (by simp)).trans rfl)).1 (by omega) (fun j _ => by rw [Nat.zero_add]))
                  go_simp
                  apply SeqF.store [0] 0 w.heap.size (.cells (rwb 256 subI) 35 (0, 0)) rfl (by simp) (fun _ => .cells (rwb 256 subI) 35 (0, 0))
                  · exact fun _ _ => rfl
                  · (first | rfl | (go_simp; done) | (simp [Region.wanted, yielded]; done))
                  · exact fun γ' W hg hI hW => ⟨_, exec_store rfl rfl rfl (run_store_rwb rowBox hW), only_setRow hW⟩
                  go_simp
                  apply SeqF.store [1] 1 (w.heap.size + 1) (.cells (rwb 256 unsI) 35 (0, 0)) rfl (by simp) (fun _ => .cells (rwb 256 unsI) 35 (0, 0))
                  · exact fun _ _ => rfl
                  · (first | rfl | (go_simp; done) | (simp [Region.wanted, yielded]; done))
                  · exact fun γ' W hg hI hW => ⟨_, exec_store rfl rfl rfl (run_store_rwb rowBox hW), only_setRow hW⟩
                  go_simp
                  apply SeqF.done
                  intro w9 hI9
                  have h0 := (hI9.here 0 w.heap.size (.cells (rwb 256 subI) 35 (0, 0)) rfl).1
                  have h1 := (hI9.here 1 (w.heap.size + 1) (.cells (rwb 256 unsI) 35 (0, 0)) rfl).1
                  have HB9 := Lib.hid (hI9.belowS HL.out HL.out.size (by rintro g (rfl | rfl) <;> omega))
                  clear hI9
                  go_simp
                  go_wp2_with fail
                  refine bodyPost_ret (v := .tuple #[.agg (rwb 256 subI), .agg (rwb 256 unsI)]) ?_ rfl ?_
                  · exact results_cell2 (fn := Try.f21) Try.results21 rfl rfl (run_loadVar_rwb rowBox h0 (by omega) (fun j _ => by rw [Nat.zero_add])) (run_loadVar_rwb rowBox h1 (by omega) (fun j _ => by rw [Nat.zero_add]))
                  · exact ⟨rfl, HB9.out⟩
                case hl => rfl
                case ho => kernel_rfl
          · have hp1 : ¬ (p' : Int) = 1 := fun h => hk4 (u9.1 (by omega))
            go_wp2_with fail
            go_roundw
            case rel =>
              first
                | exact ⟨k + 1, by omega, by rw [HPQ.out.1], by rw [HPQ.out.2], HA3, HB3, HL3⟩
                | ((repeat apply Exists.intro); refine ⟨?_, rfl⟩; exact ⟨k + 1, by omega, by rw [HPQ.out.1], by rw [HPQ.out.2], HA3, HB3, HL3⟩)
            case measure =>
              have h2 := HLK.out
              have h3 := logZ_at (k := k + 1) (by omega)
              rw [HPQ.out.1] at h3
              simp [intOf, h2, h3]
              omega
end Go.Proofs.Ytppponobefljgaa

