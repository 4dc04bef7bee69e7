/- What is proved: what next of the reference of package utf answers when it is called; conditions: the slice reads as it is said to, and is not empty. -/
import Derived.Test.YtghadceeckbgpaaUtf5
set_option linter.unusedSimpArgs false
set_option linter.unusedVariables false
namespace Go.Proofs.Ytghadceeckbgpaa
open Go.RowKit
set_option maxRecDepth 100000
set_option maxHeartbeats 4000000
def refN (bs : List Int) : Int × Nat × Bool :=
  if (begS bs).1 = (begS bs).2 ∧ 0 < (begS bs).1 then (charS (bs.take (begS bs).1), (begS bs).1, true) else (65533, max (begS bs).1 1, decide ((begS bs).1 < bs.length))
theorem take_getD (bs : List Int) {n j : Nat} (h : j < n) : (bs.take n).getD j 0 = bs.getD j 0 := by
  rw [List.getD_eq_getElem?_getD, List.getD_eq_getElem?_getD, List.getElem?_take_of_lt h]
theorem good_take {bs : List Int} {n j : Nat} (h : j < n) : goodK (bs.take n) j ↔ goodK bs j := by
  unfold goodK
  rw [take_getD bs h, take_getD bs (show 0 < n by omega)]
theorem begR_take {bs : List Int} {n : Nat} (hn : n < bs.length) (h : n + 1 ≤ (begS bs).1) : begR (bs.take (n + 1)) = (chF (bs.getD 0 0 - baseS (bs.getD 0 0)) ((bs.take (n + 1)).drop 1), (begS bs).2) := by
  unfold begS at *
  split at h
  · simp at h
  · rename_i h0
    rw [if_neg h0]
    have hl : (bs.take (n + 1)).length = n + 1 := by simp; omega
    have hz := cntF_sz 4 1 bs (by omega)
    rw [begR_good (by omega) (by rw [hl, take_getD bs (by omega)]; simp only at h; omega) (fun j h1 h2 => (good_take (by omega)).2 (cntF_good 4 1 j bs h1 (by simp only at h; omega)).1), take_getD bs (by omega)]
theorem begR_end {bs : List Int} {n : Nat} (hn : n < bs.length) (h : n = (begS bs).1) : begR (bs.take (n + 1)) = (0, 0) := by
  have hl : (bs.take (n + 1)).length = n + 1 := by simp; omega
  have hsz := (begS_b bs (by omega)).2.2.2
  unfold begS at *
  split at h
  · rename_i h0
    exact begR_long (by rw [take_getD bs (by omega), h0, hl]; omega)
  · rename_i h0
    rw [if_neg h0] at hsz
    simp only at h hsz
    have h1 : 1 ≤ n := by omega
    have hb := cntF_bad 4 1 bs (by omega)
    rw [← h] at hb
    rcases Nat.lt_or_ge n (szS (bs.getD 0 0)) with h2 | h2
    · exact begR_bad (n := n) h1 (by omega) (fun hg => hb ⟨(good_take (by omega)).1 hg, hn, h2⟩)
    · exact begR_long (by rw [take_getD bs (by omega), hl]; omega)
/-- A whole form's character. -/
theorem char_whole {bs : List Int} (hok : okB bs) {n : Nat} (hp : 0 < n) (hn : n ≤ bs.length) (hs : szS (bs.getD 0 0) = n) : chF (bs.getD 0 0 - baseS (bs.getD 0 0)) ((bs.take n).drop 1) = charS (bs.take n) := by
  unfold charS
  congr 1
  have hl : (bs.take n).length = n := by simp; omega
  have hb := hok.getD 0
  unfold chH
  rw [hl, take_getD bs hp]
  generalize bs.getD 0 0 = b at *
  have h4 : n ≤ 4 := hs ▸ szS_le b
  unfold baseS
  rw [hs]
  unfold szS at hs
  rcases (by omega : n = 1 ∨ n = 2 ∨ n = 3 ∨ n = 4) with rfl | rfl | rfl | rfl
  · simp
  all_goals
    simp only [Nat.reduceSub, Nat.reducePow, if_true, if_false, Nat.reduceEqDiff]
    repeat' split at hs
    all_goals first | (exfalso; omega) | (simp; omega) | omega
theorem refnext_any (v : Value) (bs : List Int) (w : World) (h : BB w v bs) (hp : 0 < bs.length) :
    Calls Try.prog 24 #[v] w fun en w' => en = .returned (.tuple #[.int .i32 (refN bs).1, .int .i64 (refN bs).2.1, .bool (refN bs).2.2]) ∧ Below w.heap.size w w' := by
  obtain ⟨q1, q2, q3, q4⟩ := begS_b bs hp
  have HH := Lib.hid h
  have HS : Hid (refN bs = if (begS bs).1 = (begS bs).2 ∧ 0 < (begS bs).1 then (charS (bs.take (begS bs).1), (begS bs).1, true) else (65533, max (begS bs).1 1, decide ((begS bs).1 < bs.length))) := Lib.hid rfl
  have HT := Lib.hid (fun n (hn : n < bs.length) h => begR_take (bs := bs) hn h)
  have HE := Lib.hid (fun n (hn : n < bs.length) h => begR_end (bs := bs) hn h)
  have hz : (begS bs).2 = szS (bs.getD 0 0) := by
    unfold begS
    split
    · rename_i h0
      rw [h0]
    · rfl
  have HW := Lib.hid (fun n (hp : 0 < n) (hn : n ≤ bs.length) (hs : (begS bs).2 = n) => char_whole (bs := bs) h.ok hp hn (hz.symm.trans hs))
  obtain ⟨A, cap, rfl, hnc, hlc, hcm⟩ : ∃ A cap, v = .slice A bs.length cap ∧ (A = none → cap = 0) ∧ bs.length ≤ cap ∧ cap ≤ maxLen := by
    obtain ⟨_, _, A, cap, e1, _, e2⟩ := h
    exact ⟨A, cap, e1, e2⟩
  have hlen := h.len
  clear h hz hnc
  generalize bs.getD 0 0 - baseS (bs.getD 0 0) = c0 at *
  generalize begS bs = p at *
  obtain ⟨cnt, sz⟩ := p
  simp only at *
  go_enter Try.func24, Try.ntmps24
  go_wp2_with fail
  go_loopw [5] (fun a wr => ∃ k : Nat, a = .int .i64 k ∧ k ≤ cnt ∧ (k < sz ∨ k = 0) ∧ Hid (Below w.heap.size w wr)) (fun a _ => 5 - (intOf a).toNat)
  case atStart => exact ⟨0, rfl, by omega, by omega, Lib.hid (Below.refl _ _)⟩
  case round =>
    obtain ⟨k, rfl, hk, hks, HB⟩ := hrel
    by_cases hl : k < bs.length
    · have HBB := Lib.hid (((HH.out.below HB.out)).cut (j := k + 1) hl)
      have hcp : ((k : Int) + 1) ≤ (cap : Int) := by omega
      have hi1 : (k : Int) < (bs.length : Int) := by omega
      have hto : ((k : Int) + 1).toNat = k + 1 := by omega
      by_cases hc : k + 1 ≤ cnt
      · have HT1 := Lib.hid (HT.out k hl hc)
        have HW1 := Lib.hid (HW.out (k + 1) (by omega) (by omega))
        clear HT HE HW
        go_wp2_with fail
        refine (begins_any _ (bs.take (k + 1)) wr HBB.out (by simp; omega)).mono ?_
        rw [HT1.out]
        generalize chF c0 ((bs.take (k + 1)).drop 1) = c at *
        rintro en w1 ⟨rfl, hb⟩
        have HB2 := Lib.hid (bl_then HB.out HB.out.size hb)
        clear hb HT1
        by_cases hw : sz = k + 1
        · have hce := HW1.out hw
          obtain rfl : cnt = k + 1 := by omega
          subst hw
          have HS2 := Lib.hid (HS.out.trans ((if_pos ⟨rfl, by omega⟩).trans (by rw [← hce])))
          clear HS hce HW1
          go_wp2_with fail
          refine bodyPost_ret (v := .tuple #[.int .i32 c, .int .i64 (k + 1 : Nat), .bool true]) (by simp [results, Try.results24, go_sem]) rfl ?_
          rw [HS2.out]
          exact ⟨rfl, HB2.out⟩
        · have hw1 : ¬ (sz : Int) = (k : Int) + 1 := by omega
          have hw2 : ¬ (sz : Int) = 0 := by omega
          clear HW1
          go_wp2_with fail
          go_roundw
          case rel => exact ⟨k + 1, by go_num, by omega, by omega, HB2⟩
          case measure =>
            simp [intOf]
            omega
      · obtain rfl : k = cnt := by omega
        have HE1 := Lib.hid (HE.out k hl rfl)
        have HS2 := Lib.hid (HS.out.trans ((if_neg (by omega)).trans (by rw [decide_eq_true hl])))
        clear HT HE HW HS
        go_wp2_with fail
        refine (begins_any _ (bs.take (k + 1)) wr HBB.out (by simp; omega)).mono ?_
        rw [HE1.out]
        rintro en w1 ⟨rfl, hb⟩
        have HB2 := Lib.hid (bl_then HB.out HB.out.size hb)
        clear hb HE1
        rcases Nat.lt_or_ge k 1 with h0 | h0
        · have hm : max k 1 = 1 := by omega
          rw [hm] at HS2
          have h0i : (k : Int) < 1 := by omega
          go_wp2_with fail
          refine bodyPost_ret (v := .tuple #[.int .i32 65533, .int .i64 1, .bool true]) (by simp [results, Try.results24, go_sem]) rfl ?_
          rw [HS2.out]
          exact ⟨rfl, HB2.out⟩
        · have hm : max k 1 = k := by omega
          rw [hm] at HS2
          have h0i : ¬ (k : Int) < 1 := by omega
          go_wp2_with fail
          refine bodyPost_ret (v := .tuple #[.int .i32 65533, .int .i64 k, .bool true]) (by simp [results, Try.results24, go_sem]) rfl ?_
          rw [HS2.out]
          exact ⟨rfl, HB2.out⟩
    · obtain rfl : k = cnt := by omega
      have HS2 := Lib.hid (HS.out.trans ((if_neg (by omega)).trans (by rw [decide_eq_false hl])))
      obtain rfl : bs.length = k := by omega
      have hi1 : ¬ (bs.length : Int) < (bs.length : Int) := by omega
      clear HT HE HW HS
      rw [show max bs.length 1 = bs.length by omega] at HS2
      go_wp2_with fail
      refine bodyPost_ret (v := .tuple #[.int .i32 65533, .int .i64 bs.length, .bool false]) (by simp [results, Try.results24, go_sem]) rfl ?_
      rw [HS2.out]
      exact ⟨rfl, HB.out⟩
end Go.Proofs.Ytghadceeckbgpaa
