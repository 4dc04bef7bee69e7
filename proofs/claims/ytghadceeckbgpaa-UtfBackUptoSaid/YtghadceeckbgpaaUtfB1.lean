/- What is proved: characters that are encoded are decoded as they were, what is certain of bytes stays, bytes of forms alone are encoded again as they were; no condition beyond those typed. -/
import Derived.Test.YtghadceeckbgpaaUtfR5
set_option linter.unusedSimpArgs false
set_option linter.unusedVariables false
namespace Go.Proofs.Ytghadceeckbgpaa
set_option maxRecDepth 100000
set_option maxHeartbeats 4000000
theorem getD_app {xs ys : List Int} {j : Nat} (h : j < xs.length) : (xs ++ ys).getD j 0 = xs.getD j 0 := by
  rw [List.getD_eq_getElem?_getD, List.getD_eq_getElem?_getD, List.getElem?_append_left h]
theorem good_app {xs ys : List Int} {j : Nat} (h : j < xs.length) : goodK (xs ++ ys) j ↔ goodK xs j := by
  unfold goodK
  rw [getD_app h, getD_app (show 0 < xs.length by omega)]
/-- How far a form goes, given by what stands there. -/
theorem begS_of {bs : List Int} {n s : Nat} (hs : szS (bs.getD 0 0) = s) (hs0 : s ≠ 0) (h1 : 1 ≤ n) (hg : ∀ j, 1 ≤ j → j < n → goodK bs j ∧ j < bs.length ∧ j < s) (hb : ¬ (goodK bs n ∧ n < bs.length ∧ n < s)) : begS bs = (n, s) := by
  unfold begS
  rw [hs, if_neg hs0]
  subst hs
  rw [cntF_eq h1 hg hb]
theorem begS_whole {l : List Int} (hp : 0 < l.length) (h : (begS l).1 = (begS l).2 ∧ 0 < (begS l).1) (r : List Int) : begS (l ++ r) = begS l := by
  obtain ⟨q1, q2, q3, q4⟩ := begS_b l hp
  have h0 : szS (l.getD 0 0) ≠ 0 := by
    intro h0
    unfold begS at h
    rw [if_pos h0] at h
    simp at h
  have e : begS l = (cntF 4 1 l, szS (l.getD 0 0)) := by unfold begS; rw [if_neg h0]
  rw [e] at h q1 ⊢
  simp only at h q1
  refine begS_of (by rw [getD_app hp]) h0 (by omega) (fun j h1 h2 => ?_) (by omega)
  obtain ⟨g1, g2, g3⟩ := cntF_good 4 1 j l h1 h2
  exact ⟨(good_app g2).2 g1, by simp; omega, g3⟩
theorem begS_stuck {l : List Int} (hp : 0 < l.length) (h : ¬ ((begS l).1 = (begS l).2 ∧ 0 < (begS l).1)) (hn : (begS l).1 ≠ l.length) (r : List Int) : begS (l ++ r) = begS l := by
  obtain ⟨q1, q2, q3, q4⟩ := begS_b l hp
  by_cases h0 : szS (l.getD 0 0) = 0
  · unfold begS
    rw [getD_app hp, if_pos h0, if_pos h0]
  · have e : begS l = (cntF 4 1 l, szS (l.getD 0 0)) := by unfold begS; rw [if_neg h0]
    have hb := cntF_bad 4 1 l (by omega)
    have hle := cntF_le (f := 4) (k := 1) (bs := l)
    rw [e] at h hn q1 ⊢
    simp only at h hn q1
    refine begS_of (by rw [getD_app hp]) h0 hle (fun j h1 h2 => ?_) (fun hh => hb ⟨(good_app (by omega)).1 hh.1, by omega, hh.2.2⟩)
    obtain ⟨g1, g2, g3⟩ := cntF_good 4 1 j l h1 h2
    exact ⟨(good_app g2).2 g1, by simp; omega, g3⟩
/-- What is certain stays. -/
theorem next_stays {l : List Int} (hp : 0 < l.length) (hn : (nextS l false).2 ≠ 0) (r : List Int) : nextS (l ++ r) true = nextS l false := by
  obtain ⟨q1, q2, q3, q4⟩ := begS_b l hp
  by_cases h : (begS l).1 = (begS l).2 ∧ 0 < (begS l).1
  · have e := begS_whole hp h r
    unfold nextS
    rw [e, if_pos h, if_pos h, List.take_append_of_le_length q1]
  · have hne : (begS l).1 ≠ l.length := by
      intro h2
      unfold nextS at hn
      rw [if_neg h, if_pos (by simp [h2])] at hn
      exact hn rfl
    have e := begS_stuck hp h hne r
    unfold nextS
    rw [e, if_neg h, if_neg h, if_neg (by simp), if_neg (fun h2 => hne h2.1)]
theorem take_dec : ∀ (n : Nat) (l r : List Int), l.length ≤ n → decS (l ++ r) = (tkS l).1 ++ decS ((tkS l).2 ++ r)
  | 0, l, r, h => by
    obtain rfl : l = [] := List.eq_nil_of_length_eq_zero (by omega)
    rw [tkS_stop (by simp)]
    rfl
  | n + 1, l, r, h => by
    by_cases h1 : 0 < l.length ∧ (nextS l false).2 ≠ 0
    · have e := next_stays h1.1 h1.2 r
      have hb := nextS_b l false h1.1
      have := h1.2
      rw [tkS_next h1.1 h1.2, decS_cons (by simp; omega), e, List.drop_append_of_le_length hb.1, take_dec n (l.drop (nextS l false).2) r (by simp; omega)]
      rfl
    · rw [tkS_stop h1]
      rfl
theorem form_next {c : Int} (h : mayC c = true) (r : List Int) : nextS (formS c ++ r) true = (c, (formS c).length) := by
  have hm : 0 ≤ c ∧ c ≤ 1114111 ∧ (c < 55296 ∨ 57343 < c) := of_decide_eq_true h
  clear h
  obtain ⟨m0, m1, m2⟩ := hm
  have key : ∀ n, (formS c).length = n → begS (formS c ++ r) = (n, n) → charS (formS c) = c → 0 < n → nextS (formS c ++ r) true = (c, n) := by
    intro n hn hb hc h0
    unfold nextS
    rw [hb]
    simp only
    rw [if_pos ⟨trivial, h0⟩, List.take_append_of_le_length (by omega), List.take_of_length_le (by omega), hc]
  rcases (by omega : c < 128 ∨ (128 ≤ c ∧ c < 2048) ∨ (2048 ≤ c ∧ c < 65536) ∨ 65536 ≤ c) with h | h | h | h
  · have e : formS c = [c] := by unfold formS; rw [if_pos h]
    rw [e] at key ⊢
    refine key 1 rfl ?_ ?_ (by omega)
    · refine begS_of (s := 1) ?_ (by omega) (by omega) (fun j h1 h2 => by omega) (by omega)
      show szS c = 1
      unfold szS
      rw [if_pos h]
    · unfold charS chH
      simp [chF]
  · have e : formS c = [192 + c / 64, 128 + c % 64] := by unfold formS; rw [if_neg (by omega), if_pos (by omega)]
    rw [e] at key ⊢
    refine key 2 rfl ?_ ?_ (by omega)
    · refine begS_of (s := 2) ?_ (by omega) (by omega) (fun j h1 h2 => ?_) (by omega)
      · show szS (192 + c / 64) = 2
        unfold szS
        rw [if_neg (by omega), if_neg (by omega), if_pos (by omega)]
      · obtain rfl : j = 1 := by omega
        refine ⟨?_, by simp, by omega⟩
        show loS (192 + c / 64) ≤ 128 + c % 64 ∧ 128 + c % 64 ≤ hiS (192 + c / 64)
        unfold loS hiS
        rw [if_neg (by omega), if_neg (by omega), if_neg (by omega), if_neg (by omega)]
        omega
    · unfold charS chH
      simp [chF]
      omega
  · have e : formS c = [224 + c / 4096, 128 + c / 64 % 64, 128 + c % 64] := by unfold formS; rw [if_neg (by omega), if_neg (by omega), if_pos (by omega)]
    rw [e] at key ⊢
    refine key 3 rfl ?_ ?_ (by omega)
    · refine begS_of (s := 3) ?_ (by omega) (by omega) (fun j h1 h2 => ?_) (by omega)
      · show szS (224 + c / 4096) = 3
        unfold szS
        rw [if_neg (by omega), if_neg (by omega), if_neg (by omega), if_pos (by omega)]
      · rcases (by omega : j = 1 ∨ j = 2) with rfl | rfl
        · refine ⟨?_, by simp, by omega⟩
          show loS (224 + c / 4096) ≤ 128 + c / 64 % 64 ∧ 128 + c / 64 % 64 ≤ hiS (224 + c / 4096)
          unfold loS hiS
          constructor
          · repeat' split
            all_goals omega
          · repeat' split
            all_goals omega
        · refine ⟨?_, by simp, by omega⟩
          show (128 : Int) ≤ 128 + c % 64 ∧ 128 + c % 64 ≤ 191
          omega
    · unfold charS chH
      simp [chF]
      omega
  · have e : formS c = [240 + c / 262144, 128 + c / 4096 % 64, 128 + c / 64 % 64, 128 + c % 64] := by unfold formS; rw [if_neg (by omega), if_neg (by omega), if_neg (by omega)]
    rw [e] at key ⊢
    refine key 4 rfl ?_ ?_ (by omega)
    · refine begS_of (s := 4) ?_ (by omega) (by omega) (fun j h1 h2 => ?_) (by omega)
      · show szS (240 + c / 262144) = 4
        unfold szS
        rw [if_neg (by omega), if_neg (by omega), if_neg (by omega), if_neg (by omega)]
      · rcases (by omega : j = 1 ∨ j = 2 ∨ j = 3) with rfl | rfl | rfl
        · refine ⟨?_, by simp, by omega⟩
          show loS (240 + c / 262144) ≤ 128 + c / 4096 % 64 ∧ 128 + c / 4096 % 64 ≤ hiS (240 + c / 262144)
          unfold loS hiS
          constructor
          · repeat' split
            all_goals omega
          · repeat' split
            all_goals omega
        · refine ⟨?_, by simp, by omega⟩
          show (128 : Int) ≤ 128 + c / 64 % 64 ∧ 128 + c / 64 % 64 ≤ 191
          omega
        · refine ⟨?_, by simp, by omega⟩
          show (128 : Int) ≤ 128 + c % 64 ∧ 128 + c % 64 ≤ 191
          omega
    · unfold charS chH
      simp [chF]
      omega
theorem dec_enc : ∀ (l : List Int), (∀ c ∈ l, mayC c = true) → decS (encS l) = l
  | [], _ => rfl
  | c :: l, h => by
    have hc := h c (by simp)
    have e : encS (c :: l) = formS c ++ encS l := by
      unfold encS
      rw [List.flatMap_cons]
      unfold putC
      rw [if_pos hc]
    have hl := (formS_len c).1
    rw [e, decS_cons (by simp; omega), form_next hc]
    simp only
    rw [List.drop_append_of_le_length (Nat.le_refl _), List.drop_length, List.nil_append, dec_enc l (fun x hx => h x (by simp [hx]))]
/-- The bytes of a whole form are its character's. -/
theorem whole_form {l : List Int} (hok : okB l) (hp : 0 < l.length) (h : (begS l).1 = (begS l).2 ∧ 0 < (begS l).1) : formS (putC (charS (l.take (begS l).1))) = l.take (begS l).1 := by
  obtain ⟨q1, q2, q3, q4⟩ := begS_b l hp
  have h0 : szS (l.getD 0 0) ≠ 0 := by
    intro h0
    unfold begS at h
    rw [if_pos h0] at h
    simp at h
  have e : begS l = (cntF 4 1 l, szS (l.getD 0 0)) := by unfold begS; rw [if_neg h0]
  rw [e] at h q1 q3 ⊢
  simp only at h q1 q3 ⊢
  have hg := fun j h1 h2 => (cntF_good 4 1 j l h1 h2).1
  obtain ⟨h, hpos⟩ := h
  obtain ⟨n, hn⟩ : ∃ n, cntF 4 1 l = n := ⟨_, rfl⟩
  rw [hn] at h hg q1 hpos ⊢
  rw [← h] at q3
  clear hn e q2 q4
  have e0 : ∀ (b : Int) (t : List Int), l = b :: t → szS b = n := by
    intro b t hl
    rw [h, hl]
    rfl
  match l, hp, q1, hok, hg, e0 with
  | b0 :: t, _, q1, hok, hg, e0 =>
    have s0 := e0 b0 t rfl
    have p0 := hok b0 (by simp)
    rcases (by omega : n = 1 ∨ n = 2 ∨ n = 3 ∨ n = 4) with rfl | rfl | rfl | rfl
    · have hb : b0 < 128 := by
        unfold szS at s0
        repeat' split at s0
        all_goals omega
      have ec : charS ([b0] : List Int) = b0 := by unfold charS chH; simp [chF]
      show formS (putC (charS [b0])) = [b0]
      rw [ec]
      have : putC b0 = b0 := by unfold putC mayC; rw [if_pos (by simp; omega)]
      rw [this]
      unfold formS
      rw [if_pos hb]
    · match t, q1, hok, hg with
      | b1 :: t, _, hok, hg =>
        have p1 := hok b1 (by simp)
        have g1 : loS b0 ≤ b1 ∧ b1 ≤ hiS b0 := hg 1 (by omega) (by omega)
        have hb : 194 ≤ b0 ∧ b0 < 224 := by
          unfold szS at s0
          repeat' split at s0
          all_goals omega
        have hl1 : loS b0 = 128 := by unfold loS; rw [if_neg (by omega), if_neg (by omega)]
        have hh1 : hiS b0 = 191 := by unfold hiS; rw [if_neg (by omega), if_neg (by omega)]
        have ec : charS ([b0, b1] : List Int) = 64 * (b0 % 32) + b1 % 64 := by unfold charS chH; simp [chF]
        show formS (putC (charS [b0, b1])) = [b0, b1]
        rw [ec]
        have : putC (64 * (b0 % 32) + b1 % 64) = 64 * (b0 % 32) + b1 % 64 := by unfold putC mayC; rw [if_pos (by simp; omega)]
        rw [this]
        unfold formS
        rw [if_neg (by omega), if_pos (by omega)]
        congr 1
        · omega
        · congr 1
          omega
    · match t, q1, hok, hg with
      | b1 :: b2 :: t, _, hok, hg =>
        have p1 := hok b1 (by simp)
        have p2 := hok b2 (by simp)
        have g1 : loS b0 ≤ b1 ∧ b1 ≤ hiS b0 := hg 1 (by omega) (by omega)
        have g2 : (128 : Int) ≤ b2 ∧ b2 ≤ 191 := hg 2 (by omega) (by omega)
        have hb : 224 ≤ b0 ∧ b0 < 240 := by
          unfold szS at s0
          repeat' split at s0
          all_goals omega
        have hl1 : 128 ≤ loS b0 ∧ (b0 = 224 → loS b0 = 160) := by
          unfold loS
          constructor
          · repeat' split
            all_goals omega
          · intro hh; rw [if_pos hh]
        have hh1 : hiS b0 ≤ 191 ∧ (b0 = 237 → hiS b0 = 159) := by
          unfold hiS
          constructor
          · repeat' split
            all_goals omega
          · intro hh; rw [if_pos hh]
        generalize loS b0 = lo at *
        generalize hiS b0 = hi at *
        have ec : charS ([b0, b1, b2] : List Int) = 64 * (64 * (b0 % 16) + b1 % 64) + b2 % 64 := by unfold charS chH; simp [chF]
        show formS (putC (charS [b0, b1, b2])) = [b0, b1, b2]
        rw [ec]
        have : putC (64 * (64 * (b0 % 16) + b1 % 64) + b2 % 64) = 64 * (64 * (b0 % 16) + b1 % 64) + b2 % 64 := by unfold putC mayC; rw [if_pos (by simp; omega)]
        rw [this]
        unfold formS
        rw [if_neg (by omega), if_neg (by omega), if_pos (by omega)]
        congr 1
        · omega
        · congr 1
          · omega
          · congr 1
            omega
    · match t, q1, hok, hg with
      | b1 :: b2 :: b3 :: t, _, hok, hg =>
        have p1 := hok b1 (by simp)
        have p2 := hok b2 (by simp)
        have p3 := hok b3 (by simp)
        have g1 : loS b0 ≤ b1 ∧ b1 ≤ hiS b0 := hg 1 (by omega) (by omega)
        have g2 : (128 : Int) ≤ b2 ∧ b2 ≤ 191 := hg 2 (by omega) (by omega)
        have g3 : (128 : Int) ≤ b3 ∧ b3 ≤ 191 := hg 3 (by omega) (by omega)
        have hb : 240 ≤ b0 ∧ b0 ≤ 244 := by
          unfold szS at s0
          repeat' split at s0
          all_goals omega
        have hl1 : 128 ≤ loS b0 ∧ (b0 = 240 → loS b0 = 144) := by
          unfold loS
          constructor
          · repeat' split
            all_goals omega
          · intro hh; rw [if_neg (by omega), if_pos hh]
        have hh1 : hiS b0 ≤ 191 ∧ (b0 = 244 → hiS b0 = 143) := by
          unfold hiS
          constructor
          · repeat' split
            all_goals omega
          · intro hh; rw [if_neg (by omega), if_pos hh]
        generalize loS b0 = lo at *
        generalize hiS b0 = hi at *
        have ec : charS ([b0, b1, b2, b3] : List Int) = 64 * (64 * (64 * (b0 % 8) + b1 % 64) + b2 % 64) + b3 % 64 := by unfold charS chH; simp [chF]
        show formS (putC (charS [b0, b1, b2, b3])) = [b0, b1, b2, b3]
        rw [ec]
        have : putC (64 * (64 * (64 * (b0 % 8) + b1 % 64) + b2 % 64) + b3 % 64) = 64 * (64 * (64 * (b0 % 8) + b1 % 64) + b2 % 64) + b3 % 64 := by unfold putC mayC; rw [if_pos (by simp; omega)]
        rw [this]
        unfold formS
        rw [if_neg (by omega), if_neg (by omega), if_neg (by omega)]
        congr 1
        · omega
        · congr 1
          · omega
          · congr 1
            · omega
            · congr 1
              omega
theorem enc_dec : ∀ (n : Nat) (l : List Int), l.length ≤ n → okB l → (∀ c ∈ decS l, c ≠ 65533) → encS (decS l) = l
  | 0, l, h, _, _ => by
    obtain rfl : l = [] := List.eq_nil_of_length_eq_zero (by omega)
    rfl
  | n + 1, l, h, hok, hc => by
    rcases Nat.eq_zero_or_pos l.length with h0 | h0
    · obtain rfl := List.eq_nil_of_length_eq_zero h0
      rfl
    · have hb := nextS_b l true h0
      have h2 := hb.2 rfl
      rw [decS_cons h0] at hc ⊢
      have ih := enc_dec n (l.drop (nextS l true).2) (by simp; omega) (hok.drop _) (fun c hh => hc c (by simp [hh]))
      have hne := hc (nextS l true).1 (by simp)
      have hw : (begS l).1 = (begS l).2 ∧ 0 < (begS l).1 := by
        refine Decidable.byContradiction fun hh => hne ?_
        unfold nextS
        rw [if_neg hh, if_neg (by simp)]
      have hnx : nextS l true = (charS (l.take (begS l).1), (begS l).1) := by
        unfold nextS
        rw [if_pos hw]
      have e : encS ((nextS l true).1 :: decS (l.drop (nextS l true).2)) = formS (putC (nextS l true).1) ++ encS (decS (l.drop (nextS l true).2)) := by
        unfold encS
        rw [List.flatMap_cons]
      rw [e, ih, hnx]
      simp only
      rw [whole_form hok h0 hw, List.take_append_drop]
end Go.Proofs.Ytghadceeckbgpaa
