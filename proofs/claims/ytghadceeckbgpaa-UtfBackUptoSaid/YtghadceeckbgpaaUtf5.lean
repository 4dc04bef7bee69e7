/- What is proved: what begins and next of the reference of package utf answer when they are called; conditions: the slice reads as it is said to, and is not empty. -/
import Derived.Test.YtghadceeckbgpaaUtf4
set_option linter.unusedSimpArgs false
set_option linter.unusedVariables false
namespace Go.Proofs.Ytghadceeckbgpaa
open Go.RowKit
set_option maxRecDepth 100000
set_option maxHeartbeats 4000000
/-- May the k-th byte stand there? -/
def goodK (bs : List Int) (k : Nat) : Prop := loK (bs.getD 0 0) k ≤ bs.getD k 0 ∧ bs.getD k 0 ≤ hiK (bs.getD 0 0) k
/-- What the first byte of a form of its length bears. -/
def baseS (b : Int) : Int := if szS b = 2 then 192 else if szS b = 3 then 224 else if szS b = 4 then 240 else 0
/-- What the reference tells of a form's beginning. -/
def begR (bs : List Int) : Int × Nat :=
  if bs.length ≤ szS (bs.getD 0 0) ∧ cntF 4 1 bs = bs.length then (chF (bs.getD 0 0 - baseS (bs.getD 0 0)) (bs.drop 1), szS (bs.getD 0 0)) else (0, 0)
theorem cntF_le {f k : Nat} {bs : List Int} : k ≤ cntF f k bs := by
  induction f generalizing k with
  | zero => exact Nat.le_refl _
  | succ f ih =>
    unfold cntF
    split
    · exact Nat.le_trans (Nat.le_succ k) ih
    · exact Nat.le_refl _
theorem cntF_good : ∀ (f k j : Nat) (bs : List Int), k ≤ j → j < cntF f k bs → goodK bs j ∧ j < bs.length ∧ j < szS (bs.getD 0 0)
  | 0, k, j, bs, h, h2 => by unfold cntF at h2; omega
  | f + 1, k, j, bs, h, h2 => by
    unfold cntF at h2
    split at h2
    · rename_i h3
      rcases (by omega : j = k ∨ k + 1 ≤ j) with rfl | h4
      · exact ⟨h3.2.2, h3.2.1, h3.1⟩
      · exact cntF_good f (k + 1) j bs h4 h2
    · omega
theorem cntF_bad : ∀ (f k : Nat) (bs : List Int), 4 ≤ f + k → ¬ (goodK bs (cntF f k bs) ∧ cntF f k bs < bs.length ∧ cntF f k bs < szS (bs.getD 0 0))
  | 0, k, bs, h => by
    unfold cntF
    have := szS_le (bs.getD 0 0)
    omega
  | f + 1, k, bs, h => by
    unfold cntF
    split
    · exact cntF_bad f (k + 1) bs (by omega)
    · rename_i h3
      exact fun h4 => h3 ⟨h4.2.2, h4.2.1, h4.1⟩
/-- So many bytes, and no more, go on. -/
theorem cntF_eq {bs : List Int} {n : Nat} (h1 : 1 ≤ n) (hg : ∀ j, 1 ≤ j → j < n → goodK bs j ∧ j < bs.length ∧ j < szS (bs.getD 0 0)) (hb : ¬ (goodK bs n ∧ n < bs.length ∧ n < szS (bs.getD 0 0))) : cntF 4 1 bs = n := by
  rcases Nat.lt_trichotomy (cntF 4 1 bs) n with h | h | h
  · exact absurd (hg _ cntF_le h) (cntF_bad 4 1 bs (by omega))
  · exact h
  · exact absurd (cntF_good 4 1 n bs h1 h) hb
theorem cntF_ne {bs : List Int} {n : Nat} (h1 : 1 ≤ n) (hn : n < bs.length) (hb : ¬ goodK bs n) : cntF 4 1 bs ≠ bs.length := by
  intro h
  exact hb (cntF_good 4 1 n bs h1 (by omega)).1
theorem begR_good {bs : List Int} (hp : 0 < bs.length) (hs : bs.length ≤ szS (bs.getD 0 0)) (hg : ∀ j, 1 ≤ j → j < bs.length → goodK bs j) : begR bs = (chF (bs.getD 0 0 - baseS (bs.getD 0 0)) (bs.drop 1), szS (bs.getD 0 0)) := by
  unfold begR
  rw [if_pos ⟨hs, cntF_eq hp (fun j h1 h2 => ⟨hg j h1 h2, h2, by omega⟩) (by omega)⟩]
theorem begR_long {bs : List Int} (hs : szS (bs.getD 0 0) < bs.length) : begR bs = (0, 0) := by
  unfold begR
  rw [if_neg (by omega)]
theorem begR_bad {bs : List Int} {n : Nat} (h1 : 1 ≤ n) (hn : n < bs.length) (hb : ¬ goodK bs n) : begR bs = (0, 0) := by
  unfold begR
  rw [if_neg (fun h => cntF_ne h1 hn hb h.2)]
theorem begins_any (v : Value) (bs : List Int) (w : World) (h : BB w v bs) (hp : 0 < bs.length) :
    Calls Try.prog 31 #[v] w fun en w' => en = .returned (.tuple #[.int .i32 (begR bs).1, .int .i64 (begR bs).2]) ∧ Below w.heap.size w w' := by
  obtain ⟨hok, hlen, A, cap, rfl, hr, hnc, hlc, hcm⟩ := h
  obtain ⟨b, off, rfl, hc⟩ := hr.2 hp
  have hbl := hr.lt_ hp rfl
  have c0 := hc 0 hp
  rw [Nat.add_zero] at c0
  have hb0 := hok.getD 0
  have HC := Lib.hid hc
  have HOK := Lib.hid hok
  have HG := Lib.hid (fun h h2 => begR_good (bs := bs) hp h h2)
  have HL := Lib.hid (fun h => begR_long (bs := bs) h)
  have HB := Lib.hid (fun n (h1 : 1 ≤ n) h2 h3 => begR_bad (bs := bs) h1 h2 h3)
  have HK : Hid (∀ k, goodK bs k ↔ loK (bs.getD 0 0) k ≤ bs.getD k 0 ∧ bs.getD k 0 ≤ hiK (bs.getD 0 0) k) := Lib.hid (fun k => Iff.rfl)
  have HL1 : Hid (loK (bs.getD 0 0) 1 = loS (bs.getD 0 0) ∧ hiK (bs.getD 0 0) 1 = hiS (bs.getD 0 0) ∧ ∀ k, k ≠ 1 → loK (bs.getD 0 0) k = 128 ∧ hiK (bs.getD 0 0) k = 191) := Lib.hid ⟨if_pos rfl, if_pos rfl, fun k hk => ⟨if_neg hk, if_neg hk⟩⟩
  have HKB : Hid (∀ k, (128 ≤ loK (bs.getD 0 0) k ∧ loK (bs.getD 0 0) k ≤ 160) ∧ 143 ≤ hiK (bs.getD 0 0) k ∧ hiK (bs.getD 0 0) k ≤ 191) := Lib.hid (fun k => ⟨loK_b _ k, hiK_b _ k⟩)
  clear hr hok hc hnc
  generalize loK (bs.getD 0 0) = lk at *
  generalize hiK (bs.getD 0 0) = hk at *
  generalize hbe : baseS (bs.getD 0 0) = base at *
  generalize hse : szS (bs.getD 0 0) = sz at *
  generalize hle : loS (bs.getD 0 0) = lo at *
  generalize hhe : hiS (bs.getD 0 0) = hi at *
  generalize bs.getD 0 0 = b0 at *
  rcases (by omega : b0 < 128 ∨ ((128 ≤ b0 ∧ b0 < 194) ∨ 244 < b0) ∨ ((194 ≤ b0 ∧ b0 < 224) ∨ b0 = 224 ∨ b0 = 237 ∨ (224 < b0 ∧ b0 < 240 ∧ b0 ≠ 237) ∨ b0 = 240 ∨ b0 = 244 ∨ (240 < b0 ∧ b0 < 244))) with h | h | h
  · obtain rfl : sz = 1 := by rw [← hse]; unfold szS; rw [if_pos h]
    obtain rfl : base = 0 := by rw [← hbe]; unfold baseS; rw [hse]; rfl
    clear hbe hse hle hhe
    rcases (by omega : bs.length = 1 ∨ 1 < bs.length) with h1 | h1
    · have HS : Hid (begR bs = (b0, 1)) := Lib.hid (by
        rw [HG.out (by omega) (by omega), List.drop_of_length_le (by omega), Int.sub_zero]
        rfl)
      clear HG HL HB HK HL1 HKB
      rw [h1] at hp hlen hlc ⊢
      go_enter Try.func31, Try.ntmps31
      go_wp2_with fail
      refine bodyPost_ret (v := .tuple #[.int .i32 b0, .int .i64 1]) (by simp [results, Try.results31, go_sem]) rfl ?_
      rw [HS.out]
      exact ⟨rfl, Below.refl _ _⟩
    · have HS := Lib.hid (HL.out h1)
      have h2 : ¬ (bs.length : Int) = 1 := by omega
      clear HG HL HB HK HL1 HKB
      go_enter Try.func31, Try.ntmps31
      go_wp2_with fail
      refine bodyPost_ret (v := .tuple #[.int .i32 0, .int .i64 0]) (by simp [results, Try.results31, go_sem]) rfl ?_
      rw [HS.out]
      exact ⟨rfl, Below.refl _ _⟩
  · obtain rfl : sz = 0 := by rw [← hse]; unfold szS; rw [if_neg (by omega), if_pos (by omega)]
    have HS := Lib.hid (HL.out hp)
    clear hbe hse hle hhe HG HL HB HK HL1 HKB
    rcases h with h | h
    all_goals
      go_enter Try.func31, Try.ntmps31
      go_wp2_with fail
      refine bodyPost_ret (v := .tuple #[.int .i32 0, .int .i64 0]) (by simp [results, Try.results31, go_sem]) rfl ?_
      rw [HS.out]
      exact ⟨rfl, Below.refl _ _⟩
  · rcases h with h | h | h | h | h | h | h
    all_goals
      unfold szS at hse
      unfold loS at hle
      unfold hiS at hhe
      try subst h
      simp (disch := omega) only [if_pos, if_neg] at hse hle hhe
      unfold baseS szS at hbe
      simp (disch := omega) only [if_pos, if_neg] at hbe
      simp at hbe
      (try simp at hle)
      (try simp at hhe)
      subst hse hle hhe hbe
    · rcases Nat.lt_or_ge 2 bs.length with h1 | h1
      · have HS := Lib.hid (HL.out h1)
        have h2 : (2 : Int) < (bs.length : Int) := by omega
        clear HG HL HB HK HL1 HKB
        go_enter Try.func31, Try.ntmps31
        go_wp2_with fail
        refine bodyPost_ret (v := .tuple #[.int .i32 0, .int .i64 0]) (by simp [results, Try.results31, go_sem]) rfl ?_
        rw [HS.out]
        exact ⟨rfl, Below.refl _ _⟩
      · have h2 : ¬ (2 : Int) < (bs.length : Int) := by omega
        have HGG := Lib.hid (HG.out h1)
        obtain ⟨l1, l2, l3⟩ := HL1.out
        have HL3 := Lib.hid l3
        have HL2 := Lib.hid (And.intro l1 l2)
        clear HG HL l1 l2 l3 HL1
        obtain ⟨c1, hc1⟩ : ∃ c1, b0 - 192 = c1 := ⟨_, rfl⟩
        have hcb : 0 ≤ c1 ∧ c1 < 32 := by omega
        have HCB := Lib.hid hcb
        rw [hc1] at HGG
        have HC1 := Lib.hid hc1
        clear hcb hc1
        have hwc : IntKind.i32.wrap (b0 - 192) = b0 - 192 := by
          simp [IntKind.wrap, IntKind.bits, IntKind.signed] <;> omega
        go_enter Try.func31, Try.ntmps31
        go_wp2_with fail
        go_loop [5, 6, 7, 8] (fun l h c i => ∃ k : Nat, k + 1 ≤ bs.length ∧ i = .int .i64 (k + 1 : Nat) ∧ l = .int .u8 (lk (k + 1)) ∧ h = .int .u8 (hk (k + 1)) ∧ c = .int .i32 (chF c1 ((bs.drop 1).take k)) ∧ Hid (∀ j, 1 ≤ j → j < k + 1 → goodK bs j)) (fun _ _ _ i => 4 - (intOf i).toNat)
        case atStart => exact ⟨0, by omega, rfl, by rw [HL2.out.1], by rw [HL2.out.2], by rw [← HC1.out]; rfl, Lib.hid (fun j h1 h2 => by omega)⟩
        case round =>
          obtain ⟨k, hk0, rfl, rfl, rfl, rfl, HP⟩ := hrel
          by_cases hlt : k + 1 < bs.length
          · have cx := HC.out (k + 1) hlt
            have hx := HOK.out.getD (k + 1)
            have hkb := HKB.out (k + 1)
            have HKk := Lib.hid (HK.out (k + 1))
            have HBk := Lib.hid (HB.out (k + 1) (by omega) hlt)
            have hb := chF_lt HCB.out.1 ((bs.drop 1).take k)
            have hlk : ((bs.drop 1).take k).length = k := by simp; omega
            rw [hlk] at hb
            have hnx : chF c1 ((bs.drop 1).take (k + 1)) = 64 * chF c1 ((bs.drop 1).take k) + bs.getD (k + 1) 0 % 64 := by
              have e : (bs.drop 1).take (k + 1) = (bs.drop 1).take k ++ [bs.getD (k + 1) 0] := by
                rw [List.take_add_one, List.getElem?_drop, List.getD_eq_getElem?_getD, Nat.add_comm 1 k, List.getElem?_eq_getElem hlt]
                rfl
              rw [e, chF_app]
            have hp64 : (64 : Int) ^ k ≤ 4096 := by
              have h : 64 ^ k ≤ 64 ^ 2 := Nat.pow_le_pow_right (by omega) (by omega)
              have h2 : ((64 ^ k : Nat) : Int) ≤ 4096 := by omega
              simpa using h2
            have hcb := HCB.out
            have hb2 : chF c1 ((bs.drop 1).take k) < 2097152 := by
              have h1 : (c1 + 1) * 64 ^ k ≤ 32 * 4096 := Int.mul_le_mul (by omega) hp64 (Int.pow_nonneg (by omega)) (by omega)
              omega
            have hb1 := hb.1
            have HNX := Lib.hid hnx
            clear hb hlk hnx hp64 hcb
            generalize chF c1 ((bs.drop 1).take k) = d at *
            generalize bs.getD (k + 1) 0 = x at *
            have hl3 := HL3.out (k + 2) (by omega)
            have HLn := Lib.hid hl3
            clear hl3 HL3 HL2 HKB HK HB HC HC1
            generalize lk (k + 1) = lo at *
            generalize hk (k + 1) = hi at *
            have hi1 : ((k : Int) + 1) < bs.length := by omega
            by_cases h3 : x < lo
            · have HS := Lib.hid (HBk.out (fun h => absurd (HKk.out.1 h) (by omega)))
              clear HKk HBk
              go_wp2_with fail
              refine bodyPost_ret (v := .tuple #[.int .i32 0, .int .i64 0]) (by simp [results, Try.results31, go_sem]) rfl ?_
              rw [HS.out]
              exact ⟨rfl, Below.refl _ _⟩
            · by_cases h4 : hi < x
              · have HS := Lib.hid (HBk.out (fun h => absurd (HKk.out.1 h) (by omega)))
                clear HKk HBk
                go_wp2_with fail
                refine bodyPost_ret (v := .tuple #[.int .i32 0, .int .i64 0]) (by simp [results, Try.results31, go_sem]) rfl ?_
                rw [HS.out]
                exact ⟨rfl, Below.refl _ _⟩
              · have HGD := Lib.hid (HKk.out.2 (by omega))
                clear HKk HBk
                have hw1 : IntKind.i32.wrap (64 * d) = 64 * d := by
                  simp [IntKind.wrap, IntKind.bits, IntKind.signed]
                  omega
                have hw2 : IntKind.i32.wrap (64 * d + x) = 64 * d + x := by
                  simp [IntKind.wrap, IntKind.bits, IntKind.signed]
                  omega
                have hw3 : IntKind.i32.wrap (64 * d + x - 128) = 64 * d + x - 128 := by
                  simp [IntKind.wrap, IntKind.bits, IntKind.signed]
                  omega
                go_wp2_with fail
                go_round
                case rel =>
                  refine ⟨k + 1, by omega, by go_num, by rw [HLn.out.1], by rw [HLn.out.2], ?_, Lib.hid (fun j h1 h2 => ?_)⟩
                  · rw [HNX.out]
                    have : x % 64 = x - 128 := by omega
                    rw [this]
                    congr 1
                    omega
                  · rcases (by omega : j < k + 1 ∨ j = k + 1) with h | rfl
                    · exact HP.out j h1 h
                    · exact HGD.out
                case measure =>
                  simp [intOf]
                  omega
          · have e1 : (bs.drop 1).take k = bs.drop 1 := List.take_of_length_le (by simp; omega)
            have HS := Lib.hid (HGG.out (fun j h1 h2 => HP.out j h1 (by omega)))
            rw [← e1] at HS
            clear e1 HGG HP HL3 HL2 HKB HK HB HC HC1
            have hi1 : ¬ ((k : Int) + 1) < bs.length := by omega
            generalize chF c1 ((bs.drop 1).take k) = d at *
            generalize lk (k + 1) = lo at *
            generalize hk (k + 1) = hi at *
            go_wp2_with fail
            refine bodyPost_ret (v := .tuple #[.int .i32 d, .int .i64 2]) (by simp [results, Try.results31, go_sem]) rfl ?_
            rw [HS.out]
            exact ⟨rfl, Below.refl _ _⟩
    · rcases Nat.lt_or_ge 3 bs.length with h1 | h1
      · have HS := Lib.hid (HL.out h1)
        have h2 : (3 : Int) < (bs.length : Int) := by omega
        clear HG HL HB HK HL1 HKB
        go_enter Try.func31, Try.ntmps31
        go_wp2_with fail
        refine bodyPost_ret (v := .tuple #[.int .i32 0, .int .i64 0]) (by simp [results, Try.results31, go_sem]) rfl ?_
        rw [HS.out]
        exact ⟨rfl, Below.refl _ _⟩
      · have h2 : ¬ (3 : Int) < (bs.length : Int) := by omega
        have HGG := Lib.hid (HG.out h1)
        obtain ⟨l1, l2, l3⟩ := HL1.out
        have HL3 := Lib.hid l3
        have HL2 := Lib.hid (And.intro l1 l2)
        clear HG HL l1 l2 l3 HL1
        obtain ⟨c1, hc1⟩ : ∃ c1, (224 : Int) - 224 = c1 := ⟨_, rfl⟩
        have hcb : 0 ≤ c1 ∧ c1 < 32 := by omega
        have HCB := Lib.hid hcb
        rw [hc1] at HGG
        have HC1 := Lib.hid hc1
        clear hcb hc1
        have hwc : IntKind.i32.wrap ((224 : Int) - 224) = (224 : Int) - 224 := by
          simp [IntKind.wrap, IntKind.bits, IntKind.signed] <;> omega
        go_enter Try.func31, Try.ntmps31
        go_wp2_with fail
        go_loop [5, 6, 7, 8] (fun l h c i => ∃ k : Nat, k + 1 ≤ bs.length ∧ i = .int .i64 (k + 1 : Nat) ∧ l = .int .u8 (lk (k + 1)) ∧ h = .int .u8 (hk (k + 1)) ∧ c = .int .i32 (chF c1 ((bs.drop 1).take k)) ∧ Hid (∀ j, 1 ≤ j → j < k + 1 → goodK bs j)) (fun _ _ _ i => 4 - (intOf i).toNat)
        case atStart => exact ⟨0, by omega, rfl, by rw [HL2.out.1], by rw [HL2.out.2], by rw [← HC1.out]; rfl, Lib.hid (fun j h1 h2 => by omega)⟩
        case round =>
          obtain ⟨k, hk0, rfl, rfl, rfl, rfl, HP⟩ := hrel
          by_cases hlt : k + 1 < bs.length
          · have cx := HC.out (k + 1) hlt
            have hx := HOK.out.getD (k + 1)
            have hkb := HKB.out (k + 1)
            have HKk := Lib.hid (HK.out (k + 1))
            have HBk := Lib.hid (HB.out (k + 1) (by omega) hlt)
            have hb := chF_lt HCB.out.1 ((bs.drop 1).take k)
            have hlk : ((bs.drop 1).take k).length = k := by simp; omega
            rw [hlk] at hb
            have hnx : chF c1 ((bs.drop 1).take (k + 1)) = 64 * chF c1 ((bs.drop 1).take k) + bs.getD (k + 1) 0 % 64 := by
              have e : (bs.drop 1).take (k + 1) = (bs.drop 1).take k ++ [bs.getD (k + 1) 0] := by
                rw [List.take_add_one, List.getElem?_drop, List.getD_eq_getElem?_getD, Nat.add_comm 1 k, List.getElem?_eq_getElem hlt]
                rfl
              rw [e, chF_app]
            have hp64 : (64 : Int) ^ k ≤ 4096 := by
              have h : 64 ^ k ≤ 64 ^ 2 := Nat.pow_le_pow_right (by omega) (by omega)
              have h2 : ((64 ^ k : Nat) : Int) ≤ 4096 := by omega
              simpa using h2
            have hcb := HCB.out
            have hb2 : chF c1 ((bs.drop 1).take k) < 2097152 := by
              have h1 : (c1 + 1) * 64 ^ k ≤ 32 * 4096 := Int.mul_le_mul (by omega) hp64 (Int.pow_nonneg (by omega)) (by omega)
              omega
            have hb1 := hb.1
            have HNX := Lib.hid hnx
            clear hb hlk hnx hp64 hcb
            generalize chF c1 ((bs.drop 1).take k) = d at *
            generalize bs.getD (k + 1) 0 = x at *
            have hl3 := HL3.out (k + 2) (by omega)
            have HLn := Lib.hid hl3
            clear hl3 HL3 HL2 HKB HK HB HC HC1
            generalize lk (k + 1) = lo at *
            generalize hk (k + 1) = hi at *
            have hi1 : ((k : Int) + 1) < bs.length := by omega
            by_cases h3 : x < lo
            · have HS := Lib.hid (HBk.out (fun h => absurd (HKk.out.1 h) (by omega)))
              clear HKk HBk
              go_wp2_with fail
              refine bodyPost_ret (v := .tuple #[.int .i32 0, .int .i64 0]) (by simp [results, Try.results31, go_sem]) rfl ?_
              rw [HS.out]
              exact ⟨rfl, Below.refl _ _⟩
            · by_cases h4 : hi < x
              · have HS := Lib.hid (HBk.out (fun h => absurd (HKk.out.1 h) (by omega)))
                clear HKk HBk
                go_wp2_with fail
                refine bodyPost_ret (v := .tuple #[.int .i32 0, .int .i64 0]) (by simp [results, Try.results31, go_sem]) rfl ?_
                rw [HS.out]
                exact ⟨rfl, Below.refl _ _⟩
              · have HGD := Lib.hid (HKk.out.2 (by omega))
                clear HKk HBk
                have hw1 : IntKind.i32.wrap (64 * d) = 64 * d := by
                  simp [IntKind.wrap, IntKind.bits, IntKind.signed]
                  omega
                have hw2 : IntKind.i32.wrap (64 * d + x) = 64 * d + x := by
                  simp [IntKind.wrap, IntKind.bits, IntKind.signed]
                  omega
                have hw3 : IntKind.i32.wrap (64 * d + x - 128) = 64 * d + x - 128 := by
                  simp [IntKind.wrap, IntKind.bits, IntKind.signed]
                  omega
                go_wp2_with fail
                go_round
                case rel =>
                  refine ⟨k + 1, by omega, by go_num, by rw [HLn.out.1], by rw [HLn.out.2], ?_, Lib.hid (fun j h1 h2 => ?_)⟩
                  · rw [HNX.out]
                    have : x % 64 = x - 128 := by omega
                    rw [this]
                    congr 1
                    omega
                  · rcases (by omega : j < k + 1 ∨ j = k + 1) with h | rfl
                    · exact HP.out j h1 h
                    · exact HGD.out
                case measure =>
                  simp [intOf]
                  omega
          · have e1 : (bs.drop 1).take k = bs.drop 1 := List.take_of_length_le (by simp; omega)
            have HS := Lib.hid (HGG.out (fun j h1 h2 => HP.out j h1 (by omega)))
            rw [← e1] at HS
            clear e1 HGG HP HL3 HL2 HKB HK HB HC HC1
            have hi1 : ¬ ((k : Int) + 1) < bs.length := by omega
            generalize chF c1 ((bs.drop 1).take k) = d at *
            generalize lk (k + 1) = lo at *
            generalize hk (k + 1) = hi at *
            go_wp2_with fail
            refine bodyPost_ret (v := .tuple #[.int .i32 d, .int .i64 3]) (by simp [results, Try.results31, go_sem]) rfl ?_
            rw [HS.out]
            exact ⟨rfl, Below.refl _ _⟩
    · rcases Nat.lt_or_ge 3 bs.length with h1 | h1
      · have HS := Lib.hid (HL.out h1)
        have h2 : (3 : Int) < (bs.length : Int) := by omega
        clear HG HL HB HK HL1 HKB
        go_enter Try.func31, Try.ntmps31
        go_wp2_with fail
        refine bodyPost_ret (v := .tuple #[.int .i32 0, .int .i64 0]) (by simp [results, Try.results31, go_sem]) rfl ?_
        rw [HS.out]
        exact ⟨rfl, Below.refl _ _⟩
      · have h2 : ¬ (3 : Int) < (bs.length : Int) := by omega
        have HGG := Lib.hid (HG.out h1)
        obtain ⟨l1, l2, l3⟩ := HL1.out
        have HL3 := Lib.hid l3
        have HL2 := Lib.hid (And.intro l1 l2)
        clear HG HL l1 l2 l3 HL1
        obtain ⟨c1, hc1⟩ : ∃ c1, (237 : Int) - 224 = c1 := ⟨_, rfl⟩
        have hcb : 0 ≤ c1 ∧ c1 < 32 := by omega
        have HCB := Lib.hid hcb
        rw [hc1] at HGG
        have HC1 := Lib.hid hc1
        clear hcb hc1
        have hwc : IntKind.i32.wrap ((237 : Int) - 224) = (237 : Int) - 224 := by
          simp [IntKind.wrap, IntKind.bits, IntKind.signed] <;> omega
        go_enter Try.func31, Try.ntmps31
        go_wp2_with fail
        go_loop [5, 6, 7, 8] (fun l h c i => ∃ k : Nat, k + 1 ≤ bs.length ∧ i = .int .i64 (k + 1 : Nat) ∧ l = .int .u8 (lk (k + 1)) ∧ h = .int .u8 (hk (k + 1)) ∧ c = .int .i32 (chF c1 ((bs.drop 1).take k)) ∧ Hid (∀ j, 1 ≤ j → j < k + 1 → goodK bs j)) (fun _ _ _ i => 4 - (intOf i).toNat)
        case atStart => exact ⟨0, by omega, rfl, by rw [HL2.out.1], by rw [HL2.out.2], by rw [← HC1.out]; rfl, Lib.hid (fun j h1 h2 => by omega)⟩
        case round =>
          obtain ⟨k, hk0, rfl, rfl, rfl, rfl, HP⟩ := hrel
          by_cases hlt : k + 1 < bs.length
          · have cx := HC.out (k + 1) hlt
            have hx := HOK.out.getD (k + 1)
            have hkb := HKB.out (k + 1)
            have HKk := Lib.hid (HK.out (k + 1))
            have HBk := Lib.hid (HB.out (k + 1) (by omega) hlt)
            have hb := chF_lt HCB.out.1 ((bs.drop 1).take k)
            have hlk : ((bs.drop 1).take k).length = k := by simp; omega
            rw [hlk] at hb
            have hnx : chF c1 ((bs.drop 1).take (k + 1)) = 64 * chF c1 ((bs.drop 1).take k) + bs.getD (k + 1) 0 % 64 := by
              have e : (bs.drop 1).take (k + 1) = (bs.drop 1).take k ++ [bs.getD (k + 1) 0] := by
                rw [List.take_add_one, List.getElem?_drop, List.getD_eq_getElem?_getD, Nat.add_comm 1 k, List.getElem?_eq_getElem hlt]
                rfl
              rw [e, chF_app]
            have hp64 : (64 : Int) ^ k ≤ 4096 := by
              have h : 64 ^ k ≤ 64 ^ 2 := Nat.pow_le_pow_right (by omega) (by omega)
              have h2 : ((64 ^ k : Nat) : Int) ≤ 4096 := by omega
              simpa using h2
            have hcb := HCB.out
            have hb2 : chF c1 ((bs.drop 1).take k) < 2097152 := by
              have h1 : (c1 + 1) * 64 ^ k ≤ 32 * 4096 := Int.mul_le_mul (by omega) hp64 (Int.pow_nonneg (by omega)) (by omega)
              omega
            have hb1 := hb.1
            have HNX := Lib.hid hnx
            clear hb hlk hnx hp64 hcb
            generalize chF c1 ((bs.drop 1).take k) = d at *
            generalize bs.getD (k + 1) 0 = x at *
            have hl3 := HL3.out (k + 2) (by omega)
            have HLn := Lib.hid hl3
            clear hl3 HL3 HL2 HKB HK HB HC HC1
            generalize lk (k + 1) = lo at *
            generalize hk (k + 1) = hi at *
            have hi1 : ((k : Int) + 1) < bs.length := by omega
            by_cases h3 : x < lo
            · have HS := Lib.hid (HBk.out (fun h => absurd (HKk.out.1 h) (by omega)))
              clear HKk HBk
              go_wp2_with fail
              refine bodyPost_ret (v := .tuple #[.int .i32 0, .int .i64 0]) (by simp [results, Try.results31, go_sem]) rfl ?_
              rw [HS.out]
              exact ⟨rfl, Below.refl _ _⟩
            · by_cases h4 : hi < x
              · have HS := Lib.hid (HBk.out (fun h => absurd (HKk.out.1 h) (by omega)))
                clear HKk HBk
                go_wp2_with fail
                refine bodyPost_ret (v := .tuple #[.int .i32 0, .int .i64 0]) (by simp [results, Try.results31, go_sem]) rfl ?_
                rw [HS.out]
                exact ⟨rfl, Below.refl _ _⟩
              · have HGD := Lib.hid (HKk.out.2 (by omega))
                clear HKk HBk
                have hw1 : IntKind.i32.wrap (64 * d) = 64 * d := by
                  simp [IntKind.wrap, IntKind.bits, IntKind.signed]
                  omega
                have hw2 : IntKind.i32.wrap (64 * d + x) = 64 * d + x := by
                  simp [IntKind.wrap, IntKind.bits, IntKind.signed]
                  omega
                have hw3 : IntKind.i32.wrap (64 * d + x - 128) = 64 * d + x - 128 := by
                  simp [IntKind.wrap, IntKind.bits, IntKind.signed]
                  omega
                go_wp2_with fail
                go_round
                case rel =>
                  refine ⟨k + 1, by omega, by go_num, by rw [HLn.out.1], by rw [HLn.out.2], ?_, Lib.hid (fun j h1 h2 => ?_)⟩
                  · rw [HNX.out]
                    have : x % 64 = x - 128 := by omega
                    rw [this]
                    congr 1
                    omega
                  · rcases (by omega : j < k + 1 ∨ j = k + 1) with h | rfl
                    · exact HP.out j h1 h
                    · exact HGD.out
                case measure =>
                  simp [intOf]
                  omega
          · have e1 : (bs.drop 1).take k = bs.drop 1 := List.take_of_length_le (by simp; omega)
            have HS := Lib.hid (HGG.out (fun j h1 h2 => HP.out j h1 (by omega)))
            rw [← e1] at HS
            clear e1 HGG HP HL3 HL2 HKB HK HB HC HC1
            have hi1 : ¬ ((k : Int) + 1) < bs.length := by omega
            generalize chF c1 ((bs.drop 1).take k) = d at *
            generalize lk (k + 1) = lo at *
            generalize hk (k + 1) = hi at *
            go_wp2_with fail
            refine bodyPost_ret (v := .tuple #[.int .i32 d, .int .i64 3]) (by simp [results, Try.results31, go_sem]) rfl ?_
            rw [HS.out]
            exact ⟨rfl, Below.refl _ _⟩
    · rcases Nat.lt_or_ge 3 bs.length with h1 | h1
      · have HS := Lib.hid (HL.out h1)
        have h2 : (3 : Int) < (bs.length : Int) := by omega
        clear HG HL HB HK HL1 HKB
        go_enter Try.func31, Try.ntmps31
        go_wp2_with fail
        refine bodyPost_ret (v := .tuple #[.int .i32 0, .int .i64 0]) (by simp [results, Try.results31, go_sem]) rfl ?_
        rw [HS.out]
        exact ⟨rfl, Below.refl _ _⟩
      · have h2 : ¬ (3 : Int) < (bs.length : Int) := by omega
        have HGG := Lib.hid (HG.out h1)
        obtain ⟨l1, l2, l3⟩ := HL1.out
        have HL3 := Lib.hid l3
        have HL2 := Lib.hid (And.intro l1 l2)
        clear HG HL l1 l2 l3 HL1
        obtain ⟨c1, hc1⟩ : ∃ c1, b0 - 224 = c1 := ⟨_, rfl⟩
        have hcb : 0 ≤ c1 ∧ c1 < 32 := by omega
        have HCB := Lib.hid hcb
        rw [hc1] at HGG
        have HC1 := Lib.hid hc1
        clear hcb hc1
        have hwc : IntKind.i32.wrap (b0 - 224) = b0 - 224 := by
          simp [IntKind.wrap, IntKind.bits, IntKind.signed] <;> omega
        go_enter Try.func31, Try.ntmps31
        go_wp2_with fail
        go_loop [5, 6, 7, 8] (fun l h c i => ∃ k : Nat, k + 1 ≤ bs.length ∧ i = .int .i64 (k + 1 : Nat) ∧ l = .int .u8 (lk (k + 1)) ∧ h = .int .u8 (hk (k + 1)) ∧ c = .int .i32 (chF c1 ((bs.drop 1).take k)) ∧ Hid (∀ j, 1 ≤ j → j < k + 1 → goodK bs j)) (fun _ _ _ i => 4 - (intOf i).toNat)
        case atStart => exact ⟨0, by omega, rfl, by rw [HL2.out.1], by rw [HL2.out.2], by rw [← HC1.out]; rfl, Lib.hid (fun j h1 h2 => by omega)⟩
        case round =>
          obtain ⟨k, hk0, rfl, rfl, rfl, rfl, HP⟩ := hrel
          by_cases hlt : k + 1 < bs.length
          · have cx := HC.out (k + 1) hlt
            have hx := HOK.out.getD (k + 1)
            have hkb := HKB.out (k + 1)
            have HKk := Lib.hid (HK.out (k + 1))
            have HBk := Lib.hid (HB.out (k + 1) (by omega) hlt)
            have hb := chF_lt HCB.out.1 ((bs.drop 1).take k)
            have hlk : ((bs.drop 1).take k).length = k := by simp; omega
            rw [hlk] at hb
            have hnx : chF c1 ((bs.drop 1).take (k + 1)) = 64 * chF c1 ((bs.drop 1).take k) + bs.getD (k + 1) 0 % 64 := by
              have e : (bs.drop 1).take (k + 1) = (bs.drop 1).take k ++ [bs.getD (k + 1) 0] := by
                rw [List.take_add_one, List.getElem?_drop, List.getD_eq_getElem?_getD, Nat.add_comm 1 k, List.getElem?_eq_getElem hlt]
                rfl
              rw [e, chF_app]
            have hp64 : (64 : Int) ^ k ≤ 4096 := by
              have h : 64 ^ k ≤ 64 ^ 2 := Nat.pow_le_pow_right (by omega) (by omega)
              have h2 : ((64 ^ k : Nat) : Int) ≤ 4096 := by omega
              simpa using h2
            have hcb := HCB.out
            have hb2 : chF c1 ((bs.drop 1).take k) < 2097152 := by
              have h1 : (c1 + 1) * 64 ^ k ≤ 32 * 4096 := Int.mul_le_mul (by omega) hp64 (Int.pow_nonneg (by omega)) (by omega)
              omega
            have hb1 := hb.1
            have HNX := Lib.hid hnx
            clear hb hlk hnx hp64 hcb
            generalize chF c1 ((bs.drop 1).take k) = d at *
            generalize bs.getD (k + 1) 0 = x at *
            have hl3 := HL3.out (k + 2) (by omega)
            have HLn := Lib.hid hl3
            clear hl3 HL3 HL2 HKB HK HB HC HC1
            generalize lk (k + 1) = lo at *
            generalize hk (k + 1) = hi at *
            have hi1 : ((k : Int) + 1) < bs.length := by omega
            by_cases h3 : x < lo
            · have HS := Lib.hid (HBk.out (fun h => absurd (HKk.out.1 h) (by omega)))
              clear HKk HBk
              go_wp2_with fail
              refine bodyPost_ret (v := .tuple #[.int .i32 0, .int .i64 0]) (by simp [results, Try.results31, go_sem]) rfl ?_
              rw [HS.out]
              exact ⟨rfl, Below.refl _ _⟩
            · by_cases h4 : hi < x
              · have HS := Lib.hid (HBk.out (fun h => absurd (HKk.out.1 h) (by omega)))
                clear HKk HBk
                go_wp2_with fail
                refine bodyPost_ret (v := .tuple #[.int .i32 0, .int .i64 0]) (by simp [results, Try.results31, go_sem]) rfl ?_
                rw [HS.out]
                exact ⟨rfl, Below.refl _ _⟩
              · have HGD := Lib.hid (HKk.out.2 (by omega))
                clear HKk HBk
                have hw1 : IntKind.i32.wrap (64 * d) = 64 * d := by
                  simp [IntKind.wrap, IntKind.bits, IntKind.signed]
                  omega
                have hw2 : IntKind.i32.wrap (64 * d + x) = 64 * d + x := by
                  simp [IntKind.wrap, IntKind.bits, IntKind.signed]
                  omega
                have hw3 : IntKind.i32.wrap (64 * d + x - 128) = 64 * d + x - 128 := by
                  simp [IntKind.wrap, IntKind.bits, IntKind.signed]
                  omega
                go_wp2_with fail
                go_round
                case rel =>
                  refine ⟨k + 1, by omega, by go_num, by rw [HLn.out.1], by rw [HLn.out.2], ?_, Lib.hid (fun j h1 h2 => ?_)⟩
                  · rw [HNX.out]
                    have : x % 64 = x - 128 := by omega
                    rw [this]
                    congr 1
                    omega
                  · rcases (by omega : j < k + 1 ∨ j = k + 1) with h | rfl
                    · exact HP.out j h1 h
                    · exact HGD.out
                case measure =>
                  simp [intOf]
                  omega
          · have e1 : (bs.drop 1).take k = bs.drop 1 := List.take_of_length_le (by simp; omega)
            have HS := Lib.hid (HGG.out (fun j h1 h2 => HP.out j h1 (by omega)))
            rw [← e1] at HS
            clear e1 HGG HP HL3 HL2 HKB HK HB HC HC1
            have hi1 : ¬ ((k : Int) + 1) < bs.length := by omega
            generalize chF c1 ((bs.drop 1).take k) = d at *
            generalize lk (k + 1) = lo at *
            generalize hk (k + 1) = hi at *
            go_wp2_with fail
            refine bodyPost_ret (v := .tuple #[.int .i32 d, .int .i64 3]) (by simp [results, Try.results31, go_sem]) rfl ?_
            rw [HS.out]
            exact ⟨rfl, Below.refl _ _⟩
    · rcases Nat.lt_or_ge 4 bs.length with h1 | h1
      · have HS := Lib.hid (HL.out h1)
        have h2 : (4 : Int) < (bs.length : Int) := by omega
        clear HG HL HB HK HL1 HKB
        go_enter Try.func31, Try.ntmps31
        go_wp2_with fail
        refine bodyPost_ret (v := .tuple #[.int .i32 0, .int .i64 0]) (by simp [results, Try.results31, go_sem]) rfl ?_
        rw [HS.out]
        exact ⟨rfl, Below.refl _ _⟩
      · have h2 : ¬ (4 : Int) < (bs.length : Int) := by omega
        have HGG := Lib.hid (HG.out h1)
        obtain ⟨l1, l2, l3⟩ := HL1.out
        have HL3 := Lib.hid l3
        have HL2 := Lib.hid (And.intro l1 l2)
        clear HG HL l1 l2 l3 HL1
        obtain ⟨c1, hc1⟩ : ∃ c1, (240 : Int) - 240 = c1 := ⟨_, rfl⟩
        have hcb : 0 ≤ c1 ∧ c1 < 32 := by omega
        have HCB := Lib.hid hcb
        rw [hc1] at HGG
        have HC1 := Lib.hid hc1
        clear hcb hc1
        have hwc : IntKind.i32.wrap ((240 : Int) - 240) = (240 : Int) - 240 := by
          simp [IntKind.wrap, IntKind.bits, IntKind.signed] <;> omega
        go_enter Try.func31, Try.ntmps31
        go_wp2_with fail
        go_loop [5, 6, 7, 8] (fun l h c i => ∃ k : Nat, k + 1 ≤ bs.length ∧ i = .int .i64 (k + 1 : Nat) ∧ l = .int .u8 (lk (k + 1)) ∧ h = .int .u8 (hk (k + 1)) ∧ c = .int .i32 (chF c1 ((bs.drop 1).take k)) ∧ Hid (∀ j, 1 ≤ j → j < k + 1 → goodK bs j)) (fun _ _ _ i => 4 - (intOf i).toNat)
        case atStart => exact ⟨0, by omega, rfl, by rw [HL2.out.1], by rw [HL2.out.2], by rw [← HC1.out]; rfl, Lib.hid (fun j h1 h2 => by omega)⟩
        case round =>
          obtain ⟨k, hk0, rfl, rfl, rfl, rfl, HP⟩ := hrel
          by_cases hlt : k + 1 < bs.length
          · have cx := HC.out (k + 1) hlt
            have hx := HOK.out.getD (k + 1)
            have hkb := HKB.out (k + 1)
            have HKk := Lib.hid (HK.out (k + 1))
            have HBk := Lib.hid (HB.out (k + 1) (by omega) hlt)
            have hb := chF_lt HCB.out.1 ((bs.drop 1).take k)
            have hlk : ((bs.drop 1).take k).length = k := by simp; omega
            rw [hlk] at hb
            have hnx : chF c1 ((bs.drop 1).take (k + 1)) = 64 * chF c1 ((bs.drop 1).take k) + bs.getD (k + 1) 0 % 64 := by
              have e : (bs.drop 1).take (k + 1) = (bs.drop 1).take k ++ [bs.getD (k + 1) 0] := by
                rw [List.take_add_one, List.getElem?_drop, List.getD_eq_getElem?_getD, Nat.add_comm 1 k, List.getElem?_eq_getElem hlt]
                rfl
              rw [e, chF_app]
            have hp64 : (64 : Int) ^ k ≤ 4096 := by
              have h : 64 ^ k ≤ 64 ^ 2 := Nat.pow_le_pow_right (by omega) (by omega)
              have h2 : ((64 ^ k : Nat) : Int) ≤ 4096 := by omega
              simpa using h2
            have hcb := HCB.out
            have hb2 : chF c1 ((bs.drop 1).take k) < 2097152 := by
              have h1 : (c1 + 1) * 64 ^ k ≤ 32 * 4096 := Int.mul_le_mul (by omega) hp64 (Int.pow_nonneg (by omega)) (by omega)
              omega
            have hb1 := hb.1
            have HNX := Lib.hid hnx
            clear hb hlk hnx hp64 hcb
            generalize chF c1 ((bs.drop 1).take k) = d at *
            generalize bs.getD (k + 1) 0 = x at *
            have hl3 := HL3.out (k + 2) (by omega)
            have HLn := Lib.hid hl3
            clear hl3 HL3 HL2 HKB HK HB HC HC1
            generalize lk (k + 1) = lo at *
            generalize hk (k + 1) = hi at *
            have hi1 : ((k : Int) + 1) < bs.length := by omega
            by_cases h3 : x < lo
            · have HS := Lib.hid (HBk.out (fun h => absurd (HKk.out.1 h) (by omega)))
              clear HKk HBk
              go_wp2_with fail
              refine bodyPost_ret (v := .tuple #[.int .i32 0, .int .i64 0]) (by simp [results, Try.results31, go_sem]) rfl ?_
              rw [HS.out]
              exact ⟨rfl, Below.refl _ _⟩
            · by_cases h4 : hi < x
              · have HS := Lib.hid (HBk.out (fun h => absurd (HKk.out.1 h) (by omega)))
                clear HKk HBk
                go_wp2_with fail
                refine bodyPost_ret (v := .tuple #[.int .i32 0, .int .i64 0]) (by simp [results, Try.results31, go_sem]) rfl ?_
                rw [HS.out]
                exact ⟨rfl, Below.refl _ _⟩
              · have HGD := Lib.hid (HKk.out.2 (by omega))
                clear HKk HBk
                have hw1 : IntKind.i32.wrap (64 * d) = 64 * d := by
                  simp [IntKind.wrap, IntKind.bits, IntKind.signed]
                  omega
                have hw2 : IntKind.i32.wrap (64 * d + x) = 64 * d + x := by
                  simp [IntKind.wrap, IntKind.bits, IntKind.signed]
                  omega
                have hw3 : IntKind.i32.wrap (64 * d + x - 128) = 64 * d + x - 128 := by
                  simp [IntKind.wrap, IntKind.bits, IntKind.signed]
                  omega
                go_wp2_with fail
                go_round
                case rel =>
                  refine ⟨k + 1, by omega, by go_num, by rw [HLn.out.1], by rw [HLn.out.2], ?_, Lib.hid (fun j h1 h2 => ?_)⟩
                  · rw [HNX.out]
                    have : x % 64 = x - 128 := by omega
                    rw [this]
                    congr 1
                    omega
                  · rcases (by omega : j < k + 1 ∨ j = k + 1) with h | rfl
                    · exact HP.out j h1 h
                    · exact HGD.out
                case measure =>
                  simp [intOf]
                  omega
          · have e1 : (bs.drop 1).take k = bs.drop 1 := List.take_of_length_le (by simp; omega)
            have HS := Lib.hid (HGG.out (fun j h1 h2 => HP.out j h1 (by omega)))
            rw [← e1] at HS
            clear e1 HGG HP HL3 HL2 HKB HK HB HC HC1
            have hi1 : ¬ ((k : Int) + 1) < bs.length := by omega
            generalize chF c1 ((bs.drop 1).take k) = d at *
            generalize lk (k + 1) = lo at *
            generalize hk (k + 1) = hi at *
            go_wp2_with fail
            refine bodyPost_ret (v := .tuple #[.int .i32 d, .int .i64 4]) (by simp [results, Try.results31, go_sem]) rfl ?_
            rw [HS.out]
            exact ⟨rfl, Below.refl _ _⟩
    · rcases Nat.lt_or_ge 4 bs.length with h1 | h1
      · have HS := Lib.hid (HL.out h1)
        have h2 : (4 : Int) < (bs.length : Int) := by omega
        clear HG HL HB HK HL1 HKB
        go_enter Try.func31, Try.ntmps31
        go_wp2_with fail
        refine bodyPost_ret (v := .tuple #[.int .i32 0, .int .i64 0]) (by simp [results, Try.results31, go_sem]) rfl ?_
        rw [HS.out]
        exact ⟨rfl, Below.refl _ _⟩
      · have h2 : ¬ (4 : Int) < (bs.length : Int) := by omega
        have HGG := Lib.hid (HG.out h1)
        obtain ⟨l1, l2, l3⟩ := HL1.out
        have HL3 := Lib.hid l3
        have HL2 := Lib.hid (And.intro l1 l2)
        clear HG HL l1 l2 l3 HL1
        obtain ⟨c1, hc1⟩ : ∃ c1, (244 : Int) - 240 = c1 := ⟨_, rfl⟩
        have hcb : 0 ≤ c1 ∧ c1 < 32 := by omega
        have HCB := Lib.hid hcb
        rw [hc1] at HGG
        have HC1 := Lib.hid hc1
        clear hcb hc1
        have hwc : IntKind.i32.wrap ((244 : Int) - 240) = (244 : Int) - 240 := by
          simp [IntKind.wrap, IntKind.bits, IntKind.signed] <;> omega
        go_enter Try.func31, Try.ntmps31
        go_wp2_with fail
        go_loop [5, 6, 7, 8] (fun l h c i => ∃ k : Nat, k + 1 ≤ bs.length ∧ i = .int .i64 (k + 1 : Nat) ∧ l = .int .u8 (lk (k + 1)) ∧ h = .int .u8 (hk (k + 1)) ∧ c = .int .i32 (chF c1 ((bs.drop 1).take k)) ∧ Hid (∀ j, 1 ≤ j → j < k + 1 → goodK bs j)) (fun _ _ _ i => 4 - (intOf i).toNat)
        case atStart => exact ⟨0, by omega, rfl, by rw [HL2.out.1], by rw [HL2.out.2], by rw [← HC1.out]; rfl, Lib.hid (fun j h1 h2 => by omega)⟩
        case round =>
          obtain ⟨k, hk0, rfl, rfl, rfl, rfl, HP⟩ := hrel
          by_cases hlt : k + 1 < bs.length
          · have cx := HC.out (k + 1) hlt
            have hx := HOK.out.getD (k + 1)
            have hkb := HKB.out (k + 1)
            have HKk := Lib.hid (HK.out (k + 1))
            have HBk := Lib.hid (HB.out (k + 1) (by omega) hlt)
            have hb := chF_lt HCB.out.1 ((bs.drop 1).take k)
            have hlk : ((bs.drop 1).take k).length = k := by simp; omega
            rw [hlk] at hb
            have hnx : chF c1 ((bs.drop 1).take (k + 1)) = 64 * chF c1 ((bs.drop 1).take k) + bs.getD (k + 1) 0 % 64 := by
              have e : (bs.drop 1).take (k + 1) = (bs.drop 1).take k ++ [bs.getD (k + 1) 0] := by
                rw [List.take_add_one, List.getElem?_drop, List.getD_eq_getElem?_getD, Nat.add_comm 1 k, List.getElem?_eq_getElem hlt]
                rfl
              rw [e, chF_app]
            have hp64 : (64 : Int) ^ k ≤ 4096 := by
              have h : 64 ^ k ≤ 64 ^ 2 := Nat.pow_le_pow_right (by omega) (by omega)
              have h2 : ((64 ^ k : Nat) : Int) ≤ 4096 := by omega
              simpa using h2
            have hcb := HCB.out
            have hb2 : chF c1 ((bs.drop 1).take k) < 2097152 := by
              have h1 : (c1 + 1) * 64 ^ k ≤ 32 * 4096 := Int.mul_le_mul (by omega) hp64 (Int.pow_nonneg (by omega)) (by omega)
              omega
            have hb1 := hb.1
            have HNX := Lib.hid hnx
            clear hb hlk hnx hp64 hcb
            generalize chF c1 ((bs.drop 1).take k) = d at *
            generalize bs.getD (k + 1) 0 = x at *
            have hl3 := HL3.out (k + 2) (by omega)
            have HLn := Lib.hid hl3
            clear hl3 HL3 HL2 HKB HK HB HC HC1
            generalize lk (k + 1) = lo at *
            generalize hk (k + 1) = hi at *
            have hi1 : ((k : Int) + 1) < bs.length := by omega
            by_cases h3 : x < lo
            · have HS := Lib.hid (HBk.out (fun h => absurd (HKk.out.1 h) (by omega)))
              clear HKk HBk
              go_wp2_with fail
              refine bodyPost_ret (v := .tuple #[.int .i32 0, .int .i64 0]) (by simp [results, Try.results31, go_sem]) rfl ?_
              rw [HS.out]
              exact ⟨rfl, Below.refl _ _⟩
            · by_cases h4 : hi < x
              · have HS := Lib.hid (HBk.out (fun h => absurd (HKk.out.1 h) (by omega)))
                clear HKk HBk
                go_wp2_with fail
                refine bodyPost_ret (v := .tuple #[.int .i32 0, .int .i64 0]) (by simp [results, Try.results31, go_sem]) rfl ?_
                rw [HS.out]
                exact ⟨rfl, Below.refl _ _⟩
              · have HGD := Lib.hid (HKk.out.2 (by omega))
                clear HKk HBk
                have hw1 : IntKind.i32.wrap (64 * d) = 64 * d := by
                  simp [IntKind.wrap, IntKind.bits, IntKind.signed]
                  omega
                have hw2 : IntKind.i32.wrap (64 * d + x) = 64 * d + x := by
                  simp [IntKind.wrap, IntKind.bits, IntKind.signed]
                  omega
                have hw3 : IntKind.i32.wrap (64 * d + x - 128) = 64 * d + x - 128 := by
                  simp [IntKind.wrap, IntKind.bits, IntKind.signed]
                  omega
                go_wp2_with fail
                go_round
                case rel =>
                  refine ⟨k + 1, by omega, by go_num, by rw [HLn.out.1], by rw [HLn.out.2], ?_, Lib.hid (fun j h1 h2 => ?_)⟩
                  · rw [HNX.out]
                    have : x % 64 = x - 128 := by omega
                    rw [this]
                    congr 1
                    omega
                  · rcases (by omega : j < k + 1 ∨ j = k + 1) with h | rfl
                    · exact HP.out j h1 h
                    · exact HGD.out
                case measure =>
                  simp [intOf]
                  omega
          · have e1 : (bs.drop 1).take k = bs.drop 1 := List.take_of_length_le (by simp; omega)
            have HS := Lib.hid (HGG.out (fun j h1 h2 => HP.out j h1 (by omega)))
            rw [← e1] at HS
            clear e1 HGG HP HL3 HL2 HKB HK HB HC HC1
            have hi1 : ¬ ((k : Int) + 1) < bs.length := by omega
            generalize chF c1 ((bs.drop 1).take k) = d at *
            generalize lk (k + 1) = lo at *
            generalize hk (k + 1) = hi at *
            go_wp2_with fail
            refine bodyPost_ret (v := .tuple #[.int .i32 d, .int .i64 4]) (by simp [results, Try.results31, go_sem]) rfl ?_
            rw [HS.out]
            exact ⟨rfl, Below.refl _ _⟩
    · rcases Nat.lt_or_ge 4 bs.length with h1 | h1
      · have HS := Lib.hid (HL.out h1)
        have h2 : (4 : Int) < (bs.length : Int) := by omega
        clear HG HL HB HK HL1 HKB
        go_enter Try.func31, Try.ntmps31
        go_wp2_with fail
        refine bodyPost_ret (v := .tuple #[.int .i32 0, .int .i64 0]) (by simp [results, Try.results31, go_sem]) rfl ?_
        rw [HS.out]
        exact ⟨rfl, Below.refl _ _⟩
      · have h2 : ¬ (4 : Int) < (bs.length : Int) := by omega
        have HGG := Lib.hid (HG.out h1)
        obtain ⟨l1, l2, l3⟩ := HL1.out
        have HL3 := Lib.hid l3
        have HL2 := Lib.hid (And.intro l1 l2)
        clear HG HL l1 l2 l3 HL1
        obtain ⟨c1, hc1⟩ : ∃ c1, b0 - 240 = c1 := ⟨_, rfl⟩
        have hcb : 0 ≤ c1 ∧ c1 < 32 := by omega
        have HCB := Lib.hid hcb
        rw [hc1] at HGG
        have HC1 := Lib.hid hc1
        clear hcb hc1
        have hwc : IntKind.i32.wrap (b0 - 240) = b0 - 240 := by
          simp [IntKind.wrap, IntKind.bits, IntKind.signed] <;> omega
        go_enter Try.func31, Try.ntmps31
        go_wp2_with fail
        go_loop [5, 6, 7, 8] (fun l h c i => ∃ k : Nat, k + 1 ≤ bs.length ∧ i = .int .i64 (k + 1 : Nat) ∧ l = .int .u8 (lk (k + 1)) ∧ h = .int .u8 (hk (k + 1)) ∧ c = .int .i32 (chF c1 ((bs.drop 1).take k)) ∧ Hid (∀ j, 1 ≤ j → j < k + 1 → goodK bs j)) (fun _ _ _ i => 4 - (intOf i).toNat)
        case atStart => exact ⟨0, by omega, rfl, by rw [HL2.out.1], by rw [HL2.out.2], by rw [← HC1.out]; rfl, Lib.hid (fun j h1 h2 => by omega)⟩
        case round =>
          obtain ⟨k, hk0, rfl, rfl, rfl, rfl, HP⟩ := hrel
          by_cases hlt : k + 1 < bs.length
          · have cx := HC.out (k + 1) hlt
            have hx := HOK.out.getD (k + 1)
            have hkb := HKB.out (k + 1)
            have HKk := Lib.hid (HK.out (k + 1))
            have HBk := Lib.hid (HB.out (k + 1) (by omega) hlt)
            have hb := chF_lt HCB.out.1 ((bs.drop 1).take k)
            have hlk : ((bs.drop 1).take k).length = k := by simp; omega
            rw [hlk] at hb
            have hnx : chF c1 ((bs.drop 1).take (k + 1)) = 64 * chF c1 ((bs.drop 1).take k) + bs.getD (k + 1) 0 % 64 := by
              have e : (bs.drop 1).take (k + 1) = (bs.drop 1).take k ++ [bs.getD (k + 1) 0] := by
                rw [List.take_add_one, List.getElem?_drop, List.getD_eq_getElem?_getD, Nat.add_comm 1 k, List.getElem?_eq_getElem hlt]
                rfl
              rw [e, chF_app]
            have hp64 : (64 : Int) ^ k ≤ 4096 := by
              have h : 64 ^ k ≤ 64 ^ 2 := Nat.pow_le_pow_right (by omega) (by omega)
              have h2 : ((64 ^ k : Nat) : Int) ≤ 4096 := by omega
              simpa using h2
            have hcb := HCB.out
            have hb2 : chF c1 ((bs.drop 1).take k) < 2097152 := by
              have h1 : (c1 + 1) * 64 ^ k ≤ 32 * 4096 := Int.mul_le_mul (by omega) hp64 (Int.pow_nonneg (by omega)) (by omega)
              omega
            have hb1 := hb.1
            have HNX := Lib.hid hnx
            clear hb hlk hnx hp64 hcb
            generalize chF c1 ((bs.drop 1).take k) = d at *
            generalize bs.getD (k + 1) 0 = x at *
            have hl3 := HL3.out (k + 2) (by omega)
            have HLn := Lib.hid hl3
            clear hl3 HL3 HL2 HKB HK HB HC HC1
            generalize lk (k + 1) = lo at *
            generalize hk (k + 1) = hi at *
            have hi1 : ((k : Int) + 1) < bs.length := by omega
            by_cases h3 : x < lo
            · have HS := Lib.hid (HBk.out (fun h => absurd (HKk.out.1 h) (by omega)))
              clear HKk HBk
              go_wp2_with fail
              refine bodyPost_ret (v := .tuple #[.int .i32 0, .int .i64 0]) (by simp [results, Try.results31, go_sem]) rfl ?_
              rw [HS.out]
              exact ⟨rfl, Below.refl _ _⟩
            · by_cases h4 : hi < x
              · have HS := Lib.hid (HBk.out (fun h => absurd (HKk.out.1 h) (by omega)))
                clear HKk HBk
                go_wp2_with fail
                refine bodyPost_ret (v := .tuple #[.int .i32 0, .int .i64 0]) (by simp [results, Try.results31, go_sem]) rfl ?_
                rw [HS.out]
                exact ⟨rfl, Below.refl _ _⟩
              · have HGD := Lib.hid (HKk.out.2 (by omega))
                clear HKk HBk
                have hw1 : IntKind.i32.wrap (64 * d) = 64 * d := by
                  simp [IntKind.wrap, IntKind.bits, IntKind.signed]
                  omega
                have hw2 : IntKind.i32.wrap (64 * d + x) = 64 * d + x := by
                  simp [IntKind.wrap, IntKind.bits, IntKind.signed]
                  omega
                have hw3 : IntKind.i32.wrap (64 * d + x - 128) = 64 * d + x - 128 := by
                  simp [IntKind.wrap, IntKind.bits, IntKind.signed]
                  omega
                go_wp2_with fail
                go_round
                case rel =>
                  refine ⟨k + 1, by omega, by go_num, by rw [HLn.out.1], by rw [HLn.out.2], ?_, Lib.hid (fun j h1 h2 => ?_)⟩
                  · rw [HNX.out]
                    have : x % 64 = x - 128 := by omega
                    rw [this]
                    congr 1
                    omega
                  · rcases (by omega : j < k + 1 ∨ j = k + 1) with h | rfl
                    · exact HP.out j h1 h
                    · exact HGD.out
                case measure =>
                  simp [intOf]
                  omega
          · have e1 : (bs.drop 1).take k = bs.drop 1 := List.take_of_length_le (by simp; omega)
            have HS := Lib.hid (HGG.out (fun j h1 h2 => HP.out j h1 (by omega)))
            rw [← e1] at HS
            clear e1 HGG HP HL3 HL2 HKB HK HB HC HC1
            have hi1 : ¬ ((k : Int) + 1) < bs.length := by omega
            generalize chF c1 ((bs.drop 1).take k) = d at *
            generalize lk (k + 1) = lo at *
            generalize hk (k + 1) = hi at *
            go_wp2_with fail
            refine bodyPost_ret (v := .tuple #[.int .i32 d, .int .i64 4]) (by simp [results, Try.results31, go_sem]) rfl ?_
            rw [HS.out]
            exact ⟨rfl, Below.refl _ _⟩
end Go.Proofs.Ytghadceeckbgpaa
