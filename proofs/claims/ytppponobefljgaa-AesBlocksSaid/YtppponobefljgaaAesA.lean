/- What is proved: what anchored of the statements answers when it is called: true. -/
import Derived.Test.YtppponobefljgaaAes8
set_option linter.unusedSimpArgs false
set_option linter.unusedVariables false
namespace Go.Proofs.Ytppponobefljgaa
open Go.RowKit
set_option maxRecDepth 100000
set_option maxHeartbeats 8000000
def anK (j : Nat) : Int := (j : Nat)
def anB (j : Nat) : Int := (17 * j : Nat)
def keyL : List Nat := [0, 1, 2, 3, 4, 5, 6, 7, 8, 9, 10, 11, 12, 13, 14, 15, 214, 170, 116, 253, 210, 175, 114, 250, 218, 166, 120, 241, 214, 171, 118, 254, 182, 146, 207, 11, 100, 61, 189, 241, 190, 155, 197, 0, 104, 48, 179, 254, 182, 255, 116, 78, 210, 194, 201, 191, 108, 89, 12, 191, 4, 105, 191, 65, 71, 247, 247, 188, 149, 53, 62, 3, 249, 108, 50, 188, 253, 5, 141, 253, 60, 170, 163, 232, 169, 159, 157, 235, 80, 243, 175, 87, 173, 246, 34, 170, 94, 57, 15, 125, 247, 166, 146, 150, 167, 85, 61, 193, 10, 163, 31, 107, 20, 249, 112, 26, 227, 95, 226, 140, 68, 10, 223, 77, 78, 169, 192, 38, 71, 67, 135, 53, 164, 28, 101, 185, 224, 22, 186, 244, 174, 191, 122, 210, 84, 153, 50, 209, 240, 133, 87, 104, 16, 147, 237, 156, 190, 44, 151, 78, 19, 17, 29, 127, 227, 148, 74, 23, 243, 7, 167, 139, 77, 43, 48, 197]
def keyT (j : Nat) : Int := (keyL.getD j 0 : Nat)
def anL0 : List Nat := [0, 16, 32, 48, 64, 80, 96, 112, 128, 144, 160, 176, 192, 208, 224, 240]
def anS0 (j : Nat) : Int := (anL0.getD j 0 : Nat)
def anL1 : List Nat := [137, 216, 16, 232, 133, 90, 206, 104, 45, 24, 67, 216, 203, 18, 143, 228]
def anS1 (j : Nat) : Int := (anL1.getD j 0 : Nat)
def anL2 : List Nat := [73, 21, 89, 143, 85, 229, 215, 160, 218, 202, 148, 250, 31, 10, 99, 247]
def anS2 (j : Nat) : Int := (anL2.getD j 0 : Nat)
def anL3 : List Nat := [250, 99, 106, 40, 37, 179, 57, 201, 64, 102, 138, 49, 87, 36, 77, 23]
def anS3 (j : Nat) : Int := (anL3.getD j 0 : Nat)
def anL4 : List Nat := [36, 114, 64, 35, 105, 102, 179, 250, 110, 210, 117, 50, 136, 66, 91, 108]
def anS4 (j : Nat) : Int := (anL4.getD j 0 : Nat)
def anL5 : List Nat := [200, 22, 119, 188, 155, 122, 201, 59, 37, 2, 121, 146, 176, 38, 25, 150]
def anS5 (j : Nat) : Int := (anL5.getD j 0 : Nat)
def anL6 : List Nat := [198, 47, 225, 9, 247, 94, 237, 195, 204, 121, 57, 93, 132, 249, 207, 93]
def anS6 (j : Nat) : Int := (anL6.getD j 0 : Nat)
def anL7 : List Nat := [209, 135, 108, 15, 121, 196, 48, 10, 180, 85, 148, 173, 214, 111, 244, 31]
def anS7 (j : Nat) : Int := (anL7.getD j 0 : Nat)
def anL8 : List Nat := [253, 227, 186, 210, 5, 229, 208, 215, 53, 71, 150, 78, 241, 254, 55, 241]
def anS8 (j : Nat) : Int := (anL8.getD j 0 : Nat)
def anL9 : List Nat := [189, 110, 124, 61, 242, 181, 119, 158, 11, 97, 33, 110, 139, 16, 182, 137]
def anS9 (j : Nat) : Int := (anL9.getD j 0 : Nat)
def anL10 : List Nat := [105, 196, 224, 216, 106, 123, 4, 48, 216, 205, 183, 128, 112, 180, 197, 90]
def anS10 (j : Nat) : Int := (anL10.getD j 0 : Nat)
theorem keyT_step : ∀ j, j < 160 → xr (keyT j) (turnK ((j + 16) / 4) (j % 4) (fun c => keyT (4 * ((j + 16) / 4 - 1) + c))) = keyT (j + 16) := by decide +kernel
theorem keyT_low : ∀ j, j < 16 → anK j = keyT j := by decide +kernel
theorem kw_an : ∀ (n j : Nat), j < n → j < 176 → kw anK j = keyT j
  | 0, j, h, _ => absurd h (by omega)
  | n + 1, j, h, hj => by
    rcases Nat.lt_or_ge j 16 with h1 | h1
    · rw [kw_low _ h1, keyT_low j h1]
    · have h2 := keyT_step (j - 16) (by omega)
      rw [show j - 16 + 16 = j by omega, show (j - 16) % 4 = j % 4 by omega] at h2
      rw [kw_high _ h1, ← h2, kw_an n (j - 16) (by omega) (by omega)]
      congr 1
      exact turnK_congr (by omega) (fun d hd => kw_an n _ (by omega) (by omega))
theorem shF_congr {s t : Nat → Int} (h : ∀ j, j < 16 → s j = t j) (j : Nat) (hj : j < 16) : shF s j = shF t j := by
  unfold shF
  rw [h _ (by omega)]
theorem allF_congr {s t : Nat → Int} (h : ∀ j, j < 16 → s j = t j) (i : Nat) (hi : i < 13) : allF s i = allF t i := by
  unfold allF
  rw [h _ (by omega), h _ (by omega), h _ (by omega), h _ (by omega)]
theorem mixF_congr {s t : Nat → Int} (h : ∀ j, j < 16 → s j = t j) (j : Nat) (hj : j < 16) : mixF s j = mixF t j := by
  unfold mixF
  rw [h _ hj, h _ (by omega), allF_congr h _ (by omega)]
theorem addF_congr {s t F G : Nat → Int} {r : Nat} (h : ∀ j, j < 16 → s j = t j) (hF : ∀ j, j < 16 → F (16 * r + j) = G (16 * r + j)) (j : Nat) (hj : j < 16) : addF s F r j = addF t G r j := by
  unfold addF
  rw [h _ hj, hF _ hj]
def rdF (F : Nat → Int) (r : Nat) (s : Nat → Int) : Nat → Int := addF (if r + 1 < 10 then mixF (shF s) else shF s) F (r + 1)
theorem stF_succ (F b : Nat → Int) (r : Nat) : stF F b (r + 1) = rdF F r (stF F b r) := rfl
theorem rdF_congr {s t F G : Nat → Int} {r : Nat} (hr : r < 10) (h : ∀ j, j < 16 → s j = t j) (hF : ∀ j, j < 176 → F j = G j) (j : Nat) (hj : j < 16) : rdF F r s j = rdF G r t j := by
  refine addF_congr (fun j hj => ?_) (fun j hj => hF _ (by omega)) j hj
  by_cases h9 : r + 1 < 10
  · rw [if_pos h9, if_pos h9]
    exact mixF_congr (shF_congr h) j hj
  · rw [if_neg h9, if_neg h9]
    exact shF_congr h j hj
theorem an0 : ∀ j, j < 16 → stF (kw anK) anB 0 j = anS0 j := fun j hj => by
  have key : ∀ j, j < 16 → addF anB keyT 0 j = anS0 j := by decide +kernel
  rw [← key j hj]
  exact addF_congr (fun _ _ => rfl) (fun i hi => kw_an 176 _ (by omega) (by omega)) j hj
theorem an1 : ∀ j, j < 16 → stF (kw anK) anB 1 j = anS1 j := fun j hj => by
  have key : ∀ j, j < 16 → rdF keyT 0 anS0 j = anS1 j := by decide +kernel
  rw [← key j hj]
  exact rdF_congr (by decide) an0 (fun i hi => kw_an 176 _ hi hi) j hj
theorem an2 : ∀ j, j < 16 → stF (kw anK) anB 2 j = anS2 j := fun j hj => by
  have key : ∀ j, j < 16 → rdF keyT 1 anS1 j = anS2 j := by decide +kernel
  rw [← key j hj]
  exact rdF_congr (by decide) an1 (fun i hi => kw_an 176 _ hi hi) j hj
theorem an3 : ∀ j, j < 16 → stF (kw anK) anB 3 j = anS3 j := fun j hj => by
  have key : ∀ j, j < 16 → rdF keyT 2 anS2 j = anS3 j := by decide +kernel
  rw [← key j hj]
  exact rdF_congr (by decide) an2 (fun i hi => kw_an 176 _ hi hi) j hj
theorem an4 : ∀ j, j < 16 → stF (kw anK) anB 4 j = anS4 j := fun j hj => by
  have key : ∀ j, j < 16 → rdF keyT 3 anS3 j = anS4 j := by decide +kernel
  rw [← key j hj]
  exact rdF_congr (by decide) an3 (fun i hi => kw_an 176 _ hi hi) j hj
theorem an5 : ∀ j, j < 16 → stF (kw anK) anB 5 j = anS5 j := fun j hj => by
  have key : ∀ j, j < 16 → rdF keyT 4 anS4 j = anS5 j := by decide +kernel
  rw [← key j hj]
  exact rdF_congr (by decide) an4 (fun i hi => kw_an 176 _ hi hi) j hj
theorem an6 : ∀ j, j < 16 → stF (kw anK) anB 6 j = anS6 j := fun j hj => by
  have key : ∀ j, j < 16 → rdF keyT 5 anS5 j = anS6 j := by decide +kernel
  rw [← key j hj]
  exact rdF_congr (by decide) an5 (fun i hi => kw_an 176 _ hi hi) j hj
theorem an7 : ∀ j, j < 16 → stF (kw anK) anB 7 j = anS7 j := fun j hj => by
  have key : ∀ j, j < 16 → rdF keyT 6 anS6 j = anS7 j := by decide +kernel
  rw [← key j hj]
  exact rdF_congr (by decide) an6 (fun i hi => kw_an 176 _ hi hi) j hj
theorem an8 : ∀ j, j < 16 → stF (kw anK) anB 8 j = anS8 j := fun j hj => by
  have key : ∀ j, j < 16 → rdF keyT 7 anS7 j = anS8 j := by decide +kernel
  rw [← key j hj]
  exact rdF_congr (by decide) an7 (fun i hi => kw_an 176 _ hi hi) j hj
theorem an9 : ∀ j, j < 16 → stF (kw anK) anB 9 j = anS9 j := fun j hj => by
  have key : ∀ j, j < 16 → rdF keyT 8 anS8 j = anS9 j := by decide +kernel
  rw [← key j hj]
  exact rdF_congr (by decide) an8 (fun i hi => kw_an 176 _ hi hi) j hj
theorem an10 : ∀ j, j < 16 → stF (kw anK) anB 10 j = anS10 j := fun j hj => by
  have key : ∀ j, j < 16 → rdF keyT 9 anS9 j = anS10 j := by decide +kernel
  rw [← key j hj]
  exact rdF_congr (by decide) an9 (fun i hi => kw_an 176 _ hi hi) j hj
theorem anchor : rwb 16 (encF anK anB) = #[.int .u8 0x69, .int .u8 0xc4, .int .u8 0xe0, .int .u8 0xd8, .int .u8 0x6a, .int .u8 0x7b, .int .u8 0x04, .int .u8 0x30, .int .u8 0xd8, .int .u8 0xcd, .int .u8 0xb7, .int .u8 0x80, .int .u8 0x70, .int .u8 0xb4, .int .u8 0xc5, .int .u8 0x5a] := by
  rw [rwb_congr (f := encF anK anB) (g := anS10) (fun j hj => an10 j hj)]
  rfl
theorem anchorL : rwb 16 anS10 = #[.int .u8 0x69, .int .u8 0xc4, .int .u8 0xe0, .int .u8 0xd8, .int .u8 0x6a, .int .u8 0x7b, .int .u8 0x04, .int .u8 0x30, .int .u8 0xd8, .int .u8 0xcd, .int .u8 0xb7, .int .u8 0x80, .int .u8 0x70, .int .u8 0xb4, .int .u8 0xc5, .int .u8 0x5a] := rfl
end Go.Proofs.Ytppponobefljgaa
