/- What is proved: what is encrypted is decrypted to what it was, the other way round too, in plain numbers; conditions: the bytes are bytes. -/
import Derived.Test.YtppponobefljgaaAes9
import Derived.Test.YtppponobefljgaaAesP
import Derived.Test.YtppponobefljgaaAesB
set_option linter.unusedSimpArgs false
set_option linter.unusedVariables false
namespace Go.Proofs.Ytppponobefljgaa
open Go.RowKit
set_option maxRecDepth 100000
set_option maxHeartbeats 8000000
/-- Bytes in the first sixteen places. -/
def By (s : Nat → Int) : Prop := ∀ j, j < 16 → 0 ≤ s j ∧ s j ≤ 255
def Eq16 (s t : Nat → Int) : Prop := ∀ j, j < 16 → s j = t j
def M4 (a b c d : Nat) : Nat := a ^^^ ((((a ^^^ b) ^^^ c) ^^^ d) ^^^ x2 (a ^^^ b))
def U4 (a b c d : Nat) : Nat := ((mul a 14 ^^^ mul b 11) ^^^ mul c 13) ^^^ mul d 9
theorem M4_lt {a b c d : Nat} (ha : a < 256) (hb : b < 256) (hc : c < 256) (hd : d < 256) : M4 a b c d < 256 :=
  xor_lt ha (xor_lt (xor_lt (xor_lt (xor_lt ha hb) hc) hd) (x2_lt (xor_lt ha hb)))
theorem U4_lt {a b c d : Nat} (ha : a < 256) (hb : b < 256) (hc : c < 256) (hd : d < 256) : U4 a b c d < 256 :=
  xor_lt (xor_lt (xor_lt (mul_lt _ _ ha) (mul_lt _ _ hb)) (mul_lt _ _ hc)) (mul_lt _ _ hd)
theorem M4_add {a b c d p q r s : Nat} (ha : a < 256) (hb : b < 256) (hp : p < 256) (hq : q < 256) : M4 (a ^^^ p) (b ^^^ q) (c ^^^ r) (d ^^^ s) = M4 a b c d ^^^ M4 p q r s := by
  unfold M4
  rw [xor4 a p b q, x2_xor _ _ (xor_lt ha hb) (xor_lt hp hq)]
  ac_rfl
theorem U4_add {a b c d p q r s : Nat} (ha : a < 256) (hb : b < 256) (hc : c < 256) (hd : d < 256) (hp : p < 256) (hq : q < 256) (hr : r < 256) (hs : s < 256) : U4 (a ^^^ p) (b ^^^ q) (c ^^^ r) (d ^^^ s) = U4 a b c d ^^^ U4 p q r s := by
  unfold U4
  rw [mul_left _ _ _ ha hp, mul_left _ _ _ hb hq, mul_left _ _ _ hc hr, mul_left _ _ _ hd hs]
  ac_rfl
def UM (a b c d : Nat) : Nat := U4 (M4 a b c d) (M4 b c d a) (M4 c d a b) (M4 d a b c)
def MU (a b c d : Nat) : Nat := M4 (U4 a b c d) (U4 b c d a) (U4 c d a b) (U4 d a b c)
theorem UM_add {a b c d p q r s : Nat} (ha : a < 256) (hb : b < 256) (hc : c < 256) (hd : d < 256) (hp : p < 256) (hq : q < 256) (hr : r < 256) (hs : s < 256) : UM (a ^^^ p) (b ^^^ q) (c ^^^ r) (d ^^^ s) = UM a b c d ^^^ UM p q r s := by
  unfold UM
  rw [M4_add ha hb hp hq, M4_add hb hc hq hr, M4_add hc hd hr hs, M4_add hd ha hs hp]
  exact U4_add (M4_lt ha hb hc hd) (M4_lt hb hc hd ha) (M4_lt hc hd ha hb) (M4_lt hd ha hb hc) (M4_lt hp hq hr hs) (M4_lt hq hr hs hp) (M4_lt hr hs hp hq) (M4_lt hs hp hq hr)
theorem MU_add {a b c d p q r s : Nat} (ha : a < 256) (hb : b < 256) (hc : c < 256) (hd : d < 256) (hp : p < 256) (hq : q < 256) (hr : r < 256) (hs : s < 256) : MU (a ^^^ p) (b ^^^ q) (c ^^^ r) (d ^^^ s) = MU a b c d ^^^ MU p q r s := by
  unfold MU
  rw [U4_add ha hb hc hd hp hq hr hs, U4_add hb hc hd ha hq hr hs hp, U4_add hc hd ha hb hr hs hp hq, U4_add hd ha hb hc hs hp hq hr]
  exact M4_add (U4_lt ha hb hc hd) (U4_lt hb hc hd ha) (U4_lt hp hq hr hs) (U4_lt hq hr hs hp)
theorem one4 : ∀ x : Fin 256, UM x.val 0 0 0 = x.val ∧ UM 0 x.val 0 0 = 0 ∧ UM 0 0 x.val 0 = 0 ∧ UM 0 0 0 x.val = 0 ∧ MU x.val 0 0 0 = x.val ∧ MU 0 x.val 0 0 = 0 ∧ MU 0 0 x.val 0 = 0 ∧ MU 0 0 0 x.val = 0 := by decide +kernel
theorem UM_id {a b c d : Nat} (ha : a < 256) (hb : b < 256) (hc : c < 256) (hd : d < 256) : UM a b c d = a := by
  have h1 := @UM_add a b 0 0 0 0 c d ha hb (by omega) (by omega) (by omega) (by omega) hc hd
  have h2 := @UM_add a 0 0 0 0 b 0 0 ha (by omega) (by omega) (by omega) (by omega) hb (by omega) (by omega)
  have h3 := @UM_add 0 0 c 0 0 0 0 d (by omega) (by omega) hc (by omega) (by omega) (by omega) (by omega) hd
  simp only [Nat.xor_zero, Nat.zero_xor] at h1 h2 h3
  rw [h1, h2, h3, (one4 ⟨a, ha⟩).1, (one4 ⟨b, hb⟩).2.1, (one4 ⟨c, hc⟩).2.2.1, (one4 ⟨d, hd⟩).2.2.2.1]
  simp only [Nat.xor_zero]
theorem MU_id {a b c d : Nat} (ha : a < 256) (hb : b < 256) (hc : c < 256) (hd : d < 256) : MU a b c d = a := by
  have h1 := @MU_add a b 0 0 0 0 c d ha hb (by omega) (by omega) (by omega) (by omega) hc hd
  have h2 := @MU_add a 0 0 0 0 b 0 0 ha (by omega) (by omega) (by omega) (by omega) hb (by omega) (by omega)
  have h3 := @MU_add 0 0 c 0 0 0 0 d (by omega) (by omega) hc (by omega) (by omega) (by omega) (by omega) hd
  simp only [Nat.xor_zero, Nat.zero_xor] at h1 h2 h3
  rw [h1, h2, h3, (one4 ⟨a, ha⟩).2.2.2.2.1, (one4 ⟨b, hb⟩).2.2.2.2.2.1, (one4 ⟨c, hc⟩).2.2.2.2.2.2.1, (one4 ⟨d, hd⟩).2.2.2.2.2.2.2]
  simp only [Nat.xor_zero]
theorem xr_nat {a b : Nat} (ha : a < 256) (hb : b < 256) : xr (a : Int) (b : Int) = ((a ^^^ b : Nat) : Int) := u8_xor_nat a b ha hb
theorem tmI_nat (a n : Nat) : tmI (a : Int) n = (mul a n : Nat) := by unfold tmI; rw [Int.toNat_natCast]
/-- The column mixed, byte by byte. -/
theorem mixF_col {s : Nat → Int} {q a b c d : Nat} (ha : a < 256) (hb : b < 256) (hc : c < 256) (hd : d < 256) (h0 : s (4 * q) = a) (h1 : s (4 * q + 1) = b) (h2 : s (4 * q + 2) = c) (h3 : s (4 * q + 3) = d) :
    mixF s (4 * q) = (M4 a b c d : Nat) ∧ mixF s (4 * q + 1) = (M4 b c d a : Nat) ∧ mixF s (4 * q + 2) = (M4 c d a b : Nat) ∧ mixF s (4 * q + 3) = (M4 d a b c : Nat) := by
  have hal : allF s (4 * q) = ((((a ^^^ b) ^^^ c) ^^^ d : Nat) : Int) := by
    unfold allF
    rw [h0, h1, h2, h3, xr_nat ha hb, xr_nat (xor_lt ha hb) hc, xr_nat (xor_lt (xor_lt ha hb) hc) hd]
  have hl := xor_lt (xor_lt (xor_lt ha hb) hc) hd
  have key : ∀ {x y : Nat} (hx : x < 256) (hy : y < 256), xr (x : Int) (xr ((((a ^^^ b) ^^^ c) ^^^ d : Nat) : Int) (twI (xr (x : Int) (y : Int)))) = ((x ^^^ ((((a ^^^ b) ^^^ c) ^^^ d) ^^^ x2 (x ^^^ y)) : Nat) : Int) := by
    intro x y hx hy
    rw [xr_nat hx hy]
    unfold twI
    rw [Int.toNat_natCast, xr_nat hl (x2_lt (xor_lt hx hy)), xr_nat hx (xor_lt hl (x2_lt (xor_lt hx hy)))]
  unfold mixF
  refine ⟨?_, ?_, ?_, ?_⟩
  · rw [show 4 * (4 * q / 4) = 4 * q by omega, show (4 * q + 1) % 4 = 1 by omega, hal, h0, h1, key ha hb]
    rfl
  · rw [show 4 * ((4 * q + 1) / 4) = 4 * q by omega, show (4 * q + 1 + 1) % 4 = 2 by omega, hal, h1, h2, key hb hc]
    unfold M4
    rw [show ((a ^^^ b) ^^^ c) ^^^ d = ((b ^^^ c) ^^^ d) ^^^ a by ac_rfl]
  · rw [show 4 * ((4 * q + 2) / 4) = 4 * q by omega, show (4 * q + 2 + 1) % 4 = 3 by omega, hal, h2, h3, key hc hd]
    unfold M4
    rw [show ((a ^^^ b) ^^^ c) ^^^ d = ((c ^^^ d) ^^^ a) ^^^ b by ac_rfl]
  · rw [show 4 * ((4 * q + 3) / 4) = 4 * q by omega, show (4 * q + 3 + 1) % 4 = 0 by omega, hal, h3, Nat.add_zero, h0, key hd ha]
    unfold M4
    rw [show ((a ^^^ b) ^^^ c) ^^^ d = ((d ^^^ a) ^^^ b) ^^^ c by ac_rfl]
theorem mixU_col {s : Nat → Int} {q a b c d : Nat} (ha : a < 256) (hb : b < 256) (hc : c < 256) (hd : d < 256) (h0 : s (4 * q) = a) (h1 : s (4 * q + 1) = b) (h2 : s (4 * q + 2) = c) (h3 : s (4 * q + 3) = d) :
    mixU s (4 * q) = (U4 a b c d : Nat) ∧ mixU s (4 * q + 1) = (U4 b c d a : Nat) ∧ mixU s (4 * q + 2) = (U4 c d a b : Nat) ∧ mixU s (4 * q + 3) = (U4 d a b c : Nat) := by
  have key : ∀ {x y z u : Nat} (hx : x < 256) (hy : y < 256) (hz : z < 256) (hu : u < 256), xr (xr (xr (tmI (x : Int) 14) (tmI (y : Int) 11)) (tmI (z : Int) 13)) (tmI (u : Int) 9) = (U4 x y z u : Nat) := by
    intro x y z u hx hy hz hu
    rw [tmI_nat, tmI_nat, tmI_nat, tmI_nat, xr_nat (mul_lt _ _ hx) (mul_lt _ _ hy), xr_nat (xor_lt (mul_lt _ _ hx) (mul_lt _ _ hy)) (mul_lt _ _ hz), xr_nat (xor_lt (xor_lt (mul_lt _ _ hx) (mul_lt _ _ hy)) (mul_lt _ _ hz)) (mul_lt _ _ hu)]
    rfl
  unfold mixU
  refine ⟨?_, ?_, ?_, ?_⟩
  · rw [show 4 * (4 * q / 4) = 4 * q by omega, show 4 * q % 4 = 0 by omega, Nat.add_zero, h0, h1, h2, h3, key ha hb hc hd]
  · rw [show 4 * ((4 * q + 1) / 4) = 4 * q by omega, show (4 * q + 1) % 4 = 1 by omega, h1, h2, h3, show (1 + 3) % 4 = 0 by omega, Nat.add_zero, h0, key hb hc hd ha]
  · rw [show 4 * ((4 * q + 2) / 4) = 4 * q by omega, show (4 * q + 2) % 4 = 2 by omega, h2, h3, show (2 + 2) % 4 = 0 by omega, show (2 + 3) % 4 = 1 by omega, Nat.add_zero, h0, h1, key hc hd ha hb]
  · rw [show 4 * ((4 * q + 3) / 4) = 4 * q by omega, show (4 * q + 3) % 4 = 3 by omega, h3, show (3 + 1) % 4 = 0 by omega, show (3 + 2) % 4 = 1 by omega, show (3 + 3) % 4 = 2 by omega, Nat.add_zero, h0, h1, h2, key hd ha hb hc]
theorem byNat {s : Nat → Int} (h : By s) {j : Nat} (hj : j < 16) : ∃ a : Nat, a < 256 ∧ s j = (a : Int) := ⟨(s j).toNat, by have := h j hj; omega, by have := h j hj; omega⟩
theorem col_all {P : Nat → Prop} (h : ∀ q, q < 4 → P (4 * q) ∧ P (4 * q + 1) ∧ P (4 * q + 2) ∧ P (4 * q + 3)) (j : Nat) (hj : j < 16) : P j := by
  obtain ⟨h0, h1, h2, h3⟩ := h (j / 4) (by omega)
  rcases (by omega : j = 4 * (j / 4) ∨ j = 4 * (j / 4) + 1 ∨ j = 4 * (j / 4) + 2 ∨ j = 4 * (j / 4) + 3) with e | e | e | e <;> rw [e] <;> assumption
theorem mixUF {s : Nat → Int} (h : By s) : Eq16 (mixU (mixF s)) s := by
  refine col_all fun q hq => ?_
  obtain ⟨a, ha, e0⟩ := byNat h (j := 4 * q) (by omega)
  obtain ⟨b, hb, e1⟩ := byNat h (j := 4 * q + 1) (by omega)
  obtain ⟨c, hc, e2⟩ := byNat h (j := 4 * q + 2) (by omega)
  obtain ⟨d, hd, e3⟩ := byNat h (j := 4 * q + 3) (by omega)
  obtain ⟨f0, f1, f2, f3⟩ := mixF_col ha hb hc hd e0 e1 e2 e3
  obtain ⟨g0, g1, g2, g3⟩ := mixU_col (M4_lt ha hb hc hd) (M4_lt hb hc hd ha) (M4_lt hc hd ha hb) (M4_lt hd ha hb hc) f0 f1 f2 f3
  rw [g0, g1, g2, g3, e0, e1, e2, e3]
  exact ⟨congrArg Int.ofNat (UM_id ha hb hc hd), congrArg Int.ofNat (UM_id hb hc hd ha), congrArg Int.ofNat (UM_id hc hd ha hb), congrArg Int.ofNat (UM_id hd ha hb hc)⟩
theorem mixFU {s : Nat → Int} (h : By s) : Eq16 (mixF (mixU s)) s := by
  refine col_all fun q hq => ?_
  obtain ⟨a, ha, e0⟩ := byNat h (j := 4 * q) (by omega)
  obtain ⟨b, hb, e1⟩ := byNat h (j := 4 * q + 1) (by omega)
  obtain ⟨c, hc, e2⟩ := byNat h (j := 4 * q + 2) (by omega)
  obtain ⟨d, hd, e3⟩ := byNat h (j := 4 * q + 3) (by omega)
  obtain ⟨f0, f1, f2, f3⟩ := mixU_col ha hb hc hd e0 e1 e2 e3
  obtain ⟨g0, g1, g2, g3⟩ := mixF_col (U4_lt ha hb hc hd) (U4_lt hb hc hd ha) (U4_lt hc hd ha hb) (U4_lt hd ha hb hc) f0 f1 f2 f3
  rw [g0, g1, g2, g3, e0, e1, e2, e3]
  exact ⟨congrArg Int.ofNat (MU_id ha hb hc hd), congrArg Int.ofNat (MU_id hb hc hd ha), congrArg Int.ofNat (MU_id hc hd ha hb), congrArg Int.ofNat (MU_id hd ha hb hc)⟩
theorem unB_sbI {x : Int} (h : 0 ≤ x ∧ x ≤ 255) : unB (sbI x) = x := by
  have := (tab_s x.toNat (by omega)).2.1
  unfold unB sbI unsI subI
  rw [Int.toNat_natCast, this]
  omega
theorem sbI_unB {x : Int} (h : 0 ≤ x ∧ x ≤ 255) : sbI (unB x) = x := by
  have := (tab_s x.toNat (by omega)).2.2.2.2.2.2
  unfold unB sbI unsI subI
  rw [Int.toNat_natCast, this]
  omega
theorem unB_b {x : Int} (h : 0 ≤ x ∧ x ≤ 255) : 0 ≤ unB x ∧ unB x ≤ 255 := by
  have := (tab_s x.toNat (by omega)).2.2.2.2.2.1
  unfold unB unsI
  omega
theorem idx1 : ∀ j, j < 16 → 4 * (((4 * ((j / 4 + 4 - j % 4) % 4) + j % 4) / 4 + (4 * ((j / 4 + 4 - j % 4) % 4) + j % 4) % 4) % 4) + (4 * ((j / 4 + 4 - j % 4) % 4) + j % 4) % 4 = j := by decide +kernel
theorem idx2 : ∀ j, j < 16 → 4 * (((4 * ((j / 4 + j % 4) % 4) + j % 4) / 4 + 4 - (4 * ((j / 4 + j % 4) % 4) + j % 4) % 4) % 4) + (4 * ((j / 4 + j % 4) % 4) + j % 4) % 4 = j := by decide +kernel
theorem shUF {s : Nat → Int} (h : By s) : Eq16 (shU (shF s)) s := by
  intro j hj
  unfold shU shF
  rw [idx1 j hj, unB_sbI (h j hj)]
theorem shFU {s : Nat → Int} (h : By s) : Eq16 (shF (shU s)) s := by
  intro j hj
  unfold shU shF
  show sbI (unB (s _)) = _
  rw [idx2 j hj, sbI_unB (h j hj)]
theorem shU_cg {s t : Nat → Int} (h : Eq16 s t) : Eq16 (shU s) (shU t) := fun j hj => by unfold shU; rw [h _ (by omega)]
theorem shF_cg {s t : Nat → Int} (h : Eq16 s t) : Eq16 (shF s) (shF t) := fun j hj => by unfold shF; rw [h _ (by omega)]
theorem addF_cg {s t F : Nat → Int} {r : Nat} (h : Eq16 s t) : Eq16 (addF s F r) (addF t F r) := fun j hj => by unfold addF; rw [h _ hj]
theorem mixU_cg {s t : Nat → Int} (h : Eq16 s t) : Eq16 (mixU s) (mixU t) := fun j hj => by
  unfold mixU
  rw [h (4 * (j / 4) + j % 4) (by omega), h (4 * (j / 4) + (j % 4 + 1) % 4) (by omega), h (4 * (j / 4) + (j % 4 + 2) % 4) (by omega), h (4 * (j / 4) + (j % 4 + 3) % 4) (by omega)]
theorem mixF_cg {s t : Nat → Int} (h : Eq16 s t) : Eq16 (mixF s) (mixF t) := fun j hj => by
  unfold mixF allF
  rw [h j hj, h (4 * (j / 4)) (by omega), h (4 * (j / 4) + 1) (by omega), h (4 * (j / 4) + 2) (by omega), h (4 * (j / 4) + 3) (by omega), h (4 * (j / 4) + (j + 1) % 4) (by omega)]
theorem xr_back {x y : Int} (hx : 0 ≤ x ∧ x ≤ 255) (hy : 0 ≤ y ∧ y ≤ 255) : xr (xr x y) y = x := by
  obtain ⟨a, rfl⟩ := Int.eq_ofNat_of_zero_le hx.1
  obtain ⟨b, rfl⟩ := Int.eq_ofNat_of_zero_le hy.1
  rw [xr_nat (by omega) (by omega), xr_nat (xor_lt (by omega) (by omega)) (by omega), Nat.xor_assoc, Nat.xor_self, Nat.xor_zero]
theorem addF_back {s F : Nat → Int} {r : Nat} (hs : By s) (hF : ∀ j, 0 ≤ F j ∧ F j ≤ 255) : Eq16 (addF (addF s F r) F r) s := fun j hj => by
  unfold addF
  rw [xr_back (hs j hj) (hF _)]
theorem by_addF (s F : Nat → Int) (r : Nat) : By (addF s F r) := fun j hj => xr_b _ _
theorem by_mixF (s : Nat → Int) : By (mixF s) := fun j hj => xr_b _ _
theorem by_mixU (s : Nat → Int) : By (mixU s) := fun j hj => xr_b _ _
theorem by_shF {s : Nat → Int} (h : By s) : By (shF s) := fun j hj => sbI_b (h _ (by omega))
theorem by_shU {s : Nat → Int} (h : By s) : By (shU s) := fun j hj => unB_b (h _ (by omega))
theorem by_st (F b : Nat → Int) (r : Nat) : By (stF F b r) := fun j hj => stF_b F b r j
theorem by_dt {F b : Nat → Int} (hb : By b) : ∀ n, By (dtF F b n)
  | 0 => hb
  | n + 1 => by
    show By (shU (if 10 - n < 10 then mixU (addF (dtF F b n) F (10 - n)) else addF (dtF F b n) F (10 - n)))
    by_cases h : 10 - n < 10
    · rw [if_pos h]; exact by_shU (by_mixU _)
    · rw [if_neg h]; exact by_shU (by_addF _ _ _)
theorem Eq16.trans {s t u : Nat → Int} (h : Eq16 s t) (g : Eq16 t u) : Eq16 s u := fun j hj => (h j hj).trans (g j hj)
theorem Eq16.symm {s t : Nat → Int} (h : Eq16 s t) : Eq16 t s := fun j hj => (h j hj).symm
theorem dt_st {F b : Nat → Int} (hF : ∀ j, 0 ≤ F j ∧ F j ≤ 255) {c : Nat → Int} (hc : Eq16 c (stF F b 10)) : ∀ n, n ≤ 10 → Eq16 (dtF F c n) (stF F b (10 - n))
  | 0, _ => hc
  | n + 1, hn => by
    have ih := dt_st hF hc n (by omega)
    obtain ⟨r, hr⟩ : ∃ r, 10 - n = r + 1 := ⟨9 - n, by omega⟩
    show Eq16 (shU (if 10 - n < 10 then mixU (addF (dtF F c n) F (10 - n)) else addF (dtF F c n) F (10 - n))) _
    rw [show 10 - (n + 1) = r by omega]
    rw [hr] at ih ⊢
    by_cases h : r + 1 < 10
    · rw [if_pos h]
      have e : stF F b (r + 1) = addF (mixF (shF (stF F b r))) F (r + 1) := by show addF (if r + 1 < 10 then _ else _) F (r + 1) = _; rw [if_pos h]
      rw [e] at ih
      refine (shU_cg ((mixU_cg ((addF_cg ih).trans (addF_back (by_mixF _) hF))).trans (mixUF (by_shF (by_st F b r))))).trans (shUF (by_st F b r))
    · rw [if_neg h]
      have e : stF F b (r + 1) = addF (shF (stF F b r)) F (r + 1) := by show addF (if r + 1 < 10 then _ else _) F (r + 1) = _; rw [if_neg h]
      rw [e] at ih
      exact (shU_cg ((addF_cg ih).trans (addF_back (by_shF (by_st F b r)) hF))).trans (shUF (by_st F b r))
theorem dm_st {F b : Nat → Int} (hF : ∀ j, 0 ≤ F j ∧ F j ≤ 255) (hb : By b) {c : Nat → Int} (hc : Eq16 c (stF F b 10)) : Eq16 (dmF F c) b :=
  (addF_cg (dt_st hF hc 10 (by omega))).trans (addF_back hb hF)
theorem st_dt {F b : Nat → Int} (hF : ∀ j, 0 ≤ F j ∧ F j ≤ 255) (hb : By b) {c : Nat → Int} (hc : Eq16 c (dmF F b)) : ∀ r, r ≤ 10 → Eq16 (stF F c r) (dtF F b (10 - r))
  | 0, _ => (addF_cg hc).trans (addF_back (by_dt hb 10) hF)
  | r + 1, hr => by
    have ih := st_dt hF hb hc r (by omega)
    obtain ⟨n, hn⟩ : ∃ n, 10 - (r + 1) = n := ⟨_, rfl⟩
    rw [show 10 - r = n + 1 by omega] at ih
    rw [hn]
    show Eq16 (addF (if r + 1 < 10 then mixF (shF (stF F c r)) else shF (stF F c r)) F (r + 1)) _
    have e : dtF F b (n + 1) = shU (if 10 - n < 10 then mixU (addF (dtF F b n) F (10 - n)) else addF (dtF F b n) F (10 - n)) := rfl
    rw [show 10 - n = r + 1 by omega] at e
    by_cases h : r + 1 < 10
    · rw [if_pos h] at e ⊢
      rw [e] at ih
      exact (addF_cg ((mixF_cg ((shF_cg ih).trans (shFU (by_mixU _)))).trans (mixFU (by_addF _ _ _)))).trans (addF_back (by_dt hb n) hF)
    · rw [if_neg h] at e ⊢
      rw [e] at ih
      exact (addF_cg ((shF_cg ih).trans (shFU (by_addF _ _ _)))).trans (addF_back (by_dt hb n) hF)
theorem st_dm {F b : Nat → Int} (hF : ∀ j, 0 ≤ F j ∧ F j ≤ 255) (hb : By b) {c : Nat → Int} (hc : Eq16 c (dmF F b)) : Eq16 (stF F c 10) b := st_dt hF hb hc 10 (by omega)
theorem st_congr {F s t : Nat → Int} (h : Eq16 s t) : ∀ r, Eq16 (stF F s r) (stF F t r)
  | 0 => addF_cg h
  | r + 1 => by
    have ih := shF_cg (st_congr (F := F) h r)
    show Eq16 (addF (if r + 1 < 10 then mixF (shF (stF F s r)) else shF (stF F s r)) F (r + 1)) (addF (if r + 1 < 10 then mixF (shF (stF F t r)) else shF (stF F t r)) F (r + 1))
    by_cases h : r + 1 < 10
    · rw [if_pos h, if_pos h]; exact addF_cg (mixF_cg ih)
    · rw [if_neg h, if_neg h]; exact addF_cg ih
/-- A block decrypted. -/
def decF (key b : Nat → Int) : Nat → Int := dmF (kw key) b
theorem dec_enc {key b : Nat → Int} (hk : By key) (hb : By b) : Eq16 (decF key (encF key b)) b := dm_st (kw_b key hk) hb (fun _ _ => rfl)
theorem enc_dec {key b : Nat → Int} (hk : By key) (hb : By b) : Eq16 (encF key (decF key b)) b := st_dm (kw_b key hk) hb (fun _ _ => rfl)
theorem enc_inj {key a b : Nat → Int} (hk : By key) (ha : By a) (hb : By b) : eqb (encF key a) (encF key b) = eqb a b := by
  apply Bool.eq_iff_iff.2
  rw [eqb_iff, eqb_iff]
  refine ⟨fun h => ?_, fun h => st_congr h 10⟩
  exact (dm_st (kw_b key hk) ha (fun _ _ => rfl)).symm.trans (dm_st (kw_b key hk) hb h)
end Go.Proofs.Ytppponobefljgaa
