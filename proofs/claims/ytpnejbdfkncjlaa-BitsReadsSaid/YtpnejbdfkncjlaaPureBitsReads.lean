/- What is proved: what the printed texts of the law BitsReads compute, with fuel enough; plain Lean, no program. Condition: the lists are of a length that memory holds. -/
import Derived.Test.YtpnejbdfkncjlaaPBitsReadsx
import Derived.Test.YtpnejbdfkncjlaaBitsNum
import Derived.Test.YtpnejbdfkncjlaaOpenFields
import Derived.SizedLaws
set_option linter.unusedVariables false
set_option linter.unusedSimpArgs false
namespace Go.Proofs.Ytpnejbdfkncjlaa.PBitsReads
open Go Go.RowKit Go.ChangeShapes Go.WideShapes Go.Deep Go.Proofs.YtpnejbdfkncjlaaW.PrintWords Go.Proofs.YtpnejbdfkncjlaaW.PrintMore Go.Proofs.Ytpnejbdfkncjlaa.BitsNum
theorem pow_mono64 (i : Nat) (h : i ≤ 64) : 2 ^ i ≤ 2 ^ 64 := Nat.pow_le_pow_right (by decide) h
theorem div_lt (v i : Nat) (h : v < 2 ^ 64) : v / 2 ^ i < 2 ^ 64 := Nat.lt_of_le_of_lt (Nat.div_le_self _ _) h
theorem w64 (n : Int) (h0 : -9223372036854775808 ≤ n) (h1 : n ≤ 9223372036854775807) : wrap64 n = n := by unfold wrap64; omega
theorem u64w (n : Int) (h0 : 0 ≤ n) (h1 : n < 18446744073709551616) : IntKind.u64.wrap n = n := by
  simp [IntKind.wrap, IntKind.bits, IntKind.signed]; omega
theorem u64_or (a b : Nat) (ha : a < 2 ^ 64) (hb : b < 2 ^ 64) : Go.bits .or .u64 (a : Int) b = ((a ||| b : Nat) : Int) :=
  (bits_nat .u64 64 (by decide) (fun n h0 h1 => u64w n h0 (by simpa using h1)) a b ha hb).2
theorem u64_and1 (a : Nat) (ha : a < 2 ^ 64) : Go.bits .and .u64 (a : Int) 1 = ((a % 2 : Nat) : Int) := by
  have := (bits_nat .u64 64 (by decide) (fun n h0 h1 => u64w n h0 (by simpa using h1)) a 1 ha (by decide)).1
  rw [show ((1 : Nat) : Int) = 1 from rfl] at this
  rw [this, Nat.and_one_is_mod]
theorem u8_and1 (a : Nat) (ha : a < 2 ^ 8) : Go.bits .and .u8 (a : Int) 1 = ((a % 2 : Nat) : Int) := by
  have := (bits_nat .u8 8 (by decide) wraps_u8 a 1 ha (by decide)).1
  rw [show ((1 : Nat) : Int) = 1 from rfl] at this
  rw [this, Nat.and_one_is_mod]
theorem tdiv8 (a : Nat) : Int.tdiv (a : Int) 8 = ((a / 8 : Nat) : Int) := by rw [show (8 : Int) = ((8 : Nat) : Int) from rfl, ← Int.ofNat_tdiv]
theorem tmod8 (a : Nat) : Int.tmod (a : Int) 8 = ((a % 8 : Nat) : Int) := by rw [show (8 : Int) = ((8 : Nat) : Int) from rfl, ← Int.ofNat_tmod]
theorem shr_u64 (a k : Nat) (hk : k ≤ 64) : shr .u64 (a : Int) (k : Int) = ((a / 2 ^ k : Nat) : Int) := by
  unfold shr
  rw [Int.toNat_natCast, Nat.min_eq_left (by simpa [IntKind.bits] using hk), Int.natCast_ediv, Int.natCast_pow]; rfl
theorem shr_u8 (a k : Nat) (hk : k ≤ 8) : shr .u8 (a : Int) (k : Int) = ((a / 2 ^ k : Nat) : Int) := by
  unfold shr
  rw [Int.toNat_natCast, Nat.min_eq_left (by simpa [IntKind.bits] using hk), Int.natCast_ediv, Int.natCast_pow]; rfl

theorem at8 (a : Nat) (h : a ≤ 4611686018427387904) : wrap64 (Int.tdiv (a : Int) 8) = ((a / 8 : Nat) : Int) := by rw [tdiv8, w64 _ (by omega) (by omega)]
theorem in8 (a : Nat) : IntKind.u64.wrap (Int.tmod (a : Int) 8) = ((a % 8 : Nat) : Int) := by rw [tmod8, u64w _ (by omega) (by omega)]
theorem room8 (a l : Nat) : mn (wrap64 (8 - Int.tmod (a : Int) 8)) (l : Int) = ((min (8 - a % 8) l : Nat) : Int) := by
  rw [tmod8, w64 _ (by omega) (by omega)]
  unfold mn
  split <;> omega
theorem u64n (a : Nat) (h : a ≤ 4611686018427387904) : IntKind.u64.wrap (a : Int) = (a : Int) := u64w _ (by omega) (by omega)
theorem wadd (a b : Nat) (h : a + b ≤ 4611686018427387904) : wrap64 ((a : Int) + (b : Nat)) = ((a + b : Nat) : Int) := by rw [w64 _ (by omega) (by omega)]; omega
theorem wsub (a b : Nat) (h : b ≤ a) (ha : a ≤ 4611686018427387904) : wrap64 ((a : Int) - (b : Nat)) = ((a - b : Nat) : Int) := by rw [w64 _ (by omega) (by omega)]; omega
theorem wsucc (a : Nat) (h : a < 4611686018427387904) : wrap64 ((a : Int) + 1) = ((a + 1 : Nat) : Int) := by rw [w64 _ (by omega) (by omega)]; omega

def nat (x : S39) : Nat × Nat := (x.f0.toNat, x.f1.toNat)
def wfS (x : S39) : Prop := 0 ≤ x.f0 ∧ x.f0 < 18446744073709551616 ∧ -9223372036854775808 ≤ x.f1 ∧ x.f1 ≤ 9223372036854775807
def mayB (x : S39) : Bool := decide (0 ≤ x.f1) && decide (x.f1 ≤ 64) && decide (x.f0.toNat < 2 ^ x.f1.toNat)
theorem mayB_iff {x : S39} : mayB x = true ↔ 0 ≤ x.f1 ∧ x.f1 ≤ 64 ∧ x.f0.toNat < 2 ^ x.f1.toNat := by
  simp [mayB, and_assoc]
theorem rd_mid (p : List S39) (x : S39) (q : List S39) (i : Int) (hi : i = p.length) : rd_T39 (p ++ x :: q) i = x := by
  subst hi
  simp [rd_T39, List.getD_eq_getElem?_getD]

theorem may_eq (a b : Int) (h : wfS ⟨a, b⟩) : bits_may.f a b = some (mayB ⟨a, b⟩) := by
  obtain ⟨h0, h1, h2, h3⟩ := h
  simp only at h0 h1 h2 h3
  unfold bits_may.f mayB
  by_cases c1 : b ≥ 0
  · by_cases c2 : b ≤ 64
    · obtain ⟨m, rfl⟩ := Int.eq_ofNat_of_zero_le c1
      obtain ⟨v, rfl⟩ := Int.eq_ofNat_of_zero_le h0
      by_cases c3 : (m : Int) = 64
      · have : m = 64 := by omega
        subst this
        have : v < 2 ^ 64 := by omega
        simp [this]
      · rw [if_pos c1, if_pos c2, if_neg c3, u64w _ (by omega) (by omega), if_pos c1, shr_u64 v m (by omega)]
        simp only [Int.toNat_natCast, c1, c2, decide_true, Bool.true_and, Option.some.injEq]
        have hp := Nat.two_pow_pos m
        by_cases c4 : v < 2 ^ m
        · rw [Nat.div_eq_of_lt c4]; simp [c4]
        · have : v / 2 ^ m ≠ 0 := by
            intro h
            rcases (Nat.div_eq_zero_iff).1 h with h | h <;> omega
          simp only [c4, decide_false]
          exact beq_false_of_ne (by omega)
    · rw [if_pos c1, if_neg c2]; simp [c2]
  · rw [if_neg c1]; simp [c1]

def cnt (l : List S39) : Int × Int := if l.all mayB then (if sumS (l.map nat) > 524288 then (0, 4) else ((sumS (l.map nat) : Int), 0)) else (0, 2)
theorem sum_le : ∀ (l : List S39), l.all mayB = true → sumS (l.map nat) ≤ 64 * l.length
  | [], _ => by simp [sumS]
  | x :: r, h => by
    simp only [List.all_cons, Bool.and_eq_true] at h
    have h1 := sum_le r h.2
    have h2 := mayB_iff.1 h.1
    simp only [List.map_cons, sumS, List.length_cons, nat]
    omega

theorem count_l1 (q : List S39) : ∀ (p : List S39) (xs : List S39), xs = p ++ q → xs.length ≤ 140737488355328 → (∀ x ∈ xs, mayB x = true) → sumS (p.map nat) ≤ 524288 →
    Evy (fun k => bits_Count.l1 k (sumS (p.map nat)) xs (xs.length : Int) (p.length : Int)) (if sumS (xs.map nat) > 524288 then (0, 4) else ((sumS (xs.map nat) : Int), 0)) := by
  induction q with
  | nil =>
    intro p xs hx hl hm hs
    have : p = xs := by rw [hx, List.append_nil]
    subst this
    refine Evy.step (G := fun _ => _) (fun k => by rw [bits_Count.l1, if_neg (by omega)]) ?_
    exact Evy.const fun _ => by rw [if_neg (by omega)]
  | cons x q ih =>
    intro p xs hx hl hm hs
    have hlen : xs.length = p.length + q.length + 1 := by rw [hx, List.length_append, List.length_cons]; omega
    have hr : rd_T39 xs (p.length : Int) = x := by rw [hx]; exact rd_mid p x q _ rfl
    obtain ⟨m0, m1, m2⟩ := mayB_iff.1 (hm x (by rw [hx]; simp))
    have hsum : sumS ((p ++ [x]).map nat) = sumS (p.map nat) + x.f1.toNat := by
      rw [List.map_append, sumS_append]; simp [sumS, nat]
    have hall : sumS (xs.map nat) = sumS (p.map nat) + x.f1.toNat + sumS (q.map nat) := by
      rw [hx, List.map_append, sumS_append]; simp [sumS, nat]; omega
    have hw : wrap64 ((sumS (p.map nat) : Int) + (rd_T39 xs (p.length : Int)).f1) = ((sumS ((p ++ [x]).map nat) : Nat) : Int) := by
      rw [hr, w64 _ (by omega) (by omega), hsum]; omega
    have hw2 : wrap64 ((p.length : Int) + 1) = (((p ++ [x]).length : Nat) : Int) := by
      rw [w64 _ (by omega) (by omega), List.length_append]; rfl
    by_cases c : sumS ((p ++ [x]).map nat) > 524288
    · refine Evy.step (G := fun _ => some (0, 4)) (fun k => by rw [bits_Count.l1, if_pos (by omega), if_pos (by omega), if_pos (by omega), hw, if_pos (by omega)]) (Evy.const fun _ => ?_)
      rw [if_pos (by omega)]
    · refine Evy.step (fun k => by rw [bits_Count.l1, if_pos (by omega), if_pos (by omega), if_pos (by omega), hw, if_neg (by omega), hw2]) ?_
      exact ih (p ++ [x]) xs (by rw [hx, List.append_assoc]; rfl) hl hm (by omega)

theorem count_l0 (q : List S39) : ∀ (p : List S39) (xs : List S39), xs = p ++ q → xs.length ≤ 140737488355328 → (∀ x ∈ xs, wfS x) → (∀ x ∈ p, mayB x = true) →
    Evy (fun k => bits_Count.l0 k xs xs (xs.length : Int) (p.length : Int)) (cnt xs) := by
  induction q with
  | nil =>
    intro p xs hx hl hm hs
    have : p = xs := by rw [hx, List.append_nil]
    subst this
    refine Evy.step (fun k => by rw [bits_Count.l0, if_neg (by omega)]) ?_
    have h := count_l1 p [] p (by simp) hl hs (by simp [sumS])
    unfold cnt
    rw [if_pos (List.all_eq_true.2 hs)]
    simpa [sumS] using h
  | cons x q ih =>
    intro p xs hx hl hm hs
    have hlen : xs.length = p.length + q.length + 1 := by rw [hx, List.length_append, List.length_cons]; omega
    have hr : rd_T39 xs (p.length : Int) = x := by rw [hx]; exact rd_mid p x q _ rfl
    have hmay : bits_may.f (rd_T39 xs (p.length : Int)).f0 (rd_T39 xs (p.length : Int)).f1 = some (mayB x) := by
      rw [hr]; exact may_eq _ _ (hm x (by rw [hx]; simp))
    have hw2 : wrap64 ((p.length : Int) + 1) = (((p ++ [x]).length : Nat) : Int) := by
      rw [w64 _ (by omega) (by omega), List.length_append]; rfl
    by_cases c : mayB x = true
    · refine Evy.step (fun k => by rw [bits_Count.l0, if_pos (by omega), if_pos (by omega), if_pos (by omega), hmay, Option.bind_some, if_pos c, hw2]) ?_
      refine ih (p ++ [x]) xs (by rw [hx, List.append_assoc]; rfl) hl hm (fun y hy => ?_)
      rcases List.mem_append.1 hy with h | h
      · exact hs y h
      · rw [List.mem_singleton.1 h]; exact c
    · refine Evy.step (G := fun _ => some (0, 2)) (fun k => by rw [bits_Count.l0, if_pos (by omega), if_pos (by omega), if_pos (by omega), hmay, Option.bind_some, if_neg c]) (Evy.const fun _ => ?_)
      unfold cnt
      rw [if_neg (by rw [hx]; simp [c])]
theorem count_ev (xs : List S39) (hl : xs.length ≤ 140737488355328) (hm : ∀ x ∈ xs, wfS x) : Evy (fun k => bits_Count.f k xs) (cnt xs) :=
  count_l0 xs [] xs rfl hl hm (by simp)

def bytesN : Nat → Nat → List Int
  | 0, _ => []
  | L + 1, n => ((n % 256 : Nat) : Int) :: bytesN L (n / 256)
theorem bytesN_len : ∀ L n, (bytesN L n).length = L
  | 0, _ => rfl
  | L + 1, n => by simp [bytesN, bytesN_len L]
theorem bytesN_u8 : ∀ L n, u8s (bytesN L n)
  | 0, _ => by simp [bytesN, u8s]
  | L + 1, n => by
    intro x hx
    simp only [bytesN, List.mem_cons] at hx
    rcases hx with rfl | hx
    · omega
    · exact bytesN_u8 L _ x hx
theorem bytesN_num : ∀ L n, n < 256 ^ L → num (bytesN L n) = n
  | 0, n, h => by simp at h; subst h; rfl
  | L + 1, n, h => by
    simp only [bytesN, num]
    rw [bytesN_num L (n / 256) (by rw [Nat.pow_succ] at h; exact Nat.div_lt_of_lt_mul (by rw [Nat.mul_comm]; exact h))]
    omega
theorem bytesN_eq (b : List Int) (h : u8s b) : b = bytesN b.length (num b) :=
  num_inj _ _ h (bytesN_u8 _ _) (bytesN_len _ _).symm (bytesN_num _ _ (num_lt b h)).symm

theorem write_step (k : Nat) (b : List Int) (at_ left : Nat) (xs : List S39) (n i s : Int) (v r : Nat) (z : Int) (hat : at_ ≤ 2000000000000000) (hlt : at_ / 8 < b.length) (h0 : 0 < left) (h64 : left ≤ 64)
    (hr : min (8 - at_ % 8) left = r) (hz : Go.bits .or .u8 (rd b ((at_ / 8 : Nat) : Int)) (shl .u8 ((v : Int) % 256) ((at_ % 8 : Nat) : Int)) = z) :
    bits_Write.l1 (k + 1) b (at_ : Int) (left : Int) xs n i (v : Int) s = bits_Write.l1 k (b.set (at_ / 8) z) ((at_ + r : Nat) : Int) ((left - r : Nat) : Int) xs n i ((v / 2 ^ r : Nat) : Int) s := by
  have hr1 : r ≤ left := by omega
  have e3 := room8 at_ left
  rw [hr] at e3
  rw [bits_Write.l1, if_pos (by omega)]
  simp only [at8 at_ (by omega), in8, e3, u64n r (by omega), wadd at_ r (by omega), wsub left r hr1 (by omega)]
  rw [if_pos (by omega), if_pos (by omega), if_pos (by omega), if_pos (by omega), shr_u64 v r (by omega), hz, Int.toNat_natCast]

theorem write_l1 (xs : List S39) (i s : Int) (L : Nat) (R : List Int × Int) (hL : L ≤ 140737488355328) : ∀ (left : Nat) (b : List Int) (at_ v : Nat), u8s b → b.length = L → num b < 2 ^ at_ → v < 2 ^ left → at_ + left ≤ 8 * L → left ≤ 64 →
    (∀ b' : List Int, u8s b' → b'.length = L → num b' = num b + v * 2 ^ at_ → Evy (fun k => bits_Write.l0 k b' ((at_ + left : Nat) : Int) xs (xs.length : Int) (wrap64 (i + 1))) R) →
    Evy (fun k => bits_Write.l1 k b (at_ : Int) (left : Int) xs (xs.length : Int) i (v : Int) s) R := by
  intro left
  induction left using Nat.strongRecOn with
  | ind left ih =>
  intro b at_ v hu hl hn hv hle h64 hk
  by_cases c : left = 0
  · subst c
    refine Evy.step (fun k => by rw [bits_Write.l1, if_neg (by omega)]) ?_
    have hv0 : v = 0 := by simpa using hv
    subst hv0
    exact hk b hu hl (by simp)
  · have hmod : at_ % 8 < 8 := Nat.mod_lt _ (by decide)
    obtain ⟨z, hz, z0, z1, hnum⟩ := num_put b at_ v hu (by omega) hn
    have hat : at_ < 2000000000000000 := by clear hn hv hk hz hnum z0 z1 hmod; omega
    have hr1 : min (8 - at_ % 8) left ≤ left := Nat.min_le_right _ _
    have hr2 : 0 < min (8 - at_ % 8) left := by clear hn hv hk hz hnum z0 z1; omega
    have hr3 : v % 2 ^ (8 - at_ % 8) = v % 2 ^ min (8 - at_ % 8) left := by
      by_cases h : 8 - at_ % 8 ≤ left
      · rw [Nat.min_eq_left h]
      · rw [Nat.min_eq_right (by omega), Nat.mod_eq_of_lt hv]
        exact Nat.mod_eq_of_lt (Nat.lt_of_lt_of_le hv (Nat.pow_le_pow_right (by decide) (by omega)))
    rw [hr3] at hnum
    generalize hr : min (8 - at_ % 8) left = r at *
    have hrl : r ≤ 64 := Nat.le_trans hr1 h64
    have hat8 : at_ / 8 < b.length := by clear hn hv hk hz hnum z0 z1; omega
    refine Evy.step (G := fun k => bits_Write.l1 k (b.set (at_ / 8) z) ((at_ + r : Nat) : Int) ((left - r : Nat) : Int) xs (xs.length : Int) i ((v / 2 ^ r : Nat) : Int) s) (fun k => ?_) ?_
    · exact write_step k b at_ left xs _ i s v r z (by clear hn hv hk hz hnum z0 z1; omega) hat8 (by clear hn hv hk hz hnum z0 z1; omega) h64 hr hz
    · have hmulc : ∀ x : Nat, x * 2 ^ r * 2 ^ at_ = x * 2 ^ (at_ + r) := fun x => by rw [Nat.mul_assoc, ← Nat.pow_add, Nat.add_comm r]
      have hlt : num (b.set (at_ / 8) z) < 2 ^ (at_ + r) := by
        rw [hnum, Nat.pow_add, Nat.mul_comm (2 ^ at_)]
        have h1 : v % 2 ^ r + 1 ≤ 2 ^ r := Nat.mod_lt _ (Nat.two_pow_pos _)
        have h2 := Nat.mul_le_mul_right (2 ^ at_) h1
        rw [Nat.add_mul] at h2
        omega
      refine ih (left - r) (by omega) _ _ _ (u8s_set _ _ _ hu z0 z1) (by rw [List.length_set]; exact hl) hlt ?_ (by omega) (by omega) ?_
      · rw [Nat.div_lt_iff_lt_mul (Nat.two_pow_pos _), ← Nat.pow_add, show left - r + r = left from by omega]; exact hv
      · intro b' hu' hl' hn'
        have := hk b' hu' hl' (by
          rw [hn', hnum, ← hmulc, Nat.add_assoc, ← Nat.add_mul]
          congr 2
          rw [Nat.mul_comm (v / 2 ^ r)]
          have := Nat.mod_add_div v (2 ^ r)
          omega)
        rw [show at_ + r + (left - r) = at_ + left from by omega]
        exact this

theorem write_l0 (q : List S39) : ∀ (p : List S39) (xs : List S39) (b : List Int) (L : Nat), xs = p ++ q → xs.length ≤ 140737488355328 → (∀ x ∈ xs, wfS x ∧ mayB x = true) → u8s b → b.length = L → num b = val (p.map nat) → sumS (xs.map nat) ≤ 8 * L → L ≤ 140737488355328 →
    Evy (fun k => bits_Write.l0 k b (sumS (p.map nat)) xs (xs.length : Int) (p.length : Int)) (bytesN L (val (xs.map nat)), 0) := by
  induction q with
  | nil =>
    intro p xs b L hx hl hm hu hlen hn hs hL
    have : p = xs := by rw [hx, List.append_nil]
    subst this
    refine Evy.step (G := fun _ => _) (fun k => by rw [bits_Write.l0, if_neg (by omega)]) ?_
    refine Evy.const fun _ => ?_
    rw [← hn, ← hlen, ← bytesN_eq b hu]
  | cons x q ih =>
    intro p xs b L hx hl hm hu hlb hn hs hL
    have hlen : xs.length = p.length + q.length + 1 := by rw [hx, List.length_append, List.length_cons]; omega
    have hr : rd_T39 xs (p.length : Int) = x := by rw [hx]; exact rd_mid p x q _ rfl
    obtain ⟨⟨f0, f1, f2, f3⟩, hmx⟩ := hm x (by rw [hx]; simp)
    obtain ⟨m0, m1, m2⟩ := mayB_iff.1 hmx
    have hsum : sumS ((p ++ [x]).map nat) = sumS (p.map nat) + x.f1.toNat := by
      rw [List.map_append, sumS_append]; simp [sumS, nat]
    have hval : val ((p ++ [x]).map nat) = val (p.map nat) + x.f0.toNat * 2 ^ sumS (p.map nat) := by
      rw [List.map_append, val_append]; simp [val, nat, Nat.mul_comm]
    have hall : sumS (xs.map nat) = sumS (p.map nat) + x.f1.toNat + sumS (q.map nat) := by
      rw [hx, List.map_append, sumS_append]; simp [sumS, nat]; omega
    have hw2 : wrap64 ((p.length : Int) + 1) = (((p ++ [x]).length : Nat) : Int) := by
      rw [w64 _ (by omega) (by omega), List.length_append]; rfl
    have hpv : num b < 2 ^ sumS (p.map nat) := by
      rw [hn]
      refine val_lt _ (fun y hy => ?_)
      obtain ⟨x', hx', rfl⟩ := List.mem_map.1 hy
      exact (mayB_iff.1 (hm x' (by rw [hx]; exact List.mem_append_left _ hx')).2).2.2
    refine Evy.step (fun k => by rw [bits_Write.l0, if_pos (by omega), if_pos (by omega), if_pos (by omega), hr]) ?_
    have e0 : x.f0 = ((x.f0.toNat : Nat) : Int) := by omega
    have e1 : x.f1 = ((x.f1.toNat : Nat) : Int) := by omega
    have key := write_l1 xs (p.length : Int) x.f1 L (bytesN L (val (xs.map nat)), 0) hL x.f1.toNat b (sumS (p.map nat)) x.f0.toNat hu hlb hpv m2 (by omega) (by omega) (fun b' hu' hl' hn' => by
      rw [hw2, ← hsum]
      exact ih (p ++ [x]) xs b' L (by rw [hx, List.append_assoc]; rfl) hl hm hu' hl' (by rw [hn', hn, hval]) hs hL)
    rw [← e0, ← e1] at key
    exact key

def wrt (l : List S39) : List Int × Int := if (cnt l).2 = 0 then (bytesN ((sumS (l.map nat) + 7) / 8) (val (l.map nat)), 0) else ([], (cnt l).2)
theorem cnt_ok {l : List S39} (h : (cnt l).2 = 0) : (∀ x ∈ l, mayB x = true) ∧ sumS (l.map nat) ≤ 524288 ∧ (cnt l).1 = sumS (l.map nat) := by
  unfold cnt at h ⊢
  split at h
  · rename_i ha
    split at h
    · simp at h
    · rename_i hs
      refine ⟨fun x hx => List.all_eq_true.1 ha x hx, by omega, ?_⟩
      rw [if_pos ha, if_neg hs]
  · simp at h
theorem write_ev (xs : List S39) (hl : xs.length ≤ 140737488355328) (hm : ∀ x ∈ xs, wfS x) : Evy (fun k => bits_Write.f k xs) (wrt xs) := by
  unfold bits_Write.f
  refine Evy.bind (count_ev xs hl hm) ?_
  unfold wrt
  by_cases c : (cnt xs).2 = 0
  · obtain ⟨h1, h2, h3⟩ := cnt_ok c
    have e : wrap64 (Int.tdiv (wrap64 ((cnt xs).1 + 7)) 8) = (((sumS (xs.map nat) + 7) / 8 : Nat) : Int) := by
      rw [h3, show wrap64 ((sumS (xs.map nat) : Nat) + 7) = ((sumS (xs.map nat) + 7 : Nat) : Int) from wadd _ 7 (by omega), at8 _ (by omega)]
    rw [if_pos c]
    refine Evy.of_eq (fun k => by rw [if_pos c, e, if_pos (by omega), if_pos (by omega)]) ?_
    rw [Int.toNat_natCast]
    have := write_l0 xs [] xs (List.replicate ((sumS (xs.map nat) + 7) / 8) 0) ((sumS (xs.map nat) + 7) / 8) rfl hl (fun x hx => ⟨hm x hx, h1 x hx⟩) (u8s_replicate _) (by simp) (by rw [num_replicate]; rfl) (by omega) (by omega)
    simpa [sumS] using this
  · rw [if_neg c]
    exact Evy.const fun k => by rw [if_neg c]

theorem u64_join (r v : Nat) (hr : r < 2 ^ 63) (hv : v < 2 ^ 64) : Go.bits .or .u64 (IntKind.u64.wrap ((r : Int) * 2)) (Go.bits .and .u64 (v : Int) 1) = ((2 * r + v % 2 : Nat) : Int) := by
  rw [u64_and1 v hv, show ((r : Int) * 2) = ((2 * r : Nat) : Int) from by omega, u64w _ (by omega) (by omega), u64_or _ _ (by omega) (by omega)]
  have := Nat.two_pow_add_eq_or_of_lt (i := 1) (b := v % 2) (by omega) r
  rw [← this]
theorem rev63 (i v : Nat) (h : i < 64) : rev i v < 2 ^ 63 := Nat.lt_of_lt_of_le (rev_lt i v) (Nat.pow_le_pow_right (by decide) (by omega))

theorem upd_eq (b : List Int) (a i : Nat) (hu : u8s b) (h : a + i < 8 * b.length) (hl : b.length ≤ 281474976710656) (h64 : i < 64) :
    Go.bits .or .u64 ((num b / 2 ^ a % 2 ^ i : Nat) : Int) (shl .u64 (IntKind.u64.wrap (Go.bits .and .u8 (shr .u8 (rd b (wrap64 (Int.tdiv (wrap64 ((a : Int) + (i : Nat))) 8))) (IntKind.u64.wrap (Int.tmod (wrap64 ((a : Int) + (i : Nat))) 8))) 1)) (IntKind.u64.wrap ((i : Nat) : Int)))
      = ((num b / 2 ^ a % 2 ^ (i + 1) : Nat) : Int) := by
  rw [wadd a i (by omega), at8 _ (by omega), in8, u64n i (by omega)]
  have hg := getD_u8 b ((a + i) / 8) hu
  have e : rd b (((a + i) / 8 : Nat) : Int) = (((b.getD ((a + i) / 8) 0).toNat : Nat) : Int) := by
    unfold rd
    rw [Int.toNat_natCast]; omega
  have hb8 : (b.getD ((a + i) / 8) 0).toNat < 2 ^ 8 := by omega
  rw [e, shr_u8 _ _ (by omega), u8_and1 _ (Nat.lt_of_le_of_lt (Nat.div_le_self _ _) hb8), num_bit b (a + i) hu h]
  have hbit : num b / 2 ^ (a + i) % 2 = num b / 2 ^ a / 2 ^ i % 2 := by rw [Nat.div_div_eq_div_mul, Nat.pow_add]
  rw [hbit, Nat.mod_pow_succ]
  generalize num b / 2 ^ a = m
  have hm : m / 2 ^ i % 2 < 2 := Nat.mod_lt _ (by decide)
  generalize m / 2 ^ i % 2 = t at hm
  have hlow : m % 2 ^ i < 2 ^ i := Nat.mod_lt _ (Nat.two_pow_pos _)
  generalize m % 2 ^ i = y at hlow
  have hp : 2 ^ (i + 1) ≤ 2 ^ 64 := Nat.pow_le_pow_right (by decide) (by omega)
  have hp1 : 2 ^ i ≤ 2 ^ 64 := pow_mono64 i (by omega)
  rw [Nat.pow_succ] at hp
  have ht : t * 2 ^ i < 2 ^ 64 := by
    have := Nat.mul_le_mul_right (2 ^ i) (show t ≤ 1 from by omega)
    have h1 := Nat.two_pow_pos i
    omega
  have hs : shl .u64 (IntKind.u64.wrap ((t : Nat) : Int)) ((i : Nat) : Int) = ((t * 2 ^ i : Nat) : Int) := by
    unfold shl
    rw [u64n t (by omega), Int.toNat_natCast, Nat.min_eq_left (by simpa [IntKind.bits] using (show i ≤ 64 by omega))]
    rw [show ((t : Int) * 2 ^ i) = ((t * 2 ^ i : Nat) : Int) from by rw [Int.natCast_mul, Int.natCast_pow]; rfl]
    exact u64w _ (Int.natCast_nonneg _) (by have h := Int.ofNat_lt.2 ht; exact h)
  rw [hs, u64_or _ _ (Nat.lt_of_lt_of_le hlow hp1) ht, Nat.or_comm, Nat.mul_comm t, ← Nat.two_pow_add_eq_or_of_lt hlow t, Nat.add_comm]

def rdS (l : List Int) (a s : Int) : Int × Int :=
  if a < 0 ∨ s < 0 ∨ s > 64 then (0, 2) else if a > 8 * (l.length : Int) ∨ s > 8 * (l.length : Int) - a then (0, 7) else (((num l / 2 ^ a.toNat % 2 ^ s.toNat : Nat) : Int), 0)

theorem read_l0 (b : List Int) (a s : Nat) (hu : u8s b) (h : a + s ≤ 8 * b.length) (hl : b.length ≤ 281474976710656) (h64 : s ≤ 64) : ∀ (n i : Nat), s - i = n → i ≤ s →
    Evy (fun k => bits_Read.l0 k b (a : Int) ((num b / 2 ^ a % 2 ^ i : Nat) : Int) (s : Int) (i : Int)) (((num b / 2 ^ a % 2 ^ s : Nat) : Int), 0)
  | 0, i, hn, hi => by
    have : i = s := by omega
    subst this
    refine Evy.step (G := fun _ => _) (fun k => by rw [bits_Read.l0, if_neg (by omega)]) (Evy.const fun _ => rfl)
  | n + 1, i, hn, hi => by
    refine Evy.step (G := fun k => bits_Read.l0 k b (a : Int) ((num b / 2 ^ a % 2 ^ (i + 1) : Nat) : Int) (s : Int) ((i + 1 : Nat) : Int)) (fun k => ?_) (read_l0 b a s hu h hl h64 n (i + 1) (by omega) (by omega))
    rw [bits_Read.l0, if_pos (by omega), upd_eq b a i hu (by omega) hl (by omega), wsucc i (by omega)]
    rw [wadd a i (by omega), at8 _ (by omega), in8, u64n i (by omega), if_pos (by omega), if_pos (by omega), if_pos (by omega), if_pos (by omega)]

theorem read_ev (b : List Int) (a s : Int) (hu : u8s b) (hl : b.length ≤ 281474976710656) (ha : -9223372036854775808 ≤ a ∧ a ≤ 9223372036854775807) (hs : -9223372036854775808 ≤ s ∧ s ≤ 9223372036854775807) :
    Evy (fun k => bits_Read.f k b a s) (rdS b a s) := by
  unfold bits_Read.f rdS
  by_cases c1 : a < 0
  · refine Evy.of_eq (fun k => by rw [if_pos c1]) (Evy.step (G := fun _ => some (0, 2)) (fun k => by rw [bits_Read.j0, if_pos rfl]) (Evy.const fun _ => ?_))
    rw [if_pos (Or.inl c1)]
  · by_cases c2 : s < 0
    · refine Evy.of_eq (fun k => by rw [if_neg c1, if_pos c2]) (Evy.step (G := fun _ => some (0, 2)) (fun k => by rw [bits_Read.j0, if_pos rfl]) (Evy.const fun _ => ?_))
      rw [if_pos (Or.inr (Or.inl c2))]
    · refine Evy.of_eq (fun k => by rw [if_neg c1, if_neg c2]) ?_
      by_cases c3 : s > 64
      · refine Evy.step (G := fun _ => some (0, 2)) (fun k => by rw [bits_Read.j0, if_pos (by simpa using c3)]) (Evy.const fun _ => ?_)
        rw [if_pos (Or.inr (Or.inr c3))]
      · rw [if_neg (by omega)]
        have e : wrap64 (8 * (b.length : Int)) = 8 * (b.length : Int) := w64 _ (by omega) (by omega)
        by_cases c4 : a > 8 * (b.length : Int)
        · refine Evy.step (G := fun _ => some (0, 7)) (fun k => by rw [bits_Read.j0, if_neg (by simpa using c3), e, if_pos c4]) (Evy.const fun _ => ?_)
          rw [if_pos (Or.inl c4)]
        · have e2 : wrap64 (8 * (b.length : Int) - a) = 8 * (b.length : Int) - a := w64 _ (by omega) (by omega)
          by_cases c5 : s > 8 * (b.length : Int) - a
          · refine Evy.step (G := fun _ => some (0, 7)) (fun k => by rw [bits_Read.j0, if_neg (by simpa using c3), e, if_neg c4, e2, if_pos c5]) (Evy.const fun _ => ?_)
            rw [if_pos (Or.inr c5)]
          · rw [if_neg (by omega)]
            obtain ⟨a', rfl⟩ := Int.eq_ofNat_of_zero_le (show 0 ≤ a by omega)
            obtain ⟨s', rfl⟩ := Int.eq_ofNat_of_zero_le (show 0 ≤ s by omega)
            refine Evy.step (fun k => by rw [bits_Read.j0, if_neg (by simpa using c3), e, if_neg c4, e2, if_neg c5]) ?_
            have := read_l0 b a' s' hu (by omega) hl (by omega) s' 0 (by omega) (by omega)
            simpa [Nat.mod_one] using this

theorem rev_l0 (v s : Nat) (x y : Int) (hv : v < 2 ^ 64) (h64 : s ≤ 64) : ∀ (n i : Nat), s - i = n → i ≤ s →
    Evy (fun k => bits_Reverse.l0 k (s : Int) (i : Int) ((v / 2 ^ i : Nat) : Int) x ((rev i v : Nat) : Int) y) (((rev s v : Nat) : Int), y, 0)
  | 0, i, hn, hi => by
    have : i = s := by omega
    subst this
    refine Evy.step (G := fun _ => _) (fun k => by rw [bits_Reverse.l0, if_neg (by omega)]) (Evy.const fun _ => rfl)
  | n + 1, i, hn, hi => by
    refine Evy.step (G := fun k => bits_Reverse.l0 k (s : Int) ((i + 1 : Nat) : Int) ((v / 2 ^ (i + 1) : Nat) : Int) x ((rev (i + 1) v : Nat) : Int) y) (fun k => ?_) (rev_l0 v s x y hv h64 n (i + 1) (by omega) (by omega))
    rw [bits_Reverse.l0, if_pos (by omega), wsucc i (by omega), u64_join _ _ (rev63 i v (by omega)) (div_lt v i hv)]
    rw [show (((v / 2 ^ i : Nat) : Int) / 2) = ((v / 2 ^ (i + 1) : Nat) : Int) from by rw [Nat.pow_succ, ← Nat.div_div_eq_div_mul]; rfl]
    rfl

def revS (x : S39) : Int × Int × Int := if mayB x then (((rev x.f1.toNat x.f0.toNat : Nat) : Int), x.f1, 0) else (0, 0, 2)
theorem rev_ev (a b : Int) (h : wfS ⟨a, b⟩) : Evy (fun k => bits_Reverse.f k a b) (revS ⟨a, b⟩) := by
  unfold bits_Reverse.f revS
  by_cases c : mayB ⟨a, b⟩ = true
  · obtain ⟨m0, m1, m2⟩ := mayB_iff.1 c
    obtain ⟨h0, h1, h2, h3⟩ := h
    simp only at m0 m1 m2 h0 h1
    refine Evy.of_eq (fun k => by rw [may_eq a b ⟨h0, h1, h2, h3⟩, Option.bind_some, if_pos c]) ?_
    rw [if_pos c]
    obtain ⟨v, rfl⟩ := Int.eq_ofNat_of_zero_le h0
    obtain ⟨s, rfl⟩ := Int.eq_ofNat_of_zero_le m0
    have := rev_l0 v s ((s : Nat) : Int) ((s : Nat) : Int) (by omega) (by omega) s 0 (by omega) (by omega)
    simpa [rev] using this
  · exact Evy.const fun k => by rw [may_eq a b h, Option.bind_some, if_neg c, if_neg c]

theorem wrt_u8 (l : List S39) : u8s (wrt l).1 := by
  unfold wrt
  split
  · exact bytesN_u8 _ _
  · simp [u8s]
theorem anch_ev : Evy (fun k => wayfarerlaw03_anchored.f k) true := by
  have h0 : wayfarerlaw03_anchored.f 30 = some true := by kernel_rfl
  refine ⟨30, fun k hk => ?_⟩
  obtain ⟨j, rfl⟩ : ∃ j, k = 30 + j := ⟨k - 30, by omega⟩
  clear hk
  induction j with
  | zero => exact h0
  | succ j ih => exact wayfarerlaw03_anchored.mono _ _ ih

theorem refread_l0 (b : List Int) (a s : Nat) (hu : u8s b) (h : a + s ≤ 8 * b.length) (hl : b.length ≤ 281474976710656) (h64 : s ≤ 64) : ∀ (n i : Nat), s - i = n → i ≤ s →
    Evy (fun k => wayfarerref03_Read.l0 k b (a : Int) (s : Int) ((num b / 2 ^ a % 2 ^ i : Nat) : Int) (i : Int)) (((num b / 2 ^ a % 2 ^ s : Nat) : Int), 0)
  | 0, i, hn, hi => by
    have : i = s := by omega
    subst this
    refine Evy.step (G := fun _ => _) (fun k => by rw [wayfarerref03_Read.l0, if_neg (by omega)]) (Evy.const fun _ => rfl)
  | n + 1, i, hn, hi => by
    refine Evy.step (G := fun k => wayfarerref03_Read.l0 k b (a : Int) (s : Int) ((num b / 2 ^ a % 2 ^ (i + 1) : Nat) : Int) ((i + 1 : Nat) : Int)) (fun k => ?_) (refread_l0 b a s hu h hl h64 n (i + 1) (by omega) (by omega))
    rw [wayfarerref03_Read.l0, if_pos (by omega), upd_eq b a i hu (by omega) hl (by omega), wsucc i (by omega)]
    rw [wadd a i (by omega), at8 _ (by omega), in8, u64n i (by omega), if_pos (by omega), if_pos (by omega), if_pos (by omega), if_pos (by omega)]

theorem refread_ev (b : List Int) (a s : Int) (hu : u8s b) (hl : b.length ≤ 281474976710656) (ha : -9223372036854775808 ≤ a ∧ a ≤ 9223372036854775807) (hs : -9223372036854775808 ≤ s ∧ s ≤ 9223372036854775807) :
    Evy (fun k => wayfarerref03_Read.f k b a s) (rdS b a s) := by
  unfold wayfarerref03_Read.f rdS
  by_cases c1 : a < 0
  · refine Evy.of_eq (fun k => by rw [if_pos c1]) (Evy.step (G := fun _ => some (0, 2)) (fun k => by rw [wayfarerref03_Read.j0, if_pos rfl]) (Evy.const fun _ => ?_))
    rw [if_pos (Or.inl c1)]
  · by_cases c2 : s < 0
    · refine Evy.of_eq (fun k => by rw [if_neg c1, if_pos c2]) (Evy.step (G := fun _ => some (0, 2)) (fun k => by rw [wayfarerref03_Read.j0, if_pos rfl]) (Evy.const fun _ => ?_))
      rw [if_pos (Or.inr (Or.inl c2))]
    · refine Evy.of_eq (fun k => by rw [if_neg c1, if_neg c2]) ?_
      by_cases c3 : s > 64
      · refine Evy.step (G := fun _ => some (0, 2)) (fun k => by rw [wayfarerref03_Read.j0, if_pos (by simpa using c3)]) (Evy.const fun _ => ?_)
        rw [if_pos (Or.inr (Or.inr c3))]
      · rw [if_neg (by omega)]
        have e : wrap64 (8 * (b.length : Int)) = 8 * (b.length : Int) := w64 _ (by omega) (by omega)
        by_cases c4 : a > 8 * (b.length : Int)
        · refine Evy.step (fun k => by rw [wayfarerref03_Read.j0, if_neg (by simpa using c3), e, if_pos c4]) (Evy.step (G := fun _ => some (0, 7)) (fun k => by rw [wayfarerref03_Read.j1, if_pos rfl]) (Evy.const fun _ => ?_))
          rw [if_pos (Or.inl c4)]
        · have e2 : wrap64 (8 * (b.length : Int) - a) = 8 * (b.length : Int) - a := w64 _ (by omega) (by omega)
          refine Evy.step (fun k => by rw [wayfarerref03_Read.j0, if_neg (by simpa using c3), e, if_neg c4, e2]) ?_
          by_cases c5 : s > 8 * (b.length : Int) - a
          · refine Evy.step (G := fun _ => some (0, 7)) (fun k => by rw [wayfarerref03_Read.j1, if_pos (by simpa using c5)]) (Evy.const fun _ => ?_)
            rw [if_pos (Or.inr c5)]
          · rw [if_neg (by omega)]
            obtain ⟨a', rfl⟩ := Int.eq_ofNat_of_zero_le (show 0 ≤ a by omega)
            obtain ⟨s', rfl⟩ := Int.eq_ofNat_of_zero_le (show 0 ≤ s by omega)
            refine Evy.step (fun k => by rw [wayfarerref03_Read.j1, if_neg (by simpa using c5)]) ?_
            have := refread_l0 b a' s' hu (by omega) hl (by omega) s' 0 (by omega) (by omega)
            simpa [Nat.mod_one] using this

theorem refrev_l0 (v s : Nat) (hv : v < 2 ^ 64) (h64 : s ≤ 64) : ∀ (n i : Nat), s - i = n → i ≤ s →
    Evy (fun k => wayfarerref03_Reverse.l0 k ((rev i v : Nat) : Int) (i : Int) (v : Int) (s : Int)) (((rev s v : Nat) : Int), (s : Int), 0)
  | 0, i, hn, hi => by
    have : i = s := by omega
    subst this
    refine Evy.step (G := fun _ => _) (fun k => by rw [wayfarerref03_Reverse.l0, if_neg (by omega)]) (Evy.const fun _ => rfl)
  | n + 1, i, hn, hi => by
    refine Evy.step (G := fun k => wayfarerref03_Reverse.l0 k ((rev (i + 1) v : Nat) : Int) ((i + 1 : Nat) : Int) (v : Int) (s : Int)) (fun k => ?_) (refrev_l0 v s hv h64 n (i + 1) (by omega) (by omega))
    rw [wayfarerref03_Reverse.l0, if_pos (by omega), wsucc i (by omega), u64n i (by omega), if_pos (by omega), shr_u64 v i (by omega), u64_join _ _ (rev63 i v (by omega)) (div_lt v i hv)]
    rfl
theorem refrev_ev (a b : Int) (h : wfS ⟨a, b⟩) : Evy (fun k => wayfarerref03_Reverse.f k a b) (revS ⟨a, b⟩) := by
  unfold wayfarerref03_Reverse.f revS
  have hmay : wayfarerref03_May.f a b = some (mayB ⟨a, b⟩) := may_eq a b h
  by_cases c : mayB ⟨a, b⟩ = true
  · obtain ⟨m0, m1, m2⟩ := mayB_iff.1 c
    obtain ⟨h0, h1, h2, h3⟩ := h
    simp only at m0 m1 m2 h0 h1
    refine Evy.of_eq (fun k => by rw [hmay, Option.bind_some, if_pos c]) ?_
    rw [if_pos c]
    obtain ⟨v, rfl⟩ := Int.eq_ofNat_of_zero_le h0
    obtain ⟨s, rfl⟩ := Int.eq_ofNat_of_zero_le m0
    have := refrev_l0 v s (by omega) (by omega) s 0 (by omega) (by omega)
    simpa [rev] using this
  · exact Evy.const fun k => by rw [hmay, Option.bind_some, if_neg c, if_neg c]

/-- enough fuel for all at once -/
theorem all_ev (b : List Int) (p q : Int) (x : S39) (hu : u8s b) (hl : b.length ≤ 281474976710656) (hp : -9223372036854775808 ≤ p ∧ p ≤ 9223372036854775807) (hq : -9223372036854775808 ≤ q ∧ q ≤ 9223372036854775807) (hx : wfS x) :
    ∃ k, bits_Read.f k b p q = some (rdS b p q) ∧ wayfarerref03_Read.f k b p q = some (rdS b p q) ∧ bits_Reverse.f k x.f0 x.f1 = some (revS x) ∧ wayfarerref03_Reverse.f k x.f0 x.f1 = some (revS x) ∧ wayfarerlaw03_anchored.f k = some true := by
  obtain ⟨k1, h1⟩ := read_ev b p q hu hl hp hq
  obtain ⟨k2, h2⟩ := refread_ev b p q hu hl hp hq
  obtain ⟨k3, h3⟩ := rev_ev x.f0 x.f1 hx
  obtain ⟨k4, h4⟩ := refrev_ev x.f0 x.f1 hx
  obtain ⟨k5, h5⟩ := anch_ev
  exact ⟨k1 + k2 + k3 + k4 + k5, h1 _ (by omega), h2 _ (by omega), h3 _ (by omega), h4 _ (by omega), h5 _ (by omega)⟩

theorem open39 {H : Type} {enc : TypeId × Value → H} {W : World} {A : Option Addr} {len cap : Nat} {d : DataW H} {ps : List MemPlace} {ts : List TypeId} {ds : List (DataW H)} {j : Nat}
    (hsz : (DataW.weightsEach Try.prog ts ds).all (· ≤ reachBytes) = true) (ht : ts[j]? = some 22) (hd : ds[j]? = some d)
    (h : DataW.Trod enc Try.prog W 0 (fun _ => true) true 22 (.slice A len cap) d ps) :
    ∃ xs : List S39, xs.length = len ∧ Kd.C k39 W A xs.length xs ∧ (∀ x ∈ xs, wfS x) ∧ len ≤ cap ∧ len ≤ 140737488355328 := by
  obtain ⟨fuel, hf⟩ := h
  rcases open_slice_fields Try.underlying22 Try.underlying39 (by kernel_rfl) (by kernel_rfl) hf with ⟨hcs, _⟩ | ⟨a, l, c, m, D, Pl, hcs, _, hl, hm, hmm, hx, hi⟩
  · simp [Value.cells] at hcs
    obtain ⟨rfl, rfl, rfl⟩ := hcs
    exact ⟨[], rfl, ⟨rfl, by simp, fun h => absurd h (by simp)⟩, by simp, by omega, by omega⟩
  · simp [Value.cells] at hcs
    obtain ⟨rfl, rfl, rfl⟩ := hcs
    have hmc : m = cap := by simpa using hmm
    subst hmc
    have hel : ∀ i, i < len → ∃ x : S39, W.cell? (a.add (i * 2 + 0)) = some (.int .u64 x.f0) ∧ W.cell? (a.add (i * 2 + 1)) = some (.int .i64 x.f1) ∧ wfS x := by
      intro i hil
      obtain ⟨ys, n, _, _, _, hfield⟩ := hi i (by omega)
      obtain ⟨v0, y0, hc0, _, ht0⟩ := hfield 0 _ rfl
      obtain ⟨v1, y1, hc1, _, ht1⟩ := hfield 1 _ rfl
      obtain ⟨n0, e0, _, w0⟩ := DataW.trod_int Try.underlying37 ht0
      obtain ⟨n1, e1, _, w1⟩ := DataW.trod_int Try.underlying3 ht1
      simp only [List.cons.injEq, and_true] at e0 e1
      subst e0; subst e1
      have r0 : 0 ≤ n0 ∧ n0 ≤ 18446744073709551615 := by simpa [Lit.wf, IntKind.min, IntKind.max, IntKind.bits, IntKind.signed] using w0
      have r1 : -9223372036854775808 ≤ n1 ∧ n1 ≤ 9223372036854775807 := by simpa [Lit.wf, IntKind.min, IntKind.max, IntKind.bits, IntKind.signed] using w1
      exact ⟨⟨n0, n1⟩, hc0, hc1, r0.1, by have := r0.2; show n0 < 18446744073709551616; omega, r1.1, r1.2⟩
    have hsize : len * 16 ≤ reachBytes := by
      have h2 := sized_slice hsz ht (by rw [hd, (Prod.mk.inj hx).1]) Try.underlying22
      rw [show Try.prog.bytesOf 39 = 16 from by kernel_rfl] at h2
      simp only [List.length_map, List.length_range] at h2
      have : (len + (m - len)) * 16 ≤ reachBytes := h2
      omega
    have hreach := reachBytes_lt
    refine ⟨(List.range len).map fun i => if h : i < len then (hel i h).choose else z39, by simp, ⟨rfl, by simp only [List.length_map, List.length_range]; omega, fun h0 => ⟨a, rfl, ?_⟩⟩, ?_, hl, by omega⟩
    · intro i p hp
      have hil : i < len := by
        have := (List.getElem?_eq_some_iff.1 hp).1
        simpa using this
      have hp' : p = (hel i hil).choose := by
        rw [List.getElem?_map, List.getElem?_range hil] at hp
        simp only [Option.map_some, Option.some.injEq, dif_pos hil] at hp
        exact hp.symm
      subst hp'
      refine ⟨[.int .u64 _, .int .i64 _], rfl, k39_mk W _, ?_⟩
      have hs := (hel i hil).choose_spec
      intro k u hu
      match k, hu with
      | 0, hu => simp only [List.getElem?_cons_zero, Option.some.injEq] at hu; subst hu; exact hs.1
      | 1, hu => simp only [List.getElem?_cons_succ, List.getElem?_cons_zero, Option.some.injEq] at hu; subst hu; exact hs.2.1
      | k + 2, hu => simp at hu
    · intro x hx'
      obtain ⟨i, hi', rfl⟩ := List.mem_map.1 hx'
      have hil : i < len := List.mem_range.1 hi'
      rw [dif_pos hil]
      exact (hel i hil).choose_spec.2.2
end Go.Proofs.Ytpnejbdfkncjlaa.PBitsReads
