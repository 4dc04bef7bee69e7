/- What is proved: what the printed texts of the law BitsWrites compute, with fuel enough; plain Lean, no program. Condition: the lists are of a length that memory holds. -/
import Derived.Test.YtpnejbdfkncjlaaPBitsWritesx
import Derived.Test.YtpnejbdfkncjlaaBitsNum
import Derived.Test.YtpnejbdfkncjlaaOpenFields
import Derived.SizedLaws
set_option linter.unusedVariables false
set_option linter.unusedSimpArgs false
namespace Go.Proofs.Ytpnejbdfkncjlaa.PBitsWrites
open Go Go.RowKit Go.ChangeShapes Go.WideShapes Go.Deep Go.Proofs.YtpnejbdfkncjlaaW.PrintWords Go.Proofs.YtpnejbdfkncjlaaW.PrintMore Go.Proofs.Ytpnejbdfkncjlaa.BitsNum
theorem pow_mono64 (i : Nat) (h : i ≤ 64) : 2 ^ i ≤ 2 ^ 64 := Nat.pow_le_pow_right (by decide) h
theorem div_lt (v i : Nat) (h : v < 2 ^ 64) : v / 2 ^ i < 2 ^ 64 := Nat.lt_of_le_of_lt (Nat.div_le_self _ _) h
theorem w64 (n : Int) (h0 : -9223372036854775808 ≤ n) (h1 : n ≤ 9223372036854775807) : wrap64 n = n := by unfold wrap64; omega
theorem u64w (n : Int) (h0 : 0 ≤ n) (h1 : n < 18446744073709551616) : IntKind.u64.wrap n = n := by
  simp [IntKind.wrap, IntKind.bits, IntKind.signed]; omega
theorem u64_or (a b : Nat) (ha : a < 2 ^ 64) (hb : b < 2 ^ 64) : Go.bits .or .u64 (a : Int) b = ((a ||| b : Nat) : Int) :=
  (bits_nat .u64 64 (by decide) (fun n h0 h1 => u64w n h0 (by simpa using h1)) a b ha hb).2
theorem u64_and1 (a : Nat) (ha : a < 2 ^ 64) : Go.bits .and .u64 (a : Int) 1 = ((a % 2 : Nat) : Int) := by
  have := (bits_nat .u64 64 (by decide) (fun n h0 h1 => u64w n h0 (by simpa using h1)) a 1 ha (by decide)).1
  rw [show ((1 : Nat) : Int) = 1 from rfl] at this
  rw [this, Nat.and_one_is_mod]
theorem u8_and1 (a : Nat) (ha : a < 2 ^ 8) : Go.bits .and .u8 (a : Int) 1 = ((a % 2 : Nat) : Int) := by
  have := (bits_nat .u8 8 (by decide) wraps_u8 a 1 ha (by decide)).1
  rw [show ((1 : Nat) : Int) = 1 from rfl] at this
  rw [this, Nat.and_one_is_mod]
theorem tdiv8 (a : Nat) : Int.tdiv (a : Int) 8 = ((a / 8 : Nat) : Int) := by rw [show (8 : Int) = ((8 : Nat) : Int) from rfl, ← Int.ofNat_tdiv]
theorem tmod8 (a : Nat) : Int.tmod (a : Int) 8 = ((a % 8 : Nat) : Int) := by rw [show (8 : Int) = ((8 : Nat) : Int) from rfl, ← Int.ofNat_tmod]
theorem shr_u64 (a k : Nat) (hk : k ≤ 64) : shr .u64 (a : Int) (k : Int) = ((a / 2 ^ k : Nat) : Int) := by
  unfold shr
  rw [Int.toNat_natCast, Nat.min_eq_left (by simpa [IntKind.bits] using hk), Int.natCast_ediv, Int.natCast_pow]; rfl
theorem shr_u8 (a k : Nat) (hk : k ≤ 8) : shr .u8 (a : Int) (k : Int) = ((a / 2 ^ k : Nat) : Int) := by
  unfold shr
  rw [Int.toNat_natCast, Nat.min_eq_left (by simpa [IntKind.bits] using hk), Int.natCast_ediv, Int.natCast_pow]; rfl

theorem at8 (a : Nat) (h : a ≤ 4611686018427387904) : wrap64 (Int.tdiv (a : Int) 8) = ((a / 8 : Nat) : Int) := by rw [tdiv8, w64 _ (by omega) (by omega)]
theorem in8 (a : Nat) : IntKind.u64.wrap (Int.tmod (a : Int) 8) = ((a % 8 : Nat) : Int) := by rw [tmod8, u64w _ (by omega) (by omega)]
theorem room8 (a l : Nat) : mn (wrap64 (8 - Int.tmod (a : Int) 8)) (l : Int) = ((min (8 - a % 8) l : Nat) : Int) := by
  rw [tmod8, w64 _ (by omega) (by omega)]
  unfold mn
  split <;> omega
theorem u64n (a : Nat) (h : a ≤ 4611686018427387904) : IntKind.u64.wrap (a : Int) = (a : Int) := u64w _ (by omega) (by omega)
theorem wadd (a b : Nat) (h : a + b ≤ 4611686018427387904) : wrap64 ((a : Int) + (b : Nat)) = ((a + b : Nat) : Int) := by rw [w64 _ (by omega) (by omega)]; omega
theorem wsub (a b : Nat) (h : b ≤ a) (ha : a ≤ 4611686018427387904) : wrap64 ((a : Int) - (b : Nat)) = ((a - b : Nat) : Int) := by rw [w64 _ (by omega) (by omega)]; omega
theorem wsucc (a : Nat) (h : a < 4611686018427387904) : wrap64 ((a : Int) + 1) = ((a + 1 : Nat) : Int) := by rw [w64 _ (by omega) (by omega)]; omega

def nat (x : S39) : Nat × Nat := (x.f0.toNat, x.f1.toNat)
def wfS (x : S39) : Prop := 0 ≤ x.f0 ∧ x.f0 < 18446744073709551616 ∧ -9223372036854775808 ≤ x.f1 ∧ x.f1 ≤ 9223372036854775807
def mayB (x : S39) : Bool := decide (0 ≤ x.f1) && decide (x.f1 ≤ 64) && decide (x.f0.toNat < 2 ^ x.f1.toNat)
theorem mayB_iff {x : S39} : mayB x = true ↔ 0 ≤ x.f1 ∧ x.f1 ≤ 64 ∧ x.f0.toNat < 2 ^ x.f1.toNat := by
  simp [mayB, and_assoc]
theorem rd_mid (p : List S39) (x : S39) (q : List S39) (i : Int) (hi : i = p.length) : rd_T39 (p ++ x :: q) i = x := by
  subst hi
  simp [rd_T39, List.getD_eq_getElem?_getD]

theorem may_eq (a b : Int) (h : wfS ⟨a, b⟩) : bits_may.f a b = some (mayB ⟨a, b⟩) := by
  obtain ⟨h0, h1, h2, h3⟩ := h
  simp only at h0 h1 h2 h3
  unfold bits_may.f mayB
  by_cases c1 : b ≥ 0
  · by_cases c2 : b ≤ 64
    · obtain ⟨m, rfl⟩ := Int.eq_ofNat_of_zero_le c1
      obtain ⟨v, rfl⟩ := Int.eq_ofNat_of_zero_le h0
      by_cases c3 : (m : Int) = 64
      · have : m = 64 := by omega
        subst this
        have : v < 2 ^ 64 := by omega
        simp [this]
      · rw [if_pos c1, if_pos c2, if_neg c3, u64w _ (by omega) (by omega), if_pos c1, shr_u64 v m (by omega)]
        simp only [Int.toNat_natCast, c1, c2, decide_true, Bool.true_and, Option.some.injEq]
        have hp := Nat.two_pow_pos m
        by_cases c4 : v < 2 ^ m
        · rw [Nat.div_eq_of_lt c4]; simp [c4]
        · have : v / 2 ^ m ≠ 0 := by
            intro h
            rcases (Nat.div_eq_zero_iff).1 h with h | h <;> omega
          simp only [c4, decide_false]
          exact beq_false_of_ne (by omega)
    · rw [if_pos c1, if_neg c2]; simp [c2]
  · rw [if_neg c1]; simp [c1]

def cnt (l : List S39) : Int × Int := if l.all mayB then (if sumS (l.map nat) > 524288 then (0, 4) else ((sumS (l.map nat) : Int), 0)) else (0, 2)
theorem sum_le : ∀ (l : List S39), l.all mayB = true → sumS (l.map nat) ≤ 64 * l.length
  | [], _ => by simp [sumS]
  | x :: r, h => by
    simp only [List.all_cons, Bool.and_eq_true] at h
    have h1 := sum_le r h.2
    have h2 := mayB_iff.1 h.1
    simp only [List.map_cons, sumS, List.length_cons, nat]
    omega

theorem count_l1 (q : List S39) : ∀ (p : List S39) (xs : List S39), xs = p ++ q → xs.length ≤ 140737488355328 → (∀ x ∈ xs, mayB x = true) → sumS (p.map nat) ≤ 524288 →
    Evy (fun k => bits_Count.l1 k (sumS (p.map nat)) xs (xs.length : Int) (p.length : Int)) (if sumS (xs.map nat) > 524288 then (0, 4) else ((sumS (xs.map nat) : Int), 0)) := by
  induction q with
  | nil =>
    intro p xs hx hl hm hs
    have : p = xs := by rw [hx, List.append_nil]
    subst this
    refine Evy.step (G := fun _ => _) (fun k => by rw [bits_Count.l1, if_neg (by omega)]) ?_
    exact Evy.const fun _ => by rw [if_neg (by omega)]
  | cons x q ih =>
    intro p xs hx hl hm hs
    have hlen : xs.length = p.length + q.length + 1 := by rw [hx, List.length_append, List.length_cons]; omega
    have hr : rd_T39 xs (p.length : Int) = x := by rw [hx]; exact rd_mid p x q _ rfl
    obtain ⟨m0, m1, m2⟩ := mayB_iff.1 (hm x (by rw [hx]; simp))
    have hsum : sumS ((p ++ [x]).map nat) = sumS (p.map nat) + x.f1.toNat := by
      rw [List.map_append, sumS_append]; simp [sumS, nat]
    have hall : sumS (xs.map nat) = sumS (p.map nat) + x.f1.toNat + sumS (q.map nat) := by
      rw [hx, List.map_append, sumS_append]; simp [sumS, nat]; omega
    have hw : wrap64 ((sumS (p.map nat) : Int) + (rd_T39 xs (p.length : Int)).f1) = ((sumS ((p ++ [x]).map nat) : Nat) : Int) := by
      rw [hr, w64 _ (by omega) (by omega), hsum]; omega
    have hw2 : wrap64 ((p.length : Int) + 1) = (((p ++ [x]).length : Nat) : Int) := by
      rw [w64 _ (by omega) (by omega), List.length_append]; rfl
    by_cases c : sumS ((p ++ [x]).map nat) > 524288
    · refine Evy.step (G := fun _ => some (0, 4)) (fun k => by rw [bits_Count.l1, if_pos (by omega), if_pos (by omega), if_pos (by omega), hw, if_pos (by omega)]) (Evy.const fun _ => ?_)
      rw [if_pos (by omega)]
    · refine Evy.step (fun k => by rw [bits_Count.l1, if_pos (by omega), if_pos (by omega), if_pos (by omega), hw, if_neg (by omega), hw2]) ?_
      exact ih (p ++ [x]) xs (by rw [hx, List.append_assoc]; rfl) hl hm (by omega)

theorem count_l0 (q : List S39) : ∀ (p : List S39) (xs : List S39), xs = p ++ q → xs.length ≤ 140737488355328 → (∀ x ∈ xs, wfS x) → (∀ x ∈ p, mayB x = true) →
    Evy (fun k => bits_Count.l0 k xs xs (xs.length : Int) (p.length : Int)) (cnt xs) := by
  induction q with
  | nil =>
    intro p xs hx hl hm hs
    have : p = xs := by rw [hx, List.append_nil]
    subst this
    refine Evy.step (fun k => by rw [bits_Count.l0, if_neg (by omega)]) ?_
    have h := count_l1 p [] p (by simp) hl hs (by simp [sumS])
    unfold cnt
    rw [if_pos (List.all_eq_true.2 hs)]
    simpa [sumS] using h
  | cons x q ih =>
    intro p xs hx hl hm hs
    have hlen : xs.length = p.length + q.length + 1 := by rw [hx, List.length_append, List.length_cons]; omega
    have hr : rd_T39 xs (p.length : Int) = x := by rw [hx]; exact rd_mid p x q _ rfl
    have hmay : bits_may.f (rd_T39 xs (p.length : Int)).f0 (rd_T39 xs (p.length : Int)).f1 = some (mayB x) := by
      rw [hr]; exact may_eq _ _ (hm x (by rw [hx]; simp))
    have hw2 : wrap64 ((p.length : Int) + 1) = (((p ++ [x]).length : Nat) : Int) := by
      rw [w64 _ (by omega) (by omega), List.length_append]; rfl
    by_cases c : mayB x = true
    · refine Evy.step (fun k => by rw [bits_Count.l0, if_pos (by omega), if_pos (by omega), if_pos (by omega), hmay, Option.bind_some, if_pos c, hw2]) ?_
      refine ih (p ++ [x]) xs (by rw [hx, List.append_assoc]; rfl) hl hm (fun y hy => ?_)
      rcases List.mem_append.1 hy with h | h
      · exact hs y h
      · rw [List.mem_singleton.1 h]; exact c
    · refine Evy.step (G := fun _ => some (0, 2)) (fun k => by rw [bits_Count.l0, if_pos (by omega), if_pos (by omega), if_pos (by omega), hmay, Option.bind_some, if_neg c]) (Evy.const fun _ => ?_)
      unfold cnt
      rw [if_neg (by rw [hx]; simp [c])]
theorem count_ev (xs : List S39) (hl : xs.length ≤ 140737488355328) (hm : ∀ x ∈ xs, wfS x) : Evy (fun k => bits_Count.f k xs) (cnt xs) :=
  count_l0 xs [] xs rfl hl hm (by simp)

def bytesN : Nat → Nat → List Int
  | 0, _ => []
  | L + 1, n => ((n % 256 : Nat) : Int) :: bytesN L (n / 256)
theorem bytesN_len : ∀ L n, (bytesN L n).length = L
  | 0, _ => rfl
  | L + 1, n => by simp [bytesN, bytesN_len L]
theorem bytesN_u8 : ∀ L n, u8s (bytesN L n)
  | 0, _ => by simp [bytesN, u8s]
  | L + 1, n => by
    intro x hx
    simp only [bytesN, List.mem_cons] at hx
    rcases hx with rfl | hx
    · omega
    · exact bytesN_u8 L _ x hx
theorem bytesN_num : ∀ L n, n < 256 ^ L → num (bytesN L n) = n
  | 0, n, h => by simp at h; subst h; rfl
  | L + 1, n, h => by
    simp only [bytesN, num]
    rw [bytesN_num L (n / 256) (by rw [Nat.pow_succ] at h; exact Nat.div_lt_of_lt_mul (by rw [Nat.mul_comm]; exact h))]
    omega
theorem bytesN_eq (b : List Int) (h : u8s b) : b = bytesN b.length (num b) :=
  num_inj _ _ h (bytesN_u8 _ _) (bytesN_len _ _).symm (bytesN_num _ _ (num_lt b h)).symm

theorem write_step (k : Nat) (b : List Int) (at_ left : Nat) (xs : List S39) (n i s : Int) (v r : Nat) (z : Int) (hat : at_ ≤ 2000000000000000) (hlt : at_ / 8 < b.length) (h0 : 0 < left) (h64 : left ≤ 64)
    (hr : min (8 - at_ % 8) left = r) (hz : Go.bits .or .u8 (rd b ((at_ / 8 : Nat) : Int)) (shl .u8 ((v : Int) % 256) ((at_ % 8 : Nat) : Int)) = z) :
    bits_Write.l1 (k + 1) b (at_ : Int) (left : Int) xs n i (v : Int) s = bits_Write.l1 k (b.set (at_ / 8) z) ((at_ + r : Nat) : Int) ((left - r : Nat) : Int) xs n i ((v / 2 ^ r : Nat) : Int) s := by
  have hr1 : r ≤ left := by omega
  have e3 := room8 at_ left
  rw [hr] at e3
  rw [bits_Write.l1, if_pos (by omega)]
  simp only [at8 at_ (by omega), in8, e3, u64n r (by omega), wadd at_ r (by omega), wsub left r hr1 (by omega)]
  rw [if_pos (by omega), if_pos (by omega), if_pos (by omega), if_pos (by omega), shr_u64 v r (by omega), hz, Int.toNat_natCast]

theorem write_l1 (xs : List S39) (i s : Int) (L : Nat) (R : List Int × Int) (hL : L ≤ 140737488355328) : ∀ (left : Nat) (b : List Int) (at_ v : Nat), u8s b → b.length = L → num b < 2 ^ at_ → v < 2 ^ left → at_ + left ≤ 8 * L → left ≤ 64 →
    (∀ b' : List Int, u8s b' → b'.length = L → num b' = num b + v * 2 ^ at_ → Evy (fun k => bits_Write.l0 k b' ((at_ + left : Nat) : Int) xs (xs.length : Int) (wrap64 (i + 1))) R) →
    Evy (fun k => bits_Write.l1 k b (at_ : Int) (left : Int) xs (xs.length : Int) i (v : Int) s) R := by
  intro left
  induction left using Nat.strongRecOn with
  | ind left ih =>
  intro b at_ v hu hl hn hv hle h64 hk
  by_cases c : left = 0
  · subst c
    refine Evy.step (fun k => by rw [bits_Write.l1, if_neg (by omega)]) ?_
    have hv0 : v = 0 := by simpa using hv
    subst hv0
    exact hk b hu hl (by simp)
  · have hmod : at_ % 8 < 8 := Nat.mod_lt _ (by decide)
    obtain ⟨z, hz, z0, z1, hnum⟩ := num_put b at_ v hu (by omega) hn
    have hat : at_ < 2000000000000000 := by clear hn hv hk hz hnum z0 z1 hmod; omega
    have hr1 : min (8 - at_ % 8) left ≤ left := Nat.min_le_right _ _
    have hr2 : 0 < min (8 - at_ % 8) left := by clear hn hv hk hz hnum z0 z1; omega
    have hr3 : v % 2 ^ (8 - at_ % 8) = v % 2 ^ min (8 - at_ % 8) left := by
      by_cases h : 8 - at_ % 8 ≤ left
      · rw [Nat.min_eq_left h]
      · rw [Nat.min_eq_right (by omega), Nat.mod_eq_of_lt hv]
        exact Nat.mod_eq_of_lt (Nat.lt_of_lt_of_le hv (Nat.pow_le_pow_right (by decide) (by omega)))
    rw [hr3] at hnum
    generalize hr : min (8 - at_ % 8) left = r at *
    have hrl : r ≤ 64 := Nat.le_trans hr1 h64
    have hat8 : at_ / 8 < b.length := by clear hn hv hk hz hnum z0 z1; omega
    refine Evy.step (G := fun k => bits_Write.l1 k (b.set (at_ / 8) z) ((at_ + r : Nat) : Int) ((left - r : Nat) : Int) xs (xs.length : Int) i ((v / 2 ^ r : Nat) : Int) s) (fun k => ?_) ?_
    · exact write_step k b at_ left xs _ i s v r z (by clear hn hv hk hz hnum z0 z1; omega) hat8 (by clear hn hv hk hz hnum z0 z1; omega) h64 hr hz
    · have hmulc : ∀ x : Nat, x * 2 ^ r * 2 ^ at_ = x * 2 ^ (at_ + r) := fun x => by rw [Nat.mul_assoc, ← Nat.pow_add, Nat.add_comm r]
      have hlt : num (b.set (at_ / 8) z) < 2 ^ (at_ + r) := by
        rw [hnum, Nat.pow_add, Nat.mul_comm (2 ^ at_)]
        have h1 : v % 2 ^ r + 1 ≤ 2 ^ r := Nat.mod_lt _ (Nat.two_pow_pos _)
        have h2 := Nat.mul_le_mul_right (2 ^ at_) h1
        rw [Nat.add_mul] at h2
        omega
      refine ih (left - r) (by omega) _ _ _ (u8s_set _ _ _ hu z0 z1) (by rw [List.length_set]; exact hl) hlt ?_ (by omega) (by omega) ?_
      · rw [Nat.div_lt_iff_lt_mul (Nat.two_pow_pos _), ← Nat.pow_add, show left - r + r = left from by omega]; exact hv
      · intro b' hu' hl' hn'
        have := hk b' hu' hl' (by
          rw [hn', hnum, ← hmulc, Nat.add_assoc, ← Nat.add_mul]
          congr 2
          rw [Nat.mul_comm (v / 2 ^ r)]
          have := Nat.mod_add_div v (2 ^ r)
          omega)
        rw [show at_ + r + (left - r) = at_ + left from by omega]
        exact this

theorem write_l0 (q : List S39) : ∀ (p : List S39) (xs : List S39) (b : List Int) (L : Nat), xs = p ++ q → xs.length ≤ 140737488355328 → (∀ x ∈ xs, wfS x ∧ mayB x = true) → u8s b → b.length = L → num b = val (p.map nat) → sumS (xs.map nat) ≤ 8 * L → L ≤ 140737488355328 →
    Evy (fun k => bits_Write.l0 k b (sumS (p.map nat)) xs (xs.length : Int) (p.length : Int)) (bytesN L (val (xs.map nat)), 0) := by
  induction q with
  | nil =>
    intro p xs b L hx hl hm hu hlen hn hs hL
    have : p = xs := by rw [hx, List.append_nil]
    subst this
    refine Evy.step (G := fun _ => _) (fun k => by rw [bits_Write.l0, if_neg (by omega)]) ?_
    refine Evy.const fun _ => ?_
    rw [← hn, ← hlen, ← bytesN_eq b hu]
  | cons x q ih =>
    intro p xs b L hx hl hm hu hlb hn hs hL
    have hlen : xs.length = p.length + q.length + 1 := by rw [hx, List.length_append, List.length_cons]; omega
    have hr : rd_T39 xs (p.length : Int) = x := by rw [hx]; exact rd_mid p x q _ rfl
    obtain ⟨⟨f0, f1, f2, f3⟩, hmx⟩ := hm x (by rw [hx]; simp)
    obtain ⟨m0, m1, m2⟩ := mayB_iff.1 hmx
    have hsum : sumS ((p ++ [x]).map nat) = sumS (p.map nat) + x.f1.toNat := by
      rw [List.map_append, sumS_append]; simp [sumS, nat]
    have hval : val ((p ++ [x]).map nat) = val (p.map nat) + x.f0.toNat * 2 ^ sumS (p.map nat) := by
      rw [List.map_append, val_append]; simp [val, nat, Nat.mul_comm]
    have hall : sumS (xs.map nat) = sumS (p.map nat) + x.f1.toNat + sumS (q.map nat) := by
      rw [hx, List.map_append, sumS_append]; simp [sumS, nat]; omega
    have hw2 : wrap64 ((p.length : Int) + 1) = (((p ++ [x]).length : Nat) : Int) := by
      rw [w64 _ (by omega) (by omega), List.length_append]; rfl
    have hpv : num b < 2 ^ sumS (p.map nat) := by
      rw [hn]
      refine val_lt _ (fun y hy => ?_)
      obtain ⟨x', hx', rfl⟩ := List.mem_map.1 hy
      exact (mayB_iff.1 (hm x' (by rw [hx]; exact List.mem_append_left _ hx')).2).2.2
    refine Evy.step (fun k => by rw [bits_Write.l0, if_pos (by omega), if_pos (by omega), if_pos (by omega), hr]) ?_
    have e0 : x.f0 = ((x.f0.toNat : Nat) : Int) := by omega
    have e1 : x.f1 = ((x.f1.toNat : Nat) : Int) := by omega
    have key := write_l1 xs (p.length : Int) x.f1 L (bytesN L (val (xs.map nat)), 0) hL x.f1.toNat b (sumS (p.map nat)) x.f0.toNat hu hlb hpv m2 (by omega) (by omega) (fun b' hu' hl' hn' => by
      rw [hw2, ← hsum]
      exact ih (p ++ [x]) xs b' L (by rw [hx, List.append_assoc]; rfl) hl hm hu' hl' (by rw [hn', hn, hval]) hs hL)
    rw [← e0, ← e1] at key
    exact key

def wrt (l : List S39) : List Int × Int := if (cnt l).2 = 0 then (bytesN ((sumS (l.map nat) + 7) / 8) (val (l.map nat)), 0) else ([], (cnt l).2)
theorem cnt_ok {l : List S39} (h : (cnt l).2 = 0) : (∀ x ∈ l, mayB x = true) ∧ sumS (l.map nat) ≤ 524288 ∧ (cnt l).1 = sumS (l.map nat) := by
  unfold cnt at h ⊢
  split at h
  · rename_i ha
    split at h
    · simp at h
    · rename_i hs
      refine ⟨fun x hx => List.all_eq_true.1 ha x hx, by omega, ?_⟩
      rw [if_pos ha, if_neg hs]
  · simp at h
theorem write_ev (xs : List S39) (hl : xs.length ≤ 140737488355328) (hm : ∀ x ∈ xs, wfS x) : Evy (fun k => bits_Write.f k xs) (wrt xs) := by
  unfold bits_Write.f
  refine Evy.bind (count_ev xs hl hm) ?_
  unfold wrt
  by_cases c : (cnt xs).2 = 0
  · obtain ⟨h1, h2, h3⟩ := cnt_ok c
    have e : wrap64 (Int.tdiv (wrap64 ((cnt xs).1 + 7)) 8) = (((sumS (xs.map nat) + 7) / 8 : Nat) : Int) := by
      rw [h3, show wrap64 ((sumS (xs.map nat) : Nat) + 7) = ((sumS (xs.map nat) + 7 : Nat) : Int) from wadd _ 7 (by omega), at8 _ (by omega)]
    rw [if_pos c]
    refine Evy.of_eq (fun k => by rw [if_pos c, e, if_pos (by omega), if_pos (by omega)]) ?_
    rw [Int.toNat_natCast]
    have := write_l0 xs [] xs (List.replicate ((sumS (xs.map nat) + 7) / 8) 0) ((sumS (xs.map nat) + 7) / 8) rfl hl (fun x hx => ⟨hm x hx, h1 x hx⟩) (u8s_replicate _) (by simp) (by rw [num_replicate]; rfl) (by omega) (by omega)
    simpa [sumS] using this
  · rw [if_neg c]
    exact Evy.const fun k => by rw [if_neg c]

theorem wrt_u8 (l : List S39) : u8s (wrt l).1 := by
  unfold wrt
  split
  · exact bytesN_u8 _ _
  · simp [u8s]
theorem anch_ev : Evy (fun k => wayfarerlaw03_anchored.f k) true := by
  have h0 : wayfarerlaw03_anchored.f 30 = some true := by kernel_rfl
  refine ⟨30, fun k hk => ?_⟩
  obtain ⟨j, rfl⟩ : ∃ j, k = 30 + j := ⟨k - 30, by omega⟩
  clear hk
  induction j with
  | zero => exact h0
  | succ j ih => exact wayfarerlaw03_anchored.mono _ _ ih

theorem refmay_eq (a b : Int) (h : wfS ⟨a, b⟩) : wayfarerref03_May.f a b = some (mayB ⟨a, b⟩) := may_eq a b h
theorem refcount_l0 (q : List S39) : ∀ (p : List S39) (xs : List S39), xs = p ++ q → xs.length ≤ 140737488355328 → (∀ x ∈ xs, wfS x) → (∀ x ∈ p, mayB x = true) → sumS (p.map nat) ≤ 64 * p.length →
    Evy (fun k => wayfarerref03_Count.l0 k xs ((sumS (p.map nat) : Nat) : Int) (p.length : Int)) (cnt xs) := by
  induction q with
  | nil =>
    intro p xs hx hl hm hs h64
    have : p = xs := by rw [hx, List.append_nil]
    subst this
    refine Evy.step (G := fun _ => _) (fun k => by rw [wayfarerref03_Count.l0, if_neg (by omega)]) (Evy.const fun _ => ?_)
    unfold cnt
    rw [if_pos (List.all_eq_true.2 hs)]
    by_cases c : sumS (p.map nat) > 524288
    · rw [if_pos (by omega), if_pos c]
    · rw [if_neg (by omega), if_neg c]
  | cons x q ih =>
    intro p xs hx hl hm hs h64
    have hlen : xs.length = p.length + q.length + 1 := by rw [hx, List.length_append, List.length_cons]; omega
    have hr : rd_T39 xs (p.length : Int) = x := by rw [hx]; exact rd_mid p x q _ rfl
    have hmay : wayfarerref03_May.f (rd_T39 xs (p.length : Int)).f0 (rd_T39 xs (p.length : Int)).f1 = some (mayB x) := by
      rw [hr]; exact refmay_eq _ _ (hm x (by rw [hx]; simp))
    have hw2 : wrap64 ((p.length : Int) + 1) = (((p ++ [x]).length : Nat) : Int) := by
      rw [List.length_append]; exact wsucc _ (by omega)
    by_cases c : mayB x = true
    · obtain ⟨m0, m1, m2⟩ := mayB_iff.1 c
      have hsum : sumS ((p ++ [x]).map nat) = sumS (p.map nat) + x.f1.toNat := by
        rw [List.map_append, sumS_append]; simp [sumS, nat]
      have hw : wrap64 (((sumS (p.map nat) : Nat) : Int) + (rd_T39 xs (p.length : Int)).f1) = ((sumS ((p ++ [x]).map nat) : Nat) : Int) := by
        rw [hr, w64 _ (by omega) (by omega), hsum]; omega
      refine Evy.step (fun k => by rw [wayfarerref03_Count.l0, if_pos (by omega), if_pos (by omega), hmay, Option.bind_some, if_pos c, hw2, hw]) ?_
      refine ih (p ++ [x]) xs (by rw [hx, List.append_assoc]; rfl) hl hm (fun y hy => ?_) (by rw [hsum, List.length_append]; simp only [List.length_singleton]; omega)
      rcases List.mem_append.1 hy with h | h
      · exact hs y h
      · rw [List.mem_singleton.1 h]; exact c
    · refine Evy.step (G := fun _ => some (0, 2)) (fun k => by rw [wayfarerref03_Count.l0, if_pos (by omega), if_pos (by omega), hmay, Option.bind_some, if_neg c]) (Evy.const fun _ => ?_)
      unfold cnt
      rw [if_neg (by rw [hx]; simp [c])]
theorem refcount_ev (xs : List S39) (hl : xs.length ≤ 140737488355328) (hm : ∀ x ∈ xs, wfS x) : Evy (fun k => wayfarerref03_Count.f k xs) (cnt xs) :=
  refcount_l0 xs [] xs rfl hl hm (by simp) (by simp [sumS])

theorem refwrite_l1 (xs : List S39) (p : List S39) (x : S39) (q : List S39) (hx : xs = p ++ x :: q) (v s : Nat) (hv : x.f0 = (v : Int)) (hs : x.f1 = (s : Int)) (hv64 : v < 2 ^ 64) (L : Nat) (R : List Int × Int) (hL : L ≤ 140737488355328) (h64 : s ≤ 64) (at0 N0 : Nat) (hN0 : N0 < 2 ^ at0) (hle : at0 + s ≤ 8 * L)
    (hk : ∀ b' : List Int, u8s b' → b'.length = L → num b' = N0 + (v % 2 ^ s) * 2 ^ at0 → Evy (fun k => wayfarerref03_Write.l0 k xs b' ((at0 + s : Nat) : Int) (wrap64 ((p.length : Int) + 1))) R) : ∀ (n j : Nat) (b : List Int), s - j = n → j ≤ s → u8s b → b.length = L → num b = N0 + (v % 2 ^ j) * 2 ^ at0 →
    Evy (fun k => wayfarerref03_Write.l1 k xs b ((at0 + j : Nat) : Int) (p.length : Int) (j : Int)) R
  | 0, j, b, hn, hj, hu, hl, hnum => by
    have : j = s := by omega
    subst this
    have hr : rd_T39 xs (p.length : Int) = x := by rw [hx]; exact rd_mid p x q _ rfl
    have hlen : p.length < xs.length := by rw [hx, List.length_append, List.length_cons]; omega
    refine Evy.step (fun k => by rw [wayfarerref03_Write.l1, if_pos (by clear hnum hk hN0 hv64; omega), if_pos (by clear hnum hk hN0 hv64; omega), hr, hs, if_neg (by clear hnum hk hN0 hv64; omega)]) ?_
    exact hk b hu hl hnum
  | n + 1, j, b, hn, hj, hu, hl, hnum => by
    have hr : rd_T39 xs (p.length : Int) = x := by rw [hx]; exact rd_mid p x q _ rfl
    have hlen : p.length < xs.length := by rw [hx, List.length_append, List.length_cons]; omega
    have hlow : num b < 2 ^ (at0 + j) := by
      rw [hnum, Nat.pow_add, Nat.mul_comm (2 ^ at0)]
      have h1 : v % 2 ^ j + 1 ≤ 2 ^ j := Nat.mod_lt _ (Nat.two_pow_pos _)
      have h2 := Nat.mul_le_mul_right (2 ^ at0) h1
      rw [Nat.add_mul] at h2
      omega
    have hin : at0 + j < 8 * b.length := by clear hnum hk hN0 hv64 hlow; omega
    obtain ⟨z, hz, z0, z1, hnum'⟩ := num_put b (at0 + j) (v / 2 ^ j % 2) hu hin hlow
    have hm1 : (v / 2 ^ j % 2) % 2 ^ (8 - (at0 + j) % 8) = v / 2 ^ j % 2 := by
      refine Nat.mod_eq_of_lt (Nat.lt_of_lt_of_le (Nat.mod_lt _ (by decide)) ?_)
      have h1 : 1 ≤ 8 - (at0 + j) % 8 := by clear hnum hk hN0 hv64 hlow hnum' hz; omega
      exact Nat.le_trans (show 2 ≤ 2 ^ 1 from Nat.le_refl _) (Nat.pow_le_pow_right (by decide) h1)
    rw [hm1] at hnum'
    have hnext : num (b.set ((at0 + j) / 8) z) = N0 + (v % 2 ^ (j + 1)) * 2 ^ at0 := by
      rw [hnum', hnum, Nat.mod_pow_succ, Nat.add_mul, Nat.pow_add, Nat.add_assoc]
      congr 2
      rw [Nat.mul_comm (2 ^ at0), ← Nat.mul_assoc, Nat.mul_comm (2 ^ j)]
    have hb2 : (at0 + j) / 8 < b.length := by clear hnum hk hN0 hv64 hlow hnum' hz hnext; omega
    have hbig : at0 + j ≤ 2000000000000000 := by clear hnum hk hN0 hv64 hlow hnum' hz hnext; omega
    have hj64 : j < 64 := by clear hnum hk hN0 hv64 hlow hnum' hz hnext; omega
    have hjs : j < s := by clear hnum hk hN0 hv64 hlow hnum' hz hnext; omega
    refine Evy.step (fun k => ?_) (refwrite_l1 xs p x q hx v s hv hs hv64 L R hL h64 at0 N0 hN0 hle hk n (j + 1) (b.set ((at0 + j) / 8) z) (by clear hnum hk hN0 hv64 hlow hnum' hz hnext; omega) (by clear hnum hk hN0 hv64 hlow hnum' hz hnext; omega) (u8s_set _ _ _ hu z0 z1) (by rw [List.length_set]; exact hl) hnext)
    clear hnum hk hN0 hlow hnum' hnext hm1
    have hd := div_lt v j hv64
    have e1 := shr_u64 v j (by omega)
    have e2 := u64_and1 (v / 2 ^ j) hd
    clear hd
    rw [wayfarerref03_Write.l1, if_pos (by clear hv64 hz; omega), if_pos (by clear hv64 hz; omega), hr, hv, hs, if_pos (by clear hv64 hz; omega), at8 _ (by clear hv64 hz; omega), in8, u64n j (by clear hv64 hz; omega), if_pos (by clear hv64 hz; omega), if_pos (by clear hv64 hz; omega), if_pos (by clear hv64 hz; omega), if_pos (by clear hv64 hz; omega),
      e1, e2, wsucc _ (by clear hv64 hz; omega), wsucc _ (by clear hv64 hz; omega)]
    have hz' : Go.bits .or .u8 (rd b (((at0 + j) / 8 : Nat) : Int)) (shl .u8 (((v / 2 ^ j % 2 : Nat) : Int) % 256) (((at0 + j) % 8 : Nat) : Int)) = z := hz
    rw [hz', Int.toNat_natCast]
    rfl

theorem refwrite_l0 (q : List S39) : ∀ (p : List S39) (xs : List S39) (b : List Int) (L : Nat), xs = p ++ q → xs.length ≤ 140737488355328 → (∀ x ∈ xs, wfS x ∧ mayB x = true) → u8s b → b.length = L → num b = val (p.map nat) → sumS (xs.map nat) ≤ 8 * L → L ≤ 140737488355328 →
    Evy (fun k => wayfarerref03_Write.l0 k xs b ((sumS (p.map nat) : Nat) : Int) (p.length : Int)) (bytesN L (val (xs.map nat)), 0) := by
  induction q with
  | nil =>
    intro p xs b L hx hl hm hu hlen hn hs hL
    have : p = xs := by rw [hx, List.append_nil]
    subst this
    refine Evy.step (G := fun _ => _) (fun k => by rw [wayfarerref03_Write.l0, if_neg (by omega)]) ?_
    refine Evy.const fun _ => ?_
    rw [← hn, ← hlen, ← bytesN_eq b hu]
  | cons x q ih =>
    intro p xs b L hx hl hm hu hlb hn hs hL
    have hlen : xs.length = p.length + q.length + 1 := by rw [hx, List.length_append, List.length_cons]; omega
    obtain ⟨⟨f0, f1, f2, f3⟩, hmx⟩ := hm x (by rw [hx]; simp)
    obtain ⟨m0, m1, m2⟩ := mayB_iff.1 hmx
    have hsum : sumS ((p ++ [x]).map nat) = sumS (p.map nat) + x.f1.toNat := by
      rw [List.map_append, sumS_append]; simp [sumS, nat]
    have hval : val ((p ++ [x]).map nat) = val (p.map nat) + x.f0.toNat * 2 ^ sumS (p.map nat) := by
      rw [List.map_append, val_append]; simp [val, nat, Nat.mul_comm]
    have hall : sumS (xs.map nat) = sumS (p.map nat) + x.f1.toNat + sumS (q.map nat) := by
      rw [hx, List.map_append, sumS_append]; simp [sumS, nat]; omega
    have hw2 : wrap64 ((p.length : Int) + 1) = (((p ++ [x]).length : Nat) : Int) := by
      rw [List.length_append]; exact wsucc _ (by omega)
    have hpv : num b < 2 ^ sumS (p.map nat) := by
      rw [hn]
      refine val_lt _ (fun y hy => ?_)
      obtain ⟨x', hx', rfl⟩ := List.mem_map.1 hy
      exact (mayB_iff.1 (hm x' (by rw [hx]; exact List.mem_append_left _ hx')).2).2.2
    have h64 : x.f0.toNat < 2 ^ 64 := by omega
    have key := refwrite_l1 xs p x q hx x.f0.toNat x.f1.toNat (by omega) (by omega) h64 L (bytesN L (val (xs.map nat)), 0) hL (by omega) (sumS (p.map nat)) (num b) hpv (by omega) (fun b' hu' hl' hn' => by
      rw [hw2, ← hsum]
      exact ih (p ++ [x]) xs b' L (by rw [hx, List.append_assoc]; rfl) hl hm hu' hl' (by rw [hn', Nat.mod_eq_of_lt m2, hn, hval]) hs hL) x.f1.toNat 0 b (by omega) (by omega) hu hlb (by simp [Nat.mod_one])
    exact Evy.step (fun k => by rw [wayfarerref03_Write.l0, if_pos (by omega)]; rfl) key

theorem refwrite_ev (xs : List S39) (hl : xs.length ≤ 140737488355328) (hm : ∀ x ∈ xs, wfS x) : Evy (fun k => wayfarerref03_Write.f k xs) (wrt xs) := by
  unfold wayfarerref03_Write.f
  refine Evy.bind (refcount_ev xs hl hm) ?_
  unfold wrt
  by_cases c : (cnt xs).2 = 0
  · obtain ⟨h1, h2, h3⟩ := cnt_ok c
    have e : wrap64 (Int.tdiv (wrap64 ((cnt xs).1 + 7)) 8) = (((sumS (xs.map nat) + 7) / 8 : Nat) : Int) := by
      rw [h3, show wrap64 ((sumS (xs.map nat) : Nat) + 7) = ((sumS (xs.map nat) + 7 : Nat) : Int) from wadd _ 7 (by omega), at8 _ (by omega)]
    rw [if_pos c]
    refine Evy.of_eq (fun k => by rw [if_pos c, e, if_pos (by omega), if_pos (by omega)]) ?_
    rw [Int.toNat_natCast]
    have := refwrite_l0 xs [] xs (List.replicate ((sumS (xs.map nat) + 7) / 8) 0) ((sumS (xs.map nat) + 7) / 8) rfl hl (fun x hx => ⟨hm x hx, h1 x hx⟩) (u8s_replicate _) (by simp) (by rw [num_replicate]; rfl) (by omega) (by omega)
    simpa [sumS] using this
  · rw [if_neg c]
    exact Evy.const fun k => by rw [if_neg c]

theorem writes_law (xs : List S39) (hl : xs.length ≤ 140737488355328) (hm : ∀ x ∈ xs, wfS x) : ∃ k, wayfarerlaw03_BitsWrites.f k xs = some true := by
  have main : Evy (fun k => wayfarerlaw03_BitsWrites.f k xs) true := by
    unfold wayfarerlaw03_BitsWrites.f
    refine Evy.bind (write_ev xs hl hm) ?_
    refine Evy.bind (refwrite_ev xs hl hm) ?_
    refine Evy.bind (count_ev xs hl hm) ?_
    refine Evy.bind (refcount_ev xs hl hm) ?_
    refine Evy.of_eq (fun k => by rw [show wayfarerref02_Same.f (wrt xs).1 (wrt xs).1 = some true from by unfold wayfarerref02_Same.f; rw [beq_self_eq_true], Option.bind_some, if_pos rfl, if_pos rfl, if_pos rfl, if_pos rfl]) ?_
    exact Evy.bind anch_ev (Evy.const fun k => rfl)
  obtain ⟨k, h⟩ := main
  exact ⟨k, h k (Nat.le_refl _)⟩

theorem open39 {H : Type} {enc : TypeId × Value → H} {W : World} {A : Option Addr} {len cap : Nat} {d : DataW H} {ps : List MemPlace} {ts : List TypeId} {ds : List (DataW H)} {j : Nat}
    (hsz : (DataW.weightsEach Try.prog ts ds).all (· ≤ reachBytes) = true) (ht : ts[j]? = some 22) (hd : ds[j]? = some d)
    (h : DataW.Trod enc Try.prog W 0 (fun _ => true) true 22 (.slice A len cap) d ps) :
    ∃ xs : List S39, xs.length = len ∧ Kd.C k39 W A xs.length xs ∧ (∀ x ∈ xs, wfS x) ∧ len ≤ cap ∧ len ≤ 140737488355328 := by
  obtain ⟨fuel, hf⟩ := h
  rcases open_slice_fields Try.underlying22 Try.underlying39 (by kernel_rfl) (by kernel_rfl) hf with ⟨hcs, _⟩ | ⟨a, l, c, m, D, Pl, hcs, _, hl, hm, hmm, hx, hi⟩
  · simp [Value.cells] at hcs
    obtain ⟨rfl, rfl, rfl⟩ := hcs
    exact ⟨[], rfl, ⟨rfl, by simp, fun h => absurd h (by simp)⟩, by simp, by omega, by omega⟩
  · simp [Value.cells] at hcs
    obtain ⟨rfl, rfl, rfl⟩ := hcs
    have hmc : m = cap := by simpa using hmm
    subst hmc
    have hel : ∀ i, i < len → ∃ x : S39, W.cell? (a.add (i * 2 + 0)) = some (.int .u64 x.f0) ∧ W.cell? (a.add (i * 2 + 1)) = some (.int .i64 x.f1) ∧ wfS x := by
      intro i hil
      obtain ⟨ys, n, _, _, _, hfield⟩ := hi i (by omega)
      obtain ⟨v0, y0, hc0, _, ht0⟩ := hfield 0 _ rfl
      obtain ⟨v1, y1, hc1, _, ht1⟩ := hfield 1 _ rfl
      obtain ⟨n0, e0, _, w0⟩ := DataW.trod_int Try.underlying37 ht0
      obtain ⟨n1, e1, _, w1⟩ := DataW.trod_int Try.underlying3 ht1
      simp only [List.cons.injEq, and_true] at e0 e1
      subst e0; subst e1
      have r0 : 0 ≤ n0 ∧ n0 ≤ 18446744073709551615 := by simpa [Lit.wf, IntKind.min, IntKind.max, IntKind.bits, IntKind.signed] using w0
      have r1 : -9223372036854775808 ≤ n1 ∧ n1 ≤ 9223372036854775807 := by simpa [Lit.wf, IntKind.min, IntKind.max, IntKind.bits, IntKind.signed] using w1
      exact ⟨⟨n0, n1⟩, hc0, hc1, r0.1, by have := r0.2; show n0 < 18446744073709551616; omega, r1.1, r1.2⟩
    have hsize : len * 16 ≤ reachBytes := by
      have h2 := sized_slice hsz ht (by rw [hd, (Prod.mk.inj hx).1]) Try.underlying22
      rw [show Try.prog.bytesOf 39 = 16 from by kernel_rfl] at h2
      simp only [List.length_map, List.length_range] at h2
      have : (len + (m - len)) * 16 ≤ reachBytes := h2
      omega
    have hreach := reachBytes_lt
    refine ⟨(List.range len).map fun i => if h : i < len then (hel i h).choose else z39, by simp, ⟨rfl, by simp only [List.length_map, List.length_range]; omega, fun h0 => ⟨a, rfl, ?_⟩⟩, ?_, hl, by omega⟩
    · intro i p hp
      have hil : i < len := by
        have := (List.getElem?_eq_some_iff.1 hp).1
        simpa using this
      have hp' : p = (hel i hil).choose := by
        rw [List.getElem?_map, List.getElem?_range hil] at hp
        simp only [Option.map_some, Option.some.injEq, dif_pos hil] at hp
        exact hp.symm
      subst hp'
      refine ⟨[.int .u64 _, .int .i64 _], rfl, k39_mk W _, ?_⟩
      have hs := (hel i hil).choose_spec
      intro k u hu
      match k, hu with
      | 0, hu => simp only [List.getElem?_cons_zero, Option.some.injEq] at hu; subst hu; exact hs.1
      | 1, hu => simp only [List.getElem?_cons_succ, List.getElem?_cons_zero, Option.some.injEq] at hu; subst hu; exact hs.2.1
      | k + 2, hu => simp at hu
    · intro x hx'
      obtain ⟨i, hi', rfl⟩ := List.mem_map.1 hx'
      have hil : i < len := List.mem_range.1 hi'
      rw [dif_pos hil]
      exact (hel i hil).choose_spec.2.2

theorem writes_calls (A : Option Addr) (c len : Nat) (xs : List S39) (w : World) (hx : xs.length = len) (hr : Kd.C k39 w A xs.length xs) (hc : len ≤ c) (hl : len ≤ 140737488355328) (hm : ∀ x ∈ xs, wfS x) :
    Calls Try.prog 3 #[.slice A len c] w fun e w' => e = .returned (.bool true) ∧ Below w.heap.size w w' := by
  subst hx
  obtain ⟨k, h⟩ := writes_law xs hl hm
  exact wayfarerlaw03_BitsWrites.calls k A c xs true w hr hc h
end Go.Proofs.Ytpnejbdfkncjlaa.PBitsWrites
