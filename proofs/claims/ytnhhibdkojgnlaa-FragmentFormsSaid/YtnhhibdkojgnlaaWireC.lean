/- What is proved: what the functions on numbers' forms answer when they are called, and their plain laws; conditions: those typed. -/
import Derived.Test.YtnhhibdkojgnlaaClone
import Derived.Test.YtnhhibdkojgnlaaBlk
import Derived.Laws.BitsAllLaws
set_option linter.unusedSimpArgs false
set_option linter.unusedVariables false
namespace Go.Proofs.Ytnhhibdkojgnlaa
open Go.RowKit
set_option maxRecDepth 100000
set_option maxHeartbeats 1000000
/-- A number's form, at most f bytes more than one. -/
def uintF : Nat → Nat → List Int
  | 0, n => [(n : Int)]
  | f + 1, n => if 128 ≤ n then ((n : Int) % 128 + 128) :: uintF f (n / 128) else [(n : Int)]
def uintB (n : Nat) : List Int := uintF 10 n
theorem uintF_small {f n : Nat} (h : ¬ 128 ≤ n) : uintF f n = [(n : Int)] := by
  cases f with
  | zero => rfl
  | succ f => unfold uintF; rw [if_neg h]
theorem uintF_len (f n : Nat) : (uintF f n).length ≤ f + 1 := by
  induction f generalizing n with
  | zero => simp [uintF]
  | succ f ih =>
    unfold uintF
    split
    · have := ih (n / 128)
      simp only [List.length_cons]
      omega
    · simp
theorem uintF_ok : ∀ (f n : Nat), n < 2 * 128 ^ f → okB (uintF f n)
  | 0, n, h => by intro x hx; simp [uintF] at hx; subst hx; omega
  | f + 1, n, h => by
    unfold uintF
    split
    · intro x hx
      rcases List.mem_cons.1 hx with rfl | hx
      · omega
      · exact uintF_ok f (n / 128) (by rw [Nat.pow_succ] at h; omega) x hx
    · intro x hx
      simp at hx
      subst hx
      omega
theorem uintB_ok {n : Nat} (h : n < 18446744073709551616) : okB (uintB n) := uintF_ok 10 n (by omega)
theorem uintB_len (n : Nat) : (uintB n).length ≤ 11 := uintF_len 10 n
theorem or_128 (m : Nat) : bits BinOp.or IntKind.u8 ((m : Int) % 256) 128 = (m : Int) % 128 + 128 := by
  have h : ∀ x : Fin 256, bits BinOp.or IntKind.u8 ((x.val : Nat) : Int) 128 = ((x.val % 128 + 128 : Nat) : Int) := by decide +kernel
  have h1 := h ⟨m % 256, Nat.mod_lt _ (by omega)⟩
  simp only at h1
  rw [show ((m % 256 : Nat) : Int) = (m : Int) % 256 by omega] at h1
  rw [h1]
  omega
theorem BB.lit {w : World} {g : Nat} {t : TypeId} {xs : List Int} (n : Nat) (hn : xs.length = n) (h : w.heap[g]? = some (.cells (xs.map (Value.int .u8)).toArray t (0, 0))) (hx : okB xs) (hl : n ≤ 1000) : BB w (.slice (some ⟨g, 0, none⟩) n n) xs := by
  subst hn
  refine ⟨hx, by omega, some ⟨g, 0, none⟩, xs.length, rfl, ⟨rfl, fun _ => ⟨g, 0, rfl, fun j hj => ?_⟩⟩, by simp, Nat.le_refl _, by unfold maxLen; omega⟩
  rw [Nat.zero_add, cell_of_row w g j _ t (0, 0) h]
  simp [List.getD_eq_getElem?_getD, List.getElem?_eq_getElem hj]
theorem BB.one (w : World) (x : Int) (h : 0 ≤ x ∧ x ≤ 255) : BB (w.alloc (.cells #[.int .u8 x] 5)) (.slice (some ⟨w.heap.size, 0, none⟩) 1 1) [x] :=
  BB.lit (xs := [x]) 1 rfl (heap_alloc_last w _) (by intro y hy; simp at hy; subst hy; exact h) (by omega)
theorem grown_alloc {w w' : World} {row : Option Nat} (h : w.grownBy w' row) (o : Obj) : w.grownBy (w'.alloc o) row :=
  ⟨h.os, h.tape, h.output, by have := h.size; simp; omega, fun k hk hne => by rw [heap_alloc_if, if_neg (by have := h.size; omega)]; exact h.block k hk hne⟩
theorem put_any (v : Value) (xs : List Int) (n : Nat) (base : Nat) (w : World) (h : OwB w base v xs) (hx : okB xs) (hl : xs.length ≤ 140737488355000) (hn : n < 18446744073709551616) (hb : base ≤ w.heap.size) :
    Calls Try.prog 35 #[v, .int .u64 n] w fun e w' => ∃ u, e = .returned u ∧ OwB w' base u (xs ++ uintB n) ∧ w.grownBy w' v.ownBlock ∧ (u.ownBlock = v.ownBlock ∨ ∃ j, u.ownBlock = some j ∧ w.heap.size ≤ j) := by
  have H := Lib.hid h
  clear h
  go_enter Try.func35, Try.ntmps35
  go_wp2_with fail
  go_loopw [0, 1] (fun u i wr => ∃ (f m : Nat) (pre : List Int), i = .int .u64 m ∧ m < 2 * 128 ^ f ∧ Hid (OwB wr base u (xs ++ pre)) ∧ Hid (pre ++ uintF f m = uintB n) ∧ Hid (okB pre) ∧ Hid (w.grownBy wr v.ownBlock) ∧ Hid (u.ownBlock = v.ownBlock ∨ ∃ j, u.ownBlock = some j ∧ w.heap.size ≤ j)) (fun _ i _ => (intOf i).toNat)
  case atStart => exact ⟨10, n, [], rfl, by omega, by rw [List.append_nil]; exact H.out, rfl, okB.nil, ⟨rfl, rfl, rfl, Nat.le_refl _, fun _ _ _ => rfl⟩, .inl rfl⟩
  case round =>
    obtain ⟨f, m, pre, rfl, hm, HO, HP, HK, HG, HR⟩ := hrel
    have hz := HG.out.size
    have hpl : pre.length ≤ 11 := by
      have h1 := congrArg List.length HP.out
      have h2 := uintB_len n
      rw [List.length_append] at h1
      omega
    by_cases hge : 128 ≤ m
    · have hb0 := or_128 m
      obtain ⟨f, rfl⟩ : ∃ f', f = f' + 1 := by
        match f, hm with
        | 0, hm => omega
        | f + 1, _ => exact ⟨f, rfl⟩
      have hP2 : (pre ++ [(m : Int) % 128 + 128]) ++ uintF f (m / 128) = uintB n := by
        have h := HP.out
        unfold uintF at h
        rw [if_pos hge] at h
        rw [List.append_assoc]
        exact h
      have HP2 := Lib.hid hP2
      have hm2 : m / 128 < 2 * 128 ^ f := by rw [Nat.pow_succ] at hm; omega
      have HM2 := Lib.hid hm2
      have hgi : (128 : Int) ≤ (m : Int) := by omega
      clear hP2 hm2 hm
      go_wp2_with (at_builtin; refine wpList_appB (base := base) rfl _ _ rfl u0 (.slice (some ⟨wr.heap.size, 0, none⟩) 1 1) (xs ++ pre) [(m : Int) % 128 + 128] rfl ?_ rfl ?_ ?_ ?_ ?_)
      · exact (HO.out.below (w1 := wr.alloc (.cells #[.int .u8 ((m : Int) % 128 + 128)] 5)) (by (repeat' (first | (with_reducible exact Below.refl _ _) | (with_reducible assumption) | (with_reducible refine Below.alloc ?_ ?_ _) | (with_reducible refine below_setRow ?_ ?_ _) | (with_reducible refine bl_drew ?_) | (with_reducible refine bl_drewN ?_ _) | (with_reducible refine Below.setCell ?_ ?_ _) | (with_reducible refine bl_then ?_ ?_ hb) | (with_reducible refine bl_then ?_ ?_ hb1) | (with_reducible refine bl_then ?_ ?_ hb2) | (with_reducible refine bl_then ?_ ?_ hb3) | (with_reducible refine bl_then ?_ ?_ hb4) | (with_reducible refine bl_then ?_ ?_ hb5) | (with_reducible refine bl_then ?_ ?_ hb6) | (with_reducible refine bl_then ?_ ?_ hb7) | (with_reducible refine bl_then ?_ ?_ hb8) | (with_reducible exact Nat.le_refl _) | omega | (simp only [World.size_alloc, World.size_setCell, World.size_drew, size_setRow]; omega) | (simp; omega) | (simp; done)))))
      · exact BB.one wr _ (by omega)
      · first | omega | (simp only [List.length_append, List.length_singleton]; omega) | (simp; omega)
      · first | omega | (simp; omega)
      · intro v' w' h1 h2 h3
        have HO2 := Lib.hid h1
        have HG2 := Lib.hid (grown_new (grown_alloc HG.out (.cells #[.int .u8 ((m : Int) % 128 + 128)] 5)) h2 HR.out)
        have hrow : v'.ownBlock = v.ownBlock ∨ ∃ j, v'.ownBlock = some j ∧ w.heap.size ≤ j := by
          rcases h3 with h3 | h3
          · rw [h3]; exact HR.out
          · exact .inr ⟨_, h3, by first | omega | (simp; omega)⟩
        have HR2 := Lib.hid hrow
        clear h1 h2 h3 hrow
        go_wp2_with fail
        go_roundw
        case rel =>
          refine ⟨f, m / 128, pre ++ [(m : Int) % 128 + 128], ?_, HM2.out, ?_, HP2.out, ?_, HG2.out, HR2.out⟩
          · go_num
          · exact HO2.out
          · refine HK.out.app ?_
            intro x hx
            simp at hx
            subst hx
            omega
        case measure =>
          simp [intOf]
          omega
    · have hP2 : pre ++ [(m : Int)] = uintB n := by rw [← HP.out, uintF_small hge]
      have HP2 := Lib.hid hP2
      have hgi : ¬ (128 : Int) ≤ (m : Int) := by omega
      have hmb : (m : Int) % 256 = (m : Int) := by omega
      clear hP2 hm
      go_wp2_with (at_builtin; refine wpList_appB (base := base) rfl _ _ rfl u0 (.slice (some ⟨wr.heap.size, 0, none⟩) 1 1) (xs ++ pre) [(m : Int)] rfl ?_ rfl ?_ ?_ ?_ ?_)
      · exact (HO.out.below (w1 := wr.alloc (.cells #[.int .u8 (m : Int)] 5)) (by (repeat' (first | (with_reducible exact Below.refl _ _) | (with_reducible assumption) | (with_reducible refine Below.alloc ?_ ?_ _) | (with_reducible refine below_setRow ?_ ?_ _) | (with_reducible refine bl_drew ?_) | (with_reducible refine bl_drewN ?_ _) | (with_reducible refine Below.setCell ?_ ?_ _) | (with_reducible refine bl_then ?_ ?_ hb) | (with_reducible refine bl_then ?_ ?_ hb1) | (with_reducible refine bl_then ?_ ?_ hb2) | (with_reducible refine bl_then ?_ ?_ hb3) | (with_reducible refine bl_then ?_ ?_ hb4) | (with_reducible refine bl_then ?_ ?_ hb5) | (with_reducible refine bl_then ?_ ?_ hb6) | (with_reducible refine bl_then ?_ ?_ hb7) | (with_reducible refine bl_then ?_ ?_ hb8) | (with_reducible exact Nat.le_refl _) | omega | (simp only [World.size_alloc, World.size_setCell, World.size_drew, size_setRow]; omega) | (simp; omega) | (simp; done)))))
      · exact BB.one wr _ (by omega)
      · first | omega | (simp only [List.length_append, List.length_singleton]; omega) | (simp; omega)
      · first | omega | (simp; omega)
      · intro v' w' h1 h2 h3
        have HG2 := Lib.hid (grown_new (grown_alloc HG.out (.cells #[.int .u8 (m : Int)] 5)) h2 HR.out)
        have hrow : v'.ownBlock = v.ownBlock ∨ ∃ j, v'.ownBlock = some j ∧ w.heap.size ≤ j := by
          rcases h3 with h3 | h3
          · rw [h3]; exact HR.out
          · exact .inr ⟨_, h3, by first | omega | (simp; omega)⟩
        have h1' : OwB w' base v' (xs ++ uintB n) := by
          rw [← HP2.out]
          exact h1
        have HO2 := Lib.hid h1'
        have HR2 := Lib.hid hrow
        clear h1 h2 h3 hrow h1'
        go_wp2_with fail
        go_ret
        exact ⟨v', rfl, HO2.out, HG2.out, HR2.out⟩
end Go.Proofs.Ytnhhibdkojgnlaa
namespace Go.Proofs.Ytnhhibdkojgnlaa
open Go.RowKit
set_option maxRecDepth 100000
set_option maxHeartbeats 1000000
theorem uint_any (n : Nat) (w : World) (hn : n < 18446744073709551616) : Calls Try.prog 30 #[.int .u64 n] w fun e w' => (∃ v, e = .returned v ∧ OwB w' w.heap.size v (uintB n)) ∧ Below w.heap.size w w' := by
  go_enter Try.func30, Try.ntmps30
  go_wp2_with fail
  refine (put_any (.slice none 0 0) [] n w.heap.size w (OwB.nil _ _) okB.nil (by simp) hn (Nat.le_refl _)).mono ?_
  rintro e w1 ⟨u, rfl, ho, hg, _⟩
  have HO := Lib.hid ho
  have HB := Lib.hid ((Below.refl w.heap.size w).grown hg (Nat.le_refl _) (by simp [Value.ownBlock]))
  clear ho hg
  go_wp2_with fail
  go_ret
  exact ⟨⟨_, rfl, by have h := HO.out; rw [List.nil_append] at h; exact h⟩, HB.out⟩
theorem ruint_any (n : Nat) (w : World) (hn : n < 18446744073709551616) : Calls Try.prog 31 #[.int .u64 n] w fun e w' => (∃ v, e = .returned v ∧ OwB w' w.heap.size v (uintB n)) ∧ Below w.heap.size w w' := by
  go_enter Try.func31, Try.ntmps31
  go_wp2_with fail
  go_loopw [0, 3] (fun i u wr => ∃ (f m : Nat) (pre : List Int), i = .int .u64 m ∧ m ≤ n ∧ m < 2 * 128 ^ f ∧ Hid (OwB wr w.heap.size u pre) ∧ Hid (pre ++ uintF f m = uintB n) ∧ Hid (Below w.heap.size w wr)) (fun i _ _ => (intOf i).toNat)
  case atStart => exact ⟨10, n, [], rfl, Nat.le_refl _, by omega, OwB.nil _ _, rfl, Below.refl _ _⟩
  case round =>
    obtain ⟨f, m, pre, rfl, hmn, hm, HO, HP, HB⟩ := hrel
    have hz := HB.out.size
    have hpl : pre.length ≤ 11 := by
      have h1 := congrArg List.length HP.out
      have h2 := uintB_len n
      rw [List.length_append] at h1
      omega
    by_cases hge : 128 ≤ m
    · obtain ⟨f, rfl⟩ : ∃ f', f = f' + 1 := by
        match f, hm with
        | 0, hm => omega
        | f + 1, _ => exact ⟨f, rfl⟩
      have hP2 : pre ++ ((m : Int) % 128 + 128) :: uintF f (m / 128) = uintB n := by
        have h := HP.out
        unfold uintF at h
        rw [if_pos hge] at h
        exact h
      have HP2 := Lib.hid hP2
      have hm2 : m / 128 < 2 * 128 ^ f := by rw [Nat.pow_succ] at hm; omega
      have HM2 := Lib.hid hm2
      have hgi : (128 : Int) ≤ (m : Int) := by omega
      clear hP2 hm2 hm
      go_wp2_with (at_builtin; refine wpList_appB (base := w.heap.size) rfl _ _ rfl u3 (.slice (some ⟨wr.heap.size, 0, none⟩) 1 1) pre [(m : Int) % 128 + 128] rfl ?_ rfl ?_ ?_ ?_ ?_)
      · exact (HO.out.below (w1 := wr.alloc (.cells #[.int .u8 ((m : Int) % 128 + 128)] 5)) (by (repeat' (first | (with_reducible exact Below.refl _ _) | (with_reducible assumption) | (with_reducible refine Below.alloc ?_ ?_ _) | (with_reducible refine below_setRow ?_ ?_ _) | (with_reducible refine bl_drew ?_) | (with_reducible refine bl_drewN ?_ _) | (with_reducible refine Below.setCell ?_ ?_ _) | (with_reducible refine bl_then ?_ ?_ hb) | (with_reducible refine bl_then ?_ ?_ hb1) | (with_reducible refine bl_then ?_ ?_ hb2) | (with_reducible refine bl_then ?_ ?_ hb3) | (with_reducible refine bl_then ?_ ?_ hb4) | (with_reducible refine bl_then ?_ ?_ hb5) | (with_reducible refine bl_then ?_ ?_ hb6) | (with_reducible refine bl_then ?_ ?_ hb7) | (with_reducible refine bl_then ?_ ?_ hb8) | (with_reducible exact Nat.le_refl _) | omega | (simp only [World.size_alloc, World.size_setCell, World.size_drew, size_setRow]; omega) | (simp; omega) | (simp; done)))))
      · exact BB.one wr _ (by omega)
      · first | omega | (simp; omega)
      · first | omega | (simp; omega)
      · intro v' w' h1 h2 h3
        have HO2 := Lib.hid h1
        have HB2 := Lib.hid ((HB.out.alloc hz (.cells #[.int .u8 ((m : Int) % 128 + 128)] 5)).grown h2 (by simp; omega) (fun q hq => (World.ownsRow.lt HO.out q hq).1))
        clear h1 h2 h3
        go_wp2_with fail
        go_roundw
        case rel =>
          refine ⟨f, m / 128, pre ++ [(m : Int) % 128 + 128], ?_, by omega, HM2.out, HO2.out, ?_, HB2.out⟩
          · go_num
          · show (pre ++ [(m : Int) % 128 + 128]) ++ uintF f (m / 128) = uintB n
            rw [List.append_assoc]
            exact HP2.out
        case measure =>
          have hw : IntKind.u64.wrap ((m : Int) / 128) = ((m / 128 : Nat) : Int) := by rw [IntKind.wrap_u64]; omega
          simp [intOf, hw]
          omega
    · have hP2 : pre ++ [(m : Int)] = uintB n := by rw [← HP.out, uintF_small hge]
      have HP2 := Lib.hid hP2
      have hgi : ¬ (128 : Int) ≤ (m : Int) := by omega
      have hmb : (m : Int) % 256 = (m : Int) := by omega
      clear hP2 hm
      go_wp2_with (at_builtin; refine wpList_appB (base := w.heap.size) rfl _ _ rfl u3 (.slice (some ⟨wr.heap.size, 0, none⟩) 1 1) pre [(m : Int)] rfl ?_ rfl ?_ ?_ ?_ ?_)
      · exact (HO.out.below (w1 := wr.alloc (.cells #[.int .u8 (m : Int)] 5)) (by (repeat' (first | (with_reducible exact Below.refl _ _) | (with_reducible assumption) | (with_reducible refine Below.alloc ?_ ?_ _) | (with_reducible refine below_setRow ?_ ?_ _) | (with_reducible refine bl_drew ?_) | (with_reducible refine bl_drewN ?_ _) | (with_reducible refine Below.setCell ?_ ?_ _) | (with_reducible refine bl_then ?_ ?_ hb) | (with_reducible refine bl_then ?_ ?_ hb1) | (with_reducible refine bl_then ?_ ?_ hb2) | (with_reducible refine bl_then ?_ ?_ hb3) | (with_reducible refine bl_then ?_ ?_ hb4) | (with_reducible refine bl_then ?_ ?_ hb5) | (with_reducible refine bl_then ?_ ?_ hb6) | (with_reducible refine bl_then ?_ ?_ hb7) | (with_reducible refine bl_then ?_ ?_ hb8) | (with_reducible exact Nat.le_refl _) | omega | (simp only [World.size_alloc, World.size_setCell, World.size_drew, size_setRow]; omega) | (simp; omega) | (simp; done)))))
      · exact BB.one wr _ (by omega)
      · first | omega | (simp; omega)
      · first | omega | (simp; omega)
      · intro v' w' h1 h2 h3
        have h1' : OwB w' w.heap.size v' (uintB n) := by
          rw [← HP2.out]
          exact h1
        have HO2 := Lib.hid h1'
        have HB2 := Lib.hid ((HB.out.alloc hz (.cells #[.int .u8 (m : Int)] 5)).grown h2 (by simp; omega) (fun q hq => (World.ownsRow.lt HO.out q hq).1))
        clear h1 h2 h3 h1'
        go_wp2_with fail
        go_ret
        exact ⟨⟨v', rfl, HO2.out⟩, HB2.out⟩
end Go.Proofs.Ytnhhibdkojgnlaa
namespace Go.Proofs.Ytnhhibdkojgnlaa
open Go.RowKit
set_option maxRecDepth 100000
set_option maxHeartbeats 1000000
/-- The number that bytes of seven bits each stand for. -/
def valU : List Int → Nat
  | [] => 0
  | c :: r => c.toNat % 128 + 128 * valU r
theorem valU_snoc (l : List Int) (c : Int) : valU (l ++ [c]) = valU l + 128 ^ l.length * (c.toNat % 128) := by
  induction l with
  | nil => simp [valU]
  | cons d l ih =>
    simp only [List.cons_append, valU, ih, List.length_cons, Nat.pow_succ]
    rw [Nat.mul_add, Nat.add_assoc]
    congr 1
    rw [Nat.mul_comm (128 ^ l.length) 128, Nat.mul_assoc]
theorem valU_lt (l : List Int) : valU l < 128 ^ l.length := by
  induction l with
  | nil => simp [valU]
  | cons d l ih =>
    simp only [valU, List.length_cons, Nat.pow_succ]
    omega
/-- What is read of bytes, from the k-th on. -/
def rdF : Nat → Nat → List Int → Nat × Nat × Nat
  | 0, _, _ => (0, 0, 8)
  | f + 1, k, bs =>
    if k < bs.length then
      if k = 9 ∧ 1 < bs.getD k 0 then (0, 0, 8)
      else if bs.getD k 0 < 128 then
        if bs.getD k 0 = 0 ∧ 0 < k then (0, 0, 8) else (valU (bs.take (k + 1)), k + 1, 0)
      else rdF f (k + 1) bs
    else (0, 0, 7)
def readS (bs : List Int) : Nat × Nat × Nat := rdF 10 0 bs
theorem rdF_end (k f : Nat) (bs : List Int) (h : ¬ k < bs.length) : rdF (f + 1) k bs = (0, 0, 7) := by
  rw [rdF, if_neg h]
theorem rdF_nine (f : Nat) (bs : List Int) (h : 9 < bs.length) (hc : 1 < bs.getD 9 0) : rdF (f + 1) 9 bs = (0, 0, 8) := by
  rw [rdF, if_pos h, if_pos ⟨rfl, hc⟩]
theorem rdF_zero (k f : Nat) (bs : List Int) (h : k < bs.length) (hc : bs.getD k 0 = 0) (hk : 0 < k) : rdF (f + 1) k bs = (0, 0, 8) := by
  rw [rdF, if_pos h, if_neg (by rw [hc]; omega), if_pos (by rw [hc]; omega), if_pos ⟨hc, hk⟩]
theorem rdF_last (k f : Nat) (bs : List Int) (h : k < bs.length) (hc : bs.getD k 0 < 128) (h9 : ¬ (k = 9 ∧ 1 < bs.getD k 0)) (h0 : ¬ (bs.getD k 0 = 0 ∧ 0 < k)) : rdF (f + 1) k bs = (valU (bs.take (k + 1)), k + 1, 0) := by
  rw [rdF, if_pos h, if_neg h9, if_pos hc, if_neg h0]
theorem rdF_next (k f : Nat) (bs : List Int) (h : k < bs.length) (hc : ¬ bs.getD k 0 < 128) (h9 : k ≠ 9) : rdF (f + 1) k bs = rdF f (k + 1) bs := by
  rw [rdF, if_pos h, if_neg (fun h => h9 h.1), if_neg hc]
theorem take_snoc (bs : List Int) (k : Nat) (h : k < bs.length) : bs.take (k + 1) = bs.take k ++ [bs.getD k 0] := by
  rw [List.take_add_one, List.getElem?_eq_getElem h, List.getD_eq_getElem?_getD, List.getElem?_eq_getElem h]
  rfl
theorem andNot_128 (c : Int) (h : 0 ≤ c ∧ c ≤ 255) : bits .andNot .u64 c 128 = c % 128 := by
  obtain ⟨h0, h1⟩ := h
  obtain ⟨n, rfl⟩ := Int.eq_ofNat_of_zero_le h0
  have hn : n < 256 := by omega
  have key : ∀ m : Fin 256, bits .andNot .u64 (m.val : Int) 128 = ((m.val % 128 : Nat) : Int) := by decide +kernel
  have := key ⟨n, hn⟩
  simpa using this
/-- A byte's seven bits stand above the bits read till then. -/
theorem or_next (bs : List Int) (k : Nat) (hk : k ≤ 9) (hl : k < bs.length) (hc : 0 ≤ bs.getD k 0 ∧ bs.getD k 0 ≤ 255) (h9 : k = 9 → bs.getD k 0 % 128 ≤ 1) :
    bits .or .u64 (valU (bs.take k) : Int) (IntKind.u64.wrap (bs.getD k 0 % 128 * 2 ^ (7 * k))) = (valU (bs.take (k + 1)) : Int) := by
  have hlt := valU_lt (bs.take k)
  have hlen : (bs.take k).length = k := by rw [List.length_take]; omega
  rw [take_snoc bs k hl, valU_snoc, hlen]
  rw [hlen] at hlt
  obtain ⟨h0, h1⟩ := hc
  generalize bs.getD k 0 = c at *
  obtain ⟨c, rfl⟩ := Int.eq_ofNat_of_zero_le h0
  generalize valU (bs.take k) = a at *
  have hp : (128 : Nat) ^ k = 2 ^ (7 * k) := by rw [Nat.pow_mul]
  have hb : 128 ^ k * (c % 128) < 18446744073709551616 ∧ 128 ^ k ≤ 9223372036854775808 := by
    have key : ∀ j : Fin 10, 128 ^ j.val ≤ 9223372036854775808 ∧ (j.val < 9 → 128 ^ j.val * 128 ≤ 9223372036854775808) := by decide +kernel
    obtain ⟨k1, k2⟩ := key ⟨k, by omega⟩
    refine ⟨?_, k1⟩
    by_cases h : k = 9
    · subst h
      have := h9 rfl
      have h2 : c % 128 ≤ 1 := by omega
      have := Nat.mul_le_mul_left (128 ^ 9) h2
      omega
    · have := k2 (by simp; omega)
      have h2 : c % 128 ≤ 128 := by omega
      have := Nat.mul_le_mul_left (128 ^ k) h2
      simp at *
      omega
  have he : ((c : Int) % 128 * 2 ^ (7 * k)) = ((128 ^ k * (c % 128) : Nat) : Int) := by
    rw [hp]
    push_cast
    rw [Int.mul_comm]
  have hw : IntKind.u64.wrap ((c : Int) % 128 * 2 ^ (7 * k)) = ((128 ^ k * (c % 128) : Nat) : Int) := by
    rw [he, IntKind.wrap_u64]
    omega
  rw [hw, u64_or_nat _ _ (by omega) hb.1]
  congr 1
  have hjoin := Nat.two_pow_add_eq_or_of_lt (show a < 2 ^ (7 * k) by omega) (c % 128)
  rw [hp, Nat.or_comm, ← hjoin, Nat.add_comm, Int.toNat_natCast]
theorem readuint_any (v : Value) (bs : List Int) (w : World) (h : BB w v bs) : Calls Try.prog 32 #[v] w fun e w' => e = .returned (.tuple #[.int .u64 (readS bs).1, .int .i64 (readS bs).2.1, .int .i64 (readS bs).2.2]) ∧ w' = w := by
  obtain ⟨hok, hlen, A, cap, rfl, hr, _⟩ := h
  have HR := Lib.hid hr
  have HOK := Lib.hid hok
  clear hr hok
  go_enter Try.func32, Try.ntmps32
  go_wp2_with fail
  go_loop [2, 7] (fun a i => ∃ k : Nat, k ≤ 10 ∧ i = .int .i64 k ∧ a = .int .u64 (valU (bs.take k)) ∧ k ≤ bs.length ∧ Hid (readS bs = rdF (10 - k) k bs)) (fun _ i => 10 - (intOf i).toNat)
  case atStart => exact ⟨0, by omega, rfl, rfl, Nat.zero_le _, rfl⟩
  case round =>
    obtain ⟨k, hk, rfl, rfl, hkl, HS⟩ := hrel
    by_cases h10 : k < 10
    · obtain ⟨f, hf⟩ : ∃ f, 10 - k = f + 1 := ⟨9 - k, by omega⟩
      rw [hf] at HS
      by_cases hl : k < bs.length
      · obtain ⟨b, off, rfl, hc⟩ := HR.out.2 (by omega)
        have c0 := hc k hl
        have hcb := HOK.out.getD k
        clear hc
        by_cases h9 : k = 9 ∧ 1 < bs.getD k 0
        · obtain ⟨rfl, h9⟩ := h9
          have HS2 := Lib.hid (HS.out.trans (rdF_nine f bs hl h9))
          clear HS hf
          generalize bs.getD 9 0 = c at *
          generalize valU (bs.take 9) = a at *
          go_wp2_with fail
          refine bodyPost_ret (v := .tuple #[.int .u64 0, .int .i64 0, .int .i64 8]) (by simp [results, Try.results32, go_sem]) rfl ?_
          rw [HS2.out]
          exact ⟨rfl, rfl⟩
        · have HOR := Lib.hid (or_next bs k (by omega) hl hcb (fun h => by omega))
          by_cases h128 : bs.getD k 0 < 128
          · by_cases h0 : bs.getD k 0 = 0 ∧ 0 < k
            · have HS2 := Lib.hid (HS.out.trans (rdF_zero k f bs hl h0.1 h0.2))
              clear HS hf HOR
              obtain ⟨h0, h0k⟩ := h0
              rw [h0] at c0
              clear hcb h128 h9 h0
              generalize valU (bs.take k) = a at *
              go_wp2_with fail
              all_goals
                refine bodyPost_ret (v := .tuple #[.int .u64 0, .int .i64 0, .int .i64 8]) (by simp [results, Try.results32, go_sem]) rfl ?_
                rw [HS2.out]
                exact ⟨rfl, rfl⟩
            · have HS2 := Lib.hid (HS.out.trans (rdF_last k f bs hl h128 h9 h0))
              rw [← andNot_128 _ hcb] at HOR
              clear HS hf
              generalize bs.getD k 0 = c at *
              generalize valU (bs.take k) = a at *
              generalize valU (bs.take (k + 1)) = a2 at *
              by_cases h9k : k = 9
              · subst h9k
                rw [show (2 : Int) ^ (7 * 9) = 9223372036854775808 by decide] at HOR
                go_wp2_with fail
                all_goals
                  refine bodyPost_ret (v := .tuple #[.int .u64 a2, .int .i64 (9 + 1 : Nat), .int .i64 0]) (by simp [HOR.out, results, Try.results32, go_sem]) rfl ?_
                  rw [HS2.out]
                  exact ⟨rfl, rfl⟩
              · by_cases hc0 : c = 0
                · subst hc0
                  go_wp2_with fail
                  all_goals
                    refine bodyPost_ret (v := .tuple #[.int .u64 a2, .int .i64 (k + 1 : Nat), .int .i64 0]) (by simp [HOR.out, results, Try.results32, go_sem]) rfl ?_
                    rw [HS2.out]
                    exact ⟨rfl, rfl⟩
                · go_wp2_with fail
                  all_goals
                    refine bodyPost_ret (v := .tuple #[.int .u64 a2, .int .i64 (k + 1 : Nat), .int .i64 0]) (by simp [HOR.out, results, Try.results32, go_sem]) rfl ?_
                    rw [HS2.out]
                    exact ⟨rfl, rfl⟩
          · have HS2 := Lib.hid (HS.out.trans (rdF_next k f bs hl h128 (by omega)))
            rw [← andNot_128 _ hcb] at HOR
            clear HS
            generalize bs.getD k 0 = c at *
            generalize valU (bs.take k) = a at *
            go_wp2_with fail
            go_round
            case rel =>
              refine ⟨k + 1, by omega, ?_, ?_, by omega, ?_⟩
              · go_num
              · rw [HOR.out]
              · rw [show 10 - (k + 1) = f by omega]
                exact HS2.out
            case measure =>
              simp [intOf]
              omega
      · have HS2 := Lib.hid (HS.out.trans (rdF_end k f bs hl))
        clear HS hf
        go_wp2_with fail
        refine bodyPost_ret (v := .tuple #[.int .u64 0, .int .i64 0, .int .i64 7]) (by simp [results, Try.results32, go_sem]) rfl ?_
        rw [HS2.out]
        exact ⟨rfl, rfl⟩
    · obtain rfl : k = 10 := by omega
      have HS2 : Hid (readS bs = (0, 0, 8)) := HS.out
      clear HS
      go_wp2_with fail
      refine bodyPost_ret (v := .tuple #[.int .u64 0, .int .i64 0, .int .i64 8]) (by simp [results, Try.results32, go_sem]) rfl ?_
      rw [HS2.out]
      exact ⟨rfl, rfl⟩
end Go.Proofs.Ytnhhibdkojgnlaa
namespace Go.Proofs.Ytnhhibdkojgnlaa
open Go.RowKit
set_option maxRecDepth 100000
set_option maxHeartbeats 1000000
/-- Bytes that are a number's form, but for the last one's size. -/
structure Form (l : List Int) (c : Int) : Prop where
  more : ∀ x ∈ l, 128 ≤ x ∧ x ≤ 255
  last : 0 ≤ c ∧ c < 128
  full : l ≠ [] → 0 < c
theorem uintF_form : ∀ (f n : Nat), n < 2 * 128 ^ f → ∃ l c, uintF f n = l ++ [c] ∧ Form l c
  | 0, n, h => ⟨[], n, uintF_small (by omega), by simp, by omega, by simp⟩
  | f + 1, n, h => by
    by_cases hn : 128 ≤ n
    · obtain ⟨l, c, e, F⟩ := uintF_form f (n / 128) (by rw [Nat.pow_succ] at h; omega)
      refine ⟨((n : Int) % 128 + 128) :: l, c, ?_, ?_, F.last, ?_⟩
      · unfold uintF
        rw [if_pos hn, e]
        rfl
      · intro x hx
        rcases List.mem_cons.1 hx with rfl | hx
        · omega
        · exact F.more x hx
      · intro _
        by_cases hl : l = []
        · subst hl
          by_cases h2 : 128 ≤ n / 128
          · exfalso
            match f, e with
            | 0, e => simp only [Nat.pow_succ, Nat.pow_zero] at h; omega
            | f + 1, e =>
              have hl := congrArg List.length e
              unfold uintF at hl
              rw [if_pos h2] at hl
              simp only [List.length_cons, List.nil_append, List.length_nil] at hl
              have : 0 < (uintF f (n / 128 / 128)).length := by
                unfold uintF
                match f with
                | 0 => simp
                | f + 1 => simp only; split <;> simp
              omega
          · rw [uintF_small h2] at e
            simp only [List.nil_append, List.cons.injEq] at e
            omega
        · exact F.full hl
    · exact ⟨[], n, uintF_small hn, by simp, by omega, by simp⟩
theorem uintB_form {n : Nat} (h : n < 18446744073709551616) : ∃ l c, uintB n = l ++ [c] ∧ Form l c := uintF_form 10 n (by omega)
theorem valU_uintF : ∀ (f n : Nat), n < 2 * 128 ^ f → f ≠ 0 → valU (uintF f n) = n ∨ 128 ^ f ≤ n
  | 0, n, h, h0 => absurd rfl h0
  | f + 1, n, h, _ => by
    by_cases hn : 128 ≤ n
    · unfold uintF
      rw [if_pos hn]
      show ((n : Int) % 128 + 128).toNat % 128 + 128 * valU (uintF f (n / 128)) = n ∨ _
      have h1 : ((n : Int) % 128 + 128).toNat % 128 = n % 128 := by omega
      rw [h1]
      by_cases h0 : f = 0
      · subst h0
        simp only [Nat.pow_succ, Nat.pow_zero] at h ⊢
        omega
      · rcases valU_uintF f (n / 128) (by rw [Nat.pow_succ] at h; omega) h0 with e | e
        · rw [e]; omega
        · right; rw [Nat.pow_succ]; omega
    · rw [uintF_small hn]
      simp only [valU]
      omega
theorem valU_uintB {n : Nat} (h : n < 18446744073709551616) : valU (uintB n) = n := by
  rcases valU_uintF 10 n (by omega) (by omega) with e | e
  · exact e
  · simp only [Nat.reducePow] at e; omega
theorem uintF_valU : ∀ (l : List Int) (c : Int) (f : Nat), Form l c → l.length ≤ f → uintF f (valU (l ++ [c])) = l ++ [c]
  | [], c, f, F, _ => by
    have h := F.last
    have e : valU [c] = c.toNat := by simp only [valU]; omega
    show uintF f (valU [c]) = [c]
    rw [e, uintF_small (by omega)]
    congr 1
    omega
  | d :: l, c, 0, _, h => by simp at h
  | d :: l, c, f + 1, F, h => by
    have hd := F.more d (by simp)
    have hc := F.last
    have F2 : Form l c := ⟨fun x hx => F.more x (by simp [hx]), F.last, fun _ => F.full (by simp)⟩
    have ih := uintF_valU l c f F2 (by simpa using h)
    have hpos : 1 ≤ valU (l ++ [c]) := by
      have := F.full (by simp)
      rw [valU_snoc]
      have h2 : 1 ≤ 128 ^ l.length * (c.toNat % 128) := Nat.mul_pos (Nat.pow_pos (by omega)) (by omega)
      omega
    show uintF (f + 1) (d.toNat % 128 + 128 * valU (l ++ [c])) = d :: (l ++ [c])
    have e1 : (d.toNat % 128 + 128 * valU (l ++ [c])) / 128 = valU (l ++ [c]) := by omega
    generalize valU (l ++ [c]) = m at *
    unfold uintF
    rw [if_pos (by omega), e1, ih]
    congr 1
    omega
theorem getD_mem_take {bs : List Int} {k j : Nat} (hj : j < k) (hk : k ≤ bs.length) : bs.getD j 0 ∈ bs.take k := by
  rw [List.getD_eq_getElem?_getD, List.getElem?_eq_getElem (by omega)]
  exact List.mem_take_iff_getElem.2 ⟨j, by omega, rfl⟩
/-- The bytes read so far all say that more follow. -/
def AllMore (bs : List Int) (k : Nat) : Prop := ∀ x ∈ bs.take k, 128 ≤ x ∧ x ≤ 255
theorem AllMore.next {bs : List Int} {k : Nat} (h : AllMore bs k) (hk : k < bs.length) (hx : okB bs) (hc : ¬ bs.getD k 0 < 128) : AllMore bs (k + 1) := by
  intro x hxm
  rw [take_snoc bs k hk] at hxm
  rcases List.mem_append.1 hxm with hxm | hxm
  · exact h x hxm
  · obtain rfl := List.mem_singleton.1 hxm
    have := hx.getD k
    omega
theorem same_good {bs : List Int} {k : Nat} (h : AllMore bs k) (hk : k < bs.length) (hk9 : k ≤ 9) (hx : okB bs) (hc : bs.getD k 0 < 128) (h0 : ¬ (bs.getD k 0 = 0 ∧ 0 < k)) : uintB (valU (bs.take (k + 1))) = bs.take (k + 1) := by
  have hb := hx.getD k
  rw [take_snoc bs k hk]
  refine uintF_valU _ _ 10 ⟨h, ⟨hb.1, hc⟩, fun hne => ?_⟩ (by rw [List.length_take]; omega)
  have : k ≠ 0 := fun e => hne (by rw [e]; rfl)
  omega
theorem same_zero {bs : List Int} {k n : Nat} (hn : n < 18446744073709551616) (hk : k < bs.length) (hc : bs.getD k 0 = 0) (h0 : 0 < k) : uintB n ≠ bs.take (k + 1) := by
  intro e
  obtain ⟨l, c, e2, F⟩ := uintB_form hn
  rw [e2, take_snoc bs k hk] at e
  obtain ⟨e3, e4⟩ := List.append_inj' e rfl
  have hl : l ≠ [] := by
    rw [e3]
    intro h
    have := congrArg List.length h
    rw [List.length_take, List.length_nil] at this
    omega
  have := F.full hl
  simp only [List.cons.injEq, and_true] at e4
  omega
theorem same_nine {bs : List Int} {n : Nat} (hn : n < 18446744073709551616) (hk : 9 < bs.length) (hc : 1 < bs.getD 9 0) (hc2 : bs.getD 9 0 < 128) : uintB n ≠ bs.take (9 + 1) := by
  intro e
  have hv := valU_uintB hn
  rw [e, take_snoc bs 9 hk, valU_snoc, List.length_take] at hv
  have h9 : min 9 bs.length = 9 := by omega
  rw [h9] at hv
  have h2 : 2 ≤ (bs.getD 9 0).toNat % 128 := by omega
  have := Nat.mul_le_mul_left (128 ^ 9) h2
  simp only [Nat.reducePow] at this hv
  omega
theorem or_any (a c : Int) (k : Nat) (h : 0 ≤ a ∧ a < 18446744073709551616) : ∃ m : Nat, m < 18446744073709551616 ∧ bits .or .u64 a (IntKind.u64.wrap (c % 128 * 2 ^ (7 * k))) = (m : Int) := by
  obtain ⟨n, rfl⟩ := Int.eq_ofNat_of_zero_le h.1
  rw [IntKind.wrap_u64]
  generalize c % 128 * 2 ^ (7 * k) = y
  obtain ⟨m, hm⟩ := Int.eq_ofNat_of_zero_le (show 0 ≤ y % 18446744073709551616 by omega)
  rw [hm, u64_or_nat _ _ (by omega) (by omega)]
  refine ⟨n ||| m, ?_, rfl⟩
  exact Nat.or_lt_two_pow (n := 64) (by omega) (by omega)
end Go.Proofs.Ytnhhibdkojgnlaa
namespace Go.Proofs.Ytnhhibdkojgnlaa
open Go.RowKit
set_option maxRecDepth 100000
set_option maxHeartbeats 1000000
theorem BB.cut {w : World} {A : Option Addr} {n cap j : Nat} {xs : List Int} (h : BB w (.slice A n cap) xs) (hj : j ≤ xs.length) : BB w (.slice A j cap) (xs.take j) := by
  obtain ⟨h1, h2, A', cap', e, hr, h3, h4, h5⟩ := h
  simp only [Value.slice.injEq] at e
  obtain ⟨rfl, rfl, rfl⟩ := e
  have hl : (xs.take j).length = j := by rw [List.length_take]; omega
  exact ⟨h1.take j, by omega, A, cap, by rw [hl], by rw [hl]; exact hr.take hj, h3, by omega, h5⟩
theorem Inv.self (w : World) : Inv w (fun _ => False) (fun _ => none) w.drew := Inv.start w _ _ (by simp) (by simp)
theorem refread_any (v : Value) (bs : List Int) (w : World) (h : BB w v bs) : Calls Try.prog 33 #[v] w fun e w' => e = .returned (.tuple #[.int .u64 (readS bs).1, .int .i64 (readS bs).2.1, .int .i64 (readS bs).2.2]) ∧ Below w.heap.size w w' := by
  obtain ⟨hok, hlen, A, cap, rfl, hr, hnc, hlc, hcm⟩ := h
  have HR := Lib.hid hr
  have HOK := Lib.hid hok
  clear hr hok
  go_enter Try.func33, Try.ntmps33
  go_wp2_with fail
  go_loop [5, 6] (fun a i => ∃ k n : Nat, k ≤ 10 ∧ i = .int .i64 k ∧ a = .int .u64 n ∧ (k < 10 → n = valU (bs.take k)) ∧ k ≤ bs.length ∧ Hid (AllMore bs k) ∧ Hid (readS bs = rdF (10 - k) k bs)) (fun _ i => 10 - (intOf i).toNat)
  case atStart => exact ⟨0, 0, by omega, rfl, rfl, fun _ => rfl, Nat.zero_le _, Lib.hid (show AllMore bs 0 by simp [AllMore]), Lib.hid rfl⟩
  case round =>
    obtain ⟨k, n, hk, rfl, rfl, hn, hkl, HM, HS⟩ := hrel
    by_cases h10 : k < 10
    · obtain rfl := hn h10
      obtain ⟨f, hf⟩ : ∃ f, 10 - k = f + 1 := ⟨9 - k, by omega⟩
      rw [hf] at HS
      by_cases hl : k < bs.length
      · obtain ⟨b, off, rfl, hc⟩ := HR.out.2 (by omega)
        have c0 := hc k hl
        have hcb := HOK.out.getD k
        clear hc hn
        have ha : valU (bs.take k) < 9223372036854775808 := by
          have h1 := valU_lt (bs.take k)
          rw [List.length_take] at h1
          have h2 : 128 ^ min k bs.length ≤ 128 ^ 9 := Nat.pow_le_pow_right (by omega) (by omega)
          omega
        obtain ⟨m, hm, em⟩ := or_any (valU (bs.take k) : Int) (bs.getD k 0) k (by omega)
        have HEM := Lib.hid em
        by_cases h128 : bs.getD k 0 < 128
        · have HA : Hid (readS bs = if uintB m = bs.take (k + 1) then (m, k + 1, 0) else (0, 0, 8)) := by
            refine Lib.hid ?_
            rw [HS.out]
            by_cases h9 : k = 9 ∧ 1 < bs.getD k 0
            · obtain ⟨rfl, h9⟩ := h9
              rw [rdF_nine f bs hl h9, if_neg (same_nine hm hl h9 h128)]
            · by_cases h0 : bs.getD k 0 = 0 ∧ 0 < k
              · rw [rdF_zero k f bs hl h0.1 h0.2, if_neg (same_zero hm hl h0.1 h0.2)]
              · have e1 := or_next bs k (by omega) hl hcb (fun h => by omega)
                have e2 : m = valU (bs.take (k + 1)) := Int.ofNat_inj.1 (em.symm.trans e1)
                rw [rdF_last k f bs hl h128 h9 h0, if_pos (by rw [e2]; exact same_good HM.out hl (by omega) HOK.out h128 h0), e2]
          have HBB : Hid (BB w (.slice (some ⟨b, off, none⟩) (k + 1) cap) (bs.take (k + 1))) := Lib.hid (BB.cut ⟨HOK.out, hlen, _, cap, rfl, HR.out, hnc, hlc, hcm⟩ hl)
          have HU := Lib.hid (uintB_ok hm)
          have hul := uintB_len m
          clear HS hf em ha
          generalize bs.getD k 0 = c at *
          generalize valU (bs.take k) = a at *
          go_wp2_with fail
          rw [HEM.out]
          have hw1 : IntKind.i64.wrap ((k : Int) + 1) = (k : Int) + 1 := IntWalk.i64_in _ (by omega)
          have hk1 : (0 : Int) ≤ (k : Int) + 1 := by omega
          have hk2 : (k : Int) + 1 ≤ (cap : Int) := by omega
          have hk3 : ((k : Int) + 1).toNat = k + 1 := by omega
          apply wp_region_eff (Inv w (fun _ => False)) (fun _ => none) (Inv.self w) (hm := by kernel_rfl)
          case h =>
            (apply SeqF.pure; (focus (first | rfl | (go_simp; done) | (simp [Region.wanted, yielded]; done))); (focus (intro w; go_simp; with_reducible rfl)); go_simp)
            apply SeqF.callNew [] 1 5 1 (uintB m).length ((uintB m).map (Value.int .u8)) 31 #[.int .u64 m]
            · (first | rfl | (go_simp; done) | (simp [Region.wanted, yielded]; done))
            · intro w; kernel_rfl
            · exact fun γ' W _ hI => ruint_any m W hm
            intro v x hv hvn
            obtain rfl := hv.val (by decide)
            obtain ⟨A2, c2, hA2⟩ := hv.form
            have HV := Lib.hid hv
            clear hv
            go_simp
            (apply SeqF.pure; (focus (first | rfl | (go_simp; done) | (simp [Region.wanted, yielded]; done))); (focus (intro w; go_simp; with_reducible rfl)); go_simp)
            (apply SeqF.pure; (focus (first | rfl | (go_simp; done) | (simp [Region.wanted, yielded]; done))); (focus (intro w; go_simp; with_reducible rfl)); go_simp)
            (apply SeqF.pure; (focus (first | rfl | (go_simp; done) | (simp [Region.wanted, yielded]; done))); (focus (intro w; go_simp; with_reducible rfl)); go_simp)
            (apply SeqF.pure; (focus (first | rfl | (go_simp; done) | (simp [Region.wanted, yielded]; done))); (focus (intro w; go_simp; with_reducible rfl)); go_simp)
            apply SeqF.call (v := .bool (decide (uintB m = bs.take (k + 1)))) [1] 12 #[.slice A2 (uintB m).length c2, .slice (some ⟨b, off, none⟩) (k + 1) cap]
            · (first | rfl | (go_simp; done) | (simp [Region.wanted, yielded]; done))
            · intro w; kernel_rfl
            · intro γ' W hg hI
              refine (same_bytes _ _ (uintB m) (bs.take (k + 1)) W ?_ ?_).mono ?_
              · refine OwB.rd (base := 0) ?_ HU.out (by omega)
                rw [← hA2]
                exact HV.out.owns (fun g o hgo => ⟨Nat.zero_le _, (hI.here 1 g o ((hg 1 (by simp)).trans ((Gh.set_here _ _ _).trans hgo))).1⟩)
              · exact HBB.out.below hI.belowOf
              · rintro e W' ⟨rfl, rfl⟩
                exact ⟨rfl, hI⟩
            go_simp
            (apply SeqF.pure; (focus (first | rfl | (go_simp; done) | (simp [Region.wanted, yielded]; done))); (focus (intro w; go_simp; with_reducible rfl)); go_simp)
            apply SeqF.done
            intro w' hI
            have HB := Lib.hid hI.belowOf
            clear hI
            go_simp
            by_cases hd : uintB m = bs.take (k + 1)
            · have HS2 := Lib.hid (HA.out.trans (if_pos hd))
              simp only [hd, decide_true, Bool.not_true]
              clear HA hd
              go_wp2_with fail
              refine bodyPost_ret (v := .tuple #[.int .u64 m, .int .i64 (k + 1 : Nat), .int .i64 0]) (by simp [results, Try.results33, go_sem]) rfl ?_
              rw [HS2.out]
              exact ⟨rfl, HB.out⟩
            · have HS2 := Lib.hid (HA.out.trans (if_neg hd))
              simp only [hd, decide_false, Bool.not_false]
              clear HA hd
              go_wp2_with fail
              refine bodyPost_ret (v := .tuple #[.int .u64 0, .int .i64 0, .int .i64 8]) (by simp [results, Try.results33, go_sem]) rfl ?_
              rw [HS2.out]
              exact ⟨rfl, HB.out⟩
          case hl => rfl
          case ho => kernel_rfl
        · have HM2 := Lib.hid (HM.out.next hl HOK.out h128)
          have HA : Hid (readS bs = rdF (10 - (k + 1)) (k + 1) bs) := by
            refine Lib.hid ?_
            rw [show 10 - (k + 1) = f by omega, HS.out]
            by_cases h9 : k = 9
            · subst h9
              obtain rfl : f = 0 := by omega
              rw [rdF_nine 0 bs hl (by omega)]
              rfl
            · exact rdF_next k f bs hl h128 h9
          have HN : Hid (k + 1 < 10 → m = valU (bs.take (k + 1))) := Lib.hid fun h => Int.ofNat_inj.1 (em.symm.trans (or_next bs k (by omega) hl hcb (fun h => by omega)))
          clear HS hf em ha
          generalize bs.getD k 0 = c at *
          generalize valU (bs.take k) = a at *
          go_wp2_with fail
          go_round
          case rel =>
            refine ⟨k + 1, m, by omega, by go_num, ?_, HN.out, by omega, HM2, HA⟩
            rw [HEM.out]
          case measure =>
            simp [intOf]
            omega
      · have HS2 := Lib.hid (HS.out.trans (rdF_end k f bs hl))
        clear HS hf hn
        go_wp2_with fail
        refine bodyPost_ret (v := .tuple #[.int .u64 0, .int .i64 0, .int .i64 7]) (by simp [results, Try.results33, go_sem]) rfl ?_
        rw [HS2.out]
        exact ⟨rfl, Below.refl _ _⟩
    · obtain rfl : k = 10 := by omega
      have HS2 : Hid (readS bs = (0, 0, 8)) := HS.out
      clear HS hn
      go_wp2_with fail
      refine bodyPost_ret (v := .tuple #[.int .u64 0, .int .i64 0, .int .i64 8]) (by simp [results, Try.results33, go_sem]) rfl ?_
      rw [HS2.out]
      exact ⟨rfl, Below.refl _ _⟩
end Go.Proofs.Ytnhhibdkojgnlaa
