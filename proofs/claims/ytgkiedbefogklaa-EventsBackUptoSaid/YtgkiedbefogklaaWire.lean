/- What is proved: what the functions of package wire, and of its reference, that write numbers do when they are called; conditions: the numbers are of their kind. -/
import Derived.Test.YtgkiedbefogklaaSame
set_option linter.unusedSimpArgs false
set_option linter.unusedVariables false
namespace Go.Proofs.Ytgkiedbefogklaa
open Go.RowKit
set_option maxRecDepth 100000
set_option maxHeartbeats 1000000
/-- A number's form, at most f bytes more than one. -/
def uintF : Nat → Nat → List Int
  | 0, n => [(n : Int)]
  | f + 1, n => if 128 ≤ n then ((n : Int) % 128 + 128) :: uintF f (n / 128) else [(n : Int)]
def uintB (n : Nat) : List Int := uintF 10 n
theorem uintF_small {f n : Nat} (h : ¬ 128 ≤ n) : uintF f n = [(n : Int)] := by
  cases f with
  | zero => rfl
  | succ f => unfold uintF; rw [if_neg h]
theorem uintF_len (f n : Nat) : (uintF f n).length ≤ f + 1 := by
  induction f generalizing n with
  | zero => simp [uintF]
  | succ f ih =>
    unfold uintF
    split
    · have := ih (n / 128)
      simp only [List.length_cons]
      omega
    · simp
theorem uintF_ok : ∀ (f n : Nat), n < 2 * 128 ^ f → okB (uintF f n)
  | 0, n, h => by intro x hx; simp [uintF] at hx; subst hx; omega
  | f + 1, n, h => by
    unfold uintF
    split
    · intro x hx
      rcases List.mem_cons.1 hx with rfl | hx
      · omega
      · exact uintF_ok f (n / 128) (by rw [Nat.pow_succ] at h; omega) x hx
    · intro x hx
      simp at hx
      subst hx
      omega
theorem uintB_ok {n : Nat} (h : n < 18446744073709551616) : okB (uintB n) := uintF_ok 10 n (by omega)
theorem uintB_len (n : Nat) : (uintB n).length ≤ 11 := uintF_len 10 n
theorem or_128 (m : Nat) : bits BinOp.or IntKind.u8 ((m : Int) % 256) 128 = (m : Int) % 128 + 128 := by
  have h : ∀ x : Fin 256, bits BinOp.or IntKind.u8 ((x.val : Nat) : Int) 128 = ((x.val % 128 + 128 : Nat) : Int) := by decide +kernel
  have h1 := h ⟨m % 256, Nat.mod_lt _ (by omega)⟩
  simp only at h1
  rw [show ((m % 256 : Nat) : Int) = (m : Int) % 256 by omega] at h1
  rw [h1]
  omega
theorem BB.lit {w : World} {g : Nat} {t : TypeId} {xs : List Int} (n : Nat) (hn : xs.length = n) (h : w.heap[g]? = some (.cells (xs.map (Value.int .u8)).toArray t (0, 0))) (hx : okB xs) (hl : n ≤ 1000) : BB w (.slice (some ⟨g, 0, none⟩) n n) xs := by
  subst hn
  refine ⟨hx, by omega, some ⟨g, 0, none⟩, xs.length, rfl, ⟨rfl, fun _ => ⟨g, 0, rfl, fun j hj => ?_⟩⟩, by simp, Nat.le_refl _, by unfold maxLen; omega⟩
  rw [Nat.zero_add, cell_of_row w g j _ t (0, 0) h]
  simp [List.getD_eq_getElem?_getD, List.getElem?_eq_getElem hj]
theorem BB.one (w : World) (x : Int) (h : 0 ≤ x ∧ x ≤ 255) : BB (w.alloc (.cells #[.int .u8 x] 5)) (.slice (some ⟨w.heap.size, 0, none⟩) 1 1) [x] :=
  BB.lit (xs := [x]) 1 rfl (heap_alloc_last w _) (by intro y hy; simp at hy; subst hy; exact h) (by omega)
theorem grown_alloc {w w' : World} {row : Option Nat} (h : w.grownBy w' row) (o : Obj) : w.grownBy (w'.alloc o) row :=
  ⟨h.os, h.tape, h.output, by have := h.size; simp; omega, fun k hk hne => by rw [heap_alloc_if, if_neg (by have := h.size; omega)]; exact h.block k hk hne⟩
theorem put_any (v : Value) (xs : List Int) (n : Nat) (base : Nat) (w : World) (h : OwB w base v xs) (hx : okB xs) (hl : xs.length ≤ 140737488355000) (hn : n < 18446744073709551616) (hb : base ≤ w.heap.size) :
    Calls Try.prog 36 #[v, .int .u64 n] w fun e w' => ∃ u, e = .returned u ∧ OwB w' base u (xs ++ uintB n) ∧ w.grownBy w' v.ownBlock ∧ (u.ownBlock = v.ownBlock ∨ ∃ j, u.ownBlock = some j ∧ w.heap.size ≤ j) := by
  have H := Lib.hid h
  clear h
  go_enter Try.func36, Try.ntmps36
  go_wp2_with fail
  go_loopw [0, 1] (fun u i wr => ∃ (f m : Nat) (pre : List Int), i = .int .u64 m ∧ m < 2 * 128 ^ f ∧ Hid (OwB wr base u (xs ++ pre)) ∧ Hid (pre ++ uintF f m = uintB n) ∧ Hid (okB pre) ∧ Hid (w.grownBy wr v.ownBlock) ∧ Hid (u.ownBlock = v.ownBlock ∨ ∃ j, u.ownBlock = some j ∧ w.heap.size ≤ j)) (fun _ i _ => (intOf i).toNat)
  case atStart => exact ⟨10, n, [], rfl, by omega, by rw [List.append_nil]; exact H.out, rfl, okB.nil, ⟨rfl, rfl, rfl, Nat.le_refl _, fun _ _ _ => rfl⟩, .inl rfl⟩
  case round =>
    obtain ⟨f, m, pre, rfl, hm, HO, HP, HK, HG, HR⟩ := hrel
    have hz := HG.out.size
    have hpl : pre.length ≤ 11 := by
      have h1 := congrArg List.length HP.out
      have h2 := uintB_len n
      rw [List.length_append] at h1
      omega
    by_cases hge : 128 ≤ m
    · have hb0 := or_128 m
      obtain ⟨f, rfl⟩ : ∃ f', f = f' + 1 := by
        match f, hm with
        | 0, hm => omega
        | f + 1, _ => exact ⟨f, rfl⟩
      have hP2 : (pre ++ [(m : Int) % 128 + 128]) ++ uintF f (m / 128) = uintB n := by
        have h := HP.out
        unfold uintF at h
        rw [if_pos hge] at h
        rw [List.append_assoc]
        exact h
      have HP2 := Lib.hid hP2
      have hm2 : m / 128 < 2 * 128 ^ f := by rw [Nat.pow_succ] at hm; omega
      have HM2 := Lib.hid hm2
      have hgi : (128 : Int) ≤ (m : Int) := by omega
      clear hP2 hm2 hm
      go_wp2_with (at_builtin; refine wpList_appB (base := base) rfl _ _ rfl u0 (.slice (some ⟨wr.heap.size, 0, none⟩) 1 1) (xs ++ pre) [(m : Int) % 128 + 128] rfl ?_ rfl ?_ ?_ ?_ ?_)
      · exact (HO.out.below (w1 := wr.alloc (.cells #[.int .u8 ((m : Int) % 128 + 128)] 5)) (by (repeat' (first | (with_reducible exact Below.refl _ _) | (with_reducible assumption) | (with_reducible refine Below.alloc ?_ ?_ _) | (with_reducible refine below_setRow ?_ ?_ _) | (with_reducible refine bl_drew ?_) | (with_reducible refine bl_drewN ?_ _) | (with_reducible refine Below.setCell ?_ ?_ _) | (with_reducible refine bl_then ?_ ?_ hb) | (with_reducible refine bl_then ?_ ?_ hb1) | (with_reducible refine bl_then ?_ ?_ hb2) | (with_reducible refine bl_then ?_ ?_ hb3) | (with_reducible refine bl_then ?_ ?_ hb4) | (with_reducible refine bl_then ?_ ?_ hb5) | (with_reducible refine bl_then ?_ ?_ hb6) | (with_reducible refine bl_then ?_ ?_ hb7) | (with_reducible refine bl_then ?_ ?_ hb8) | (with_reducible exact Nat.le_refl _) | omega | (simp only [World.size_alloc, World.size_setCell, World.size_drew, size_setRow]; omega) | (simp; omega) | (simp; done)))))
      · exact BB.one wr _ (by omega)
      · first | omega | (simp only [List.length_append, List.length_singleton]; omega) | (simp; omega)
      · first | omega | (simp; omega)
      · intro v' w' h1 h2 h3
        have HO2 := Lib.hid h1
        have HG2 := Lib.hid (grown_new (grown_alloc HG.out (.cells #[.int .u8 ((m : Int) % 128 + 128)] 5)) h2 HR.out)
        have hrow : v'.ownBlock = v.ownBlock ∨ ∃ j, v'.ownBlock = some j ∧ w.heap.size ≤ j := by
          rcases h3 with h3 | h3
          · rw [h3]; exact HR.out
          · exact .inr ⟨_, h3, by first | omega | (simp; omega)⟩
        have HR2 := Lib.hid hrow
        clear h1 h2 h3 hrow
        go_wp2_with fail
        go_roundw
        case rel =>
          refine ⟨f, m / 128, pre ++ [(m : Int) % 128 + 128], ?_, HM2.out, ?_, HP2.out, ?_, HG2.out, HR2.out⟩
          · go_num
          · exact HO2.out
          · refine HK.out.app ?_
            intro x hx
            simp at hx
            subst hx
            omega
        case measure =>
          simp [intOf]
          omega
    · have hP2 : pre ++ [(m : Int)] = uintB n := by rw [← HP.out, uintF_small hge]
      have HP2 := Lib.hid hP2
      have hgi : ¬ (128 : Int) ≤ (m : Int) := by omega
      have hmb : (m : Int) % 256 = (m : Int) := by omega
      clear hP2 hm
      go_wp2_with (at_builtin; refine wpList_appB (base := base) rfl _ _ rfl u0 (.slice (some ⟨wr.heap.size, 0, none⟩) 1 1) (xs ++ pre) [(m : Int)] rfl ?_ rfl ?_ ?_ ?_ ?_)
      · exact (HO.out.below (w1 := wr.alloc (.cells #[.int .u8 (m : Int)] 5)) (by (repeat' (first | (with_reducible exact Below.refl _ _) | (with_reducible assumption) | (with_reducible refine Below.alloc ?_ ?_ _) | (with_reducible refine below_setRow ?_ ?_ _) | (with_reducible refine bl_drew ?_) | (with_reducible refine bl_drewN ?_ _) | (with_reducible refine Below.setCell ?_ ?_ _) | (with_reducible refine bl_then ?_ ?_ hb) | (with_reducible refine bl_then ?_ ?_ hb1) | (with_reducible refine bl_then ?_ ?_ hb2) | (with_reducible refine bl_then ?_ ?_ hb3) | (with_reducible refine bl_then ?_ ?_ hb4) | (with_reducible refine bl_then ?_ ?_ hb5) | (with_reducible refine bl_then ?_ ?_ hb6) | (with_reducible refine bl_then ?_ ?_ hb7) | (with_reducible refine bl_then ?_ ?_ hb8) | (with_reducible exact Nat.le_refl _) | omega | (simp only [World.size_alloc, World.size_setCell, World.size_drew, size_setRow]; omega) | (simp; omega) | (simp; done)))))
      · exact BB.one wr _ (by omega)
      · first | omega | (simp only [List.length_append, List.length_singleton]; omega) | (simp; omega)
      · first | omega | (simp; omega)
      · intro v' w' h1 h2 h3
        have HG2 := Lib.hid (grown_new (grown_alloc HG.out (.cells #[.int .u8 (m : Int)] 5)) h2 HR.out)
        have hrow : v'.ownBlock = v.ownBlock ∨ ∃ j, v'.ownBlock = some j ∧ w.heap.size ≤ j := by
          rcases h3 with h3 | h3
          · rw [h3]; exact HR.out
          · exact .inr ⟨_, h3, by first | omega | (simp; omega)⟩
        have h1' : OwB w' base v' (xs ++ uintB n) := by
          rw [← HP2.out]
          exact h1
        have HO2 := Lib.hid h1'
        have HR2 := Lib.hid hrow
        clear h1 h2 h3 hrow h1'
        go_wp2_with fail
        go_ret
        exact ⟨v', rfl, HO2.out, HG2.out, HR2.out⟩
end Go.Proofs.Ytgkiedbefogklaa
