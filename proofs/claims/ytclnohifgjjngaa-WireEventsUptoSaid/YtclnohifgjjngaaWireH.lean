/- What is proved: what the function that Read hands to caught answers, or how it panics; conditions: those typed. -/
import Derived.Test.YtclnohifgjjngaaWireG
set_option linter.unusedSimpArgs false
set_option linter.unusedVariables false
namespace Go.Proofs.Ytclnohifgjjngaa
open Go.RowKit
set_option maxRecDepth 100000
set_option maxHeartbeats 8000000
/-- What the function leaves behind when all went well. -/
structure ReadW (w : World) (X : Nat) (bs : List Int) (W : World) : Prop where
  inv : Inv w (fun g => g = X) gh0 W
  ok : readE bs = 0
  row : ∃ u, W.heap[X]? = some (.cells (xr bs 4 u) 34 (0, 0)) ∧ OwB W w.heap.size u ((rs bs 5).take (nu bs 4))
def Read1Post (w : World) (X : Nat) (bs : List Int) (e : Ending) (w' : World) : Prop := (e = .returned (.tuple #[]) ∧ ReadW w X bs w') ∨ ∃ er, e = .panicked (panE er) ∧ er = readE bs ∧ er ≠ 0 ∧ Inv w (fun g => g = X) gh0 w'
theorem skips_st {o : Oper} {a : Act} {ty : TypeId} {x y : Operand} {W : World} {g i : Nat} {row row' : Array Value} {t : TypeId} {v : Value} {R : World → Prop} (hs : ∀ W : World, ∀ a : Addr, (W.cell? a).isSome = true → W.frozen? a = false → (Instr.storeAt ty (.pointer (some a)) v).run Try.prog W = .ok () (W.setCell a v))
    (ho : o.op = .store ty x y) (hx : a.eval x = .pointer (some ⟨g, i, none⟩)) (hy : a.eval y = v) (hi : i < row.size) (hr : row.setIfInBounds i v = row') (hW : W.heap[g]? = some (.cells row t (0, 0))) (hR : ∀ W', Only g (.cells row' t (0, 0)) W W' → R W') :
    ∃ W', (execOp a.eval o).run Try.prog W = .ok .skip W' ∧ R W' := by
  obtain ⟨W', h1, h2⟩ := exec_st1 hs ho hx hy hi hr hW
  exact ⟨W', h1, hR W' h2⟩
theorem jr_pan {w W2 w' : World} {B : Nat} {Bv X : Nat} {bs : List Int} {c : List PanicEntry} (hb : Below w.heap.size w W2) (hB : w.heap.size ≤ Bv) (h : DR W2 Bv X bs c w') : Read1Post w X bs (.panicked c) w' := by
  obtain ⟨rfl, h1, h2⟩ := h
  exact .inr ⟨_, rfl, rfl, h1, (Inv.ofBelow hb).then h2 (fun g hg hl => hg.elim (fun e => by omega) (fun e => e))⟩
theorem Inv.ofSet {w : World} {S : Nat → Prop} {g i : Nat} {u : Value} (hS : S g) : Inv w S gh0 (w.setCell ⟨g, i, none⟩ u) where
  os := rfl
  tape := rfl
  output := rfl
  size := by simp
  far k _ hk := heap_setCell_other _ ⟨_, _, _⟩ _ _ (by intro e; subst e; exact hk hS)
  here t g o e := by cases e
  apart t t' g g' o o' e := by cases e
theorem rd_far {W W' : World} {Bv X : Nat} {cs bs : List Int} {j : Nat} (h3 : Rd W Bv cs) (h4 : W.heap[X]? = some (.cells (xr bs j (.slice none 0 0)) 34 (0, 0))) (hX : X ≠ Bv) (hk : ∀ g, g ≠ X → W'.heap[g]? = W.heap[g]?) : Rd W' Bv cs := by
  obtain ⟨v, hv, hb, hne⟩ := h3
  refine ⟨v, (hk Bv (fun e => hX e.symm)).trans hv, hb.keep fun b hn hvb hl => hk b (fun e => ?_), hne⟩
  subst e
  obtain ⟨_, _, A, c, rfl, hr, _⟩ := hb
  obtain ⟨b', off, rfl, hc⟩ := hr.2 hn
  obtain rfl : b' = b := by simpa [Value.ownBlock] using hvb
  have := hc 0 hn
  rw [cell_of_row _ _ _ _ _ _ h4] at this
  match off, this with
  | 0, this => simp [xr] at this
  | 1, this => simp [xr] at this
  | 2, this => simp [xr] at this
  | 3, this => simp [xr] at this
  | 4, this => simp [xr] at this
  | n + 5, this => simp [xr] at this
theorem number_k (Bv : Nat) (bs : List Int) (k : Nat) (w : World) (h : Rd w Bv (rs bs k)) : Calls Try.prog 48 #[.pointer (some ⟨Bv, 0, none⟩)] w fun e w' => (eru bs k = 0 ∧ ∃ nv, nu bs k = nv ∧ e = .returned (.int .u64 nv) ∧ Rd w' Bv (rs bs (k + 1)) ∧ w.grownBy w' (some Bv) ∧ nv < 18446744073709551616) ∨ (eru bs k ≠ 0 ∧ e = .panicked (panE (eru bs k)) ∧ w' = w) := by
  have hl : okB (rs bs k) := by obtain ⟨_, _, hb, _⟩ := h; exact hb.ok
  refine (number_any Bv (rs bs k) w h).mono ?_
  rintro e w' (⟨g1, rfl, g3, g4⟩ | ⟨g1, rfl, rfl⟩)
  · exact .inl ⟨g1, _, rfl, rfl, g3, g4, (readS_good hl g1).2.2.1⟩
  · exact .inr ⟨g1, rfl, rfl⟩
theorem read1_any (B0 X : Nat) (v0 : Value) (bs : List Int) (w : World) (hB : w.heap[B0]? = some (.cells #[v0] 23 (0, 0))) (hv : BB w v0 bs) (hX : w.heap[X]? = some (.cells (xr bs 0 (.slice none 0 0)) 34 (0, 0))) (hBX : B0 ≠ X) :
    Calls Try.prog 34 #[.pointer (some ⟨B0, 0, none⟩), .pointer (some ⟨X, 0, none⟩)] w (Read1Post w X bs) := by
  have hsl : ∃ A n c, v0 = .slice A n c := by obtain ⟨_, _, A, c, h, _⟩ := hv; exact ⟨_, _, _, h⟩
  have HV := Lib.hid hv
  have HB0 := Lib.hid hB
  have HX0 := Lib.hid hX
  have HOV := Lib.hid (over_any v0 w hsl)
  obtain ⟨A0, n0, cp0, hv0⟩ := hsl
  have HV0 := Lib.hid hv0
  subst hv0
  have c0 : w.cell? ⟨B0, 0, none⟩ = some (.slice A0 n0 cp0) := (cell_of_row _ _ _ _ _ _ hB).trans rfl
  have hB0l := lt_of_heap hB
  have hXl := lt_of_heap hX
  obtain ⟨Bv, hBv⟩ : ∃ B, w.heap.size = B := ⟨_, rfl⟩
  rw [hBv] at HOV
  have hz : ∀ w, (zeroValue 69).run Try.prog w = .ok (.agg #[.nilFunc, .nilFunc, .nilFunc]) w := zero_rdr
  clear hB hv hX
  go_enter Try.func34, Try.ntmps34
  go_wp2_with fail
  refine HOV.out.mono ?_
  rintro e w1 ⟨rfl, hb, hBh⟩
  have HBE := Lib.hid hb
  have HBH := Lib.hid hBh
  obtain ⟨Rv, hRv⟩ : ∃ R, w1.heap.size = R := ⟨_, rfl⟩
  have hBRl : Bv < Rv := by rw [← hRv]; exact lt_of_heap hBh
  obtain ⟨Wa, hWa⟩ : ∃ W, w1.alloc (.cells #[.nilFunc, .nilFunc, .nilFunc] 69) = W := ⟨_, rfl⟩
  have HWA : Hid (Wa.heap[Rv]? = some (.cells #[.nilFunc, .nilFunc, .nilFunc] 69 (0, 0))) := Lib.hid (by rw [← hWa, ← hRv]; exact heap_alloc_last _ _)
  have hba : Below w1.heap.size w1 Wa := by rw [← hWa]; exact Below.alloc (Below.refl _ _) (Nat.le_refl _) _
  have HBA := Lib.hid hba
  clear hb hBh hba
  go_wp2_with (with_reducible refine wpList_stB (row := #[fun1 Bv, fun2 Bv, fun3 Bv]) rdrInfo (by simp [Value.oneCell', fun1, fun2, fun3]) rfl (.tmp 2) (.tmp 5) rfl rfl rfl HWA.out rfl ?_)
  obtain ⟨W2, hW2⟩ : ∃ W, Wa.setRow Rv #[fun1 Bv, fun2 Bv, fun3 Bv] = W := ⟨_, rfl⟩
  rw [hW2]
  have HR : Hid (W2.heap[Rv]? = some (.cells #[fun1 Bv, fun2 Bv, fun3 Bv] 69 (0, 0))) := Lib.hid (by rw [← hW2]; exact setRow_heap _ _ _ _ _ _ HWA.out)
  have hk2 : ∀ g, g < w1.heap.size → W2.heap[g]? = w1.heap[g]? := fun g hg => by rw [← hW2]; exact (setRow_other _ _ _ _ (by omega)).trans (HBA.out.block g hg)
  have HB2 : Hid (Below w1.heap.size w1 W2) := Lib.hid (by rw [← hW2]; exact below_setRow HBA.out (by omega) _)
  have HBW : Hid (Below w.heap.size w W2) := Lib.hid (by rw [hBv]; exact bl_then HBE.out (by have := HBE.out.size; omega) HB2.out)
  have HJ0 : Hid (JR W2 Bv X bs 0 W2) := Lib.hid ⟨fun j hj => by omega, Inv.ofBelow (Below.refl _ _), ⟨_, (hk2 Bv (by omega)).trans HBH.out, HV.out.below HBW.out, fun hn b e => by have := HV.out.lt hn e; omega⟩, (HBW.out.block X hXl).trans HX0.out⟩
  have hXB : X ≠ Bv := by omega
  have HBl2 : Hid (Bv < W2.heap.size ∧ Rv < W2.heap.size ∧ X < W2.heap.size) := Lib.hid ⟨by have := HB2.out.size; omega, lt_of_heap HR.out, by have := HBW.out.size; omega⟩
  clear hk2 hW2 hWa
  apply wp_region_pan (DR W2 Bv X bs) (fun c a W ha h => ?pan) rfl (StK (JR W2 Bv X bs)) (fun _ => gk 0) ((stK rfl).2 ?start) (hm := by kernel_rfl)
  case start =>
    obtain ⟨h1, h2, h3, h4⟩ := HJ0.out
    exact ⟨h1, Inv.ofBelow (Below.drew (Below.refl _ _)), h3.below (Below.drew (Below.refl _ _)), h4⟩
  case pan => exact ⟨ha, jr_pan (B := 0) HBW.out (by omega) h⟩
  case h =>
    (apply SeqG.pure; (focus (first | rfl | (go_simp; done) | (simp [Region.wanted, yielded]; done))); (focus (intro w; go_simp; with_reducible rfl)); go_simp)
    apply SeqG.read (v := fun1 Bv) []
    · (first | rfl | (go_simp; done) | (simp [Region.wanted, yielded]; done))
    · intro γ' W hg hI
      have hI2 : ∃ k, JR W2 Bv X bs k W := by
        unfold StK at hI
        split at hI
        · exact ⟨_, hI⟩
        · exact hI.elim
      obtain ⟨k, hj⟩ := hI2
      have x0 : W.cell? ⟨Rv, 0, none⟩ = some (fun1 Bv) := (cell_same (hj.2.1.far Rv HBl2.out.2.1 (by omega))).trans ((cell_of_row _ _ _ _ _ _ HR.out).trans rfl)
      unfold fun1 at x0 ⊢
      go_simp
    go_simp
    apply SeqG.callP (v := .int .u64 (nu bs 0)) [0] (some 0) (gk 1) 48 #[.pointer (some ⟨Bv, 0, none⟩)]
    · (first | rfl | (go_simp; done) | (simp [Region.wanted, yielded]; done))
    · intro w; kernel_rfl
    · intro γ' W hg hI
      have hj := (stK (n := 0) (hg 0 (by simp))).1 hI
      refine (jr_number (by omega) hXB HBl2.out.1 hj).mono ?_
      rintro e w' (⟨rfl, h1⟩ | h1)
      · exact .inl ⟨rfl, (stK (Gh.set_here _ _ _)).2 h1⟩
      · exact .inr h1
    go_simp
    (apply SeqG.pure; (focus (first | rfl | (go_simp; done) | (simp [Region.wanted, yielded]; done))); (focus (intro w; go_simp; with_reducible rfl)); go_simp)
    apply SeqG.read (v := fun1 Bv) []
    · (first | rfl | (go_simp; done) | (simp [Region.wanted, yielded]; done))
    · intro γ' W hg hI
      have hI2 : ∃ k, JR W2 Bv X bs k W := by
        unfold StK at hI
        split at hI
        · exact ⟨_, hI⟩
        · exact hI.elim
      obtain ⟨k, hj⟩ := hI2
      have x0 : W.cell? ⟨Rv, 0, none⟩ = some (fun1 Bv) := (cell_same (hj.2.1.far Rv HBl2.out.2.1 (by omega))).trans ((cell_of_row _ _ _ _ _ _ HR.out).trans rfl)
      unfold fun1 at x0 ⊢
      go_simp
    go_simp
    apply SeqG.callP (v := .int .u64 (nu bs 1)) [0] (some 0) (gk 2) 48 #[.pointer (some ⟨Bv, 0, none⟩)]
    · (first | rfl | (go_simp; done) | (simp [Region.wanted, yielded]; done))
    · intro w; kernel_rfl
    · intro γ' W hg hI
      have hj := (stK (n := 1) (hg 0 (by simp))).1 hI
      refine (jr_number (by omega) hXB HBl2.out.1 hj).mono ?_
      rintro e w' (⟨rfl, h1⟩ | h1)
      · exact .inl ⟨rfl, (stK (Gh.set_here _ _ _)).2 h1⟩
      · exact .inr h1
    go_simp
    (apply SeqG.pure; (focus (first | rfl | (go_simp; done) | (simp [Region.wanted, yielded]; done))); (focus (intro w; go_simp; with_reducible rfl)); go_simp)
    apply SeqG.read (v := fun1 Bv) []
    · (first | rfl | (go_simp; done) | (simp [Region.wanted, yielded]; done))
    · intro γ' W hg hI
      have hI2 : ∃ k, JR W2 Bv X bs k W := by
        unfold StK at hI
        split at hI
        · exact ⟨_, hI⟩
        · exact hI.elim
      obtain ⟨k, hj⟩ := hI2
      have x0 : W.cell? ⟨Rv, 0, none⟩ = some (fun1 Bv) := (cell_same (hj.2.1.far Rv HBl2.out.2.1 (by omega))).trans ((cell_of_row _ _ _ _ _ _ HR.out).trans rfl)
      unfold fun1 at x0 ⊢
      go_simp
    go_simp
    apply SeqG.callP (v := .int .u64 (nu bs 2)) [0] (some 0) (gk 3) 48 #[.pointer (some ⟨Bv, 0, none⟩)]
    · (first | rfl | (go_simp; done) | (simp [Region.wanted, yielded]; done))
    · intro w; kernel_rfl
    · intro γ' W hg hI
      have hj := (stK (n := 2) (hg 0 (by simp))).1 hI
      refine (jr_number (by omega) hXB HBl2.out.1 hj).mono ?_
      rintro e w' (⟨rfl, h1⟩ | h1)
      · exact .inl ⟨rfl, (stK (Gh.set_here _ _ _)).2 h1⟩
      · exact .inr h1
    go_simp
    (apply SeqG.pure; (focus (first | rfl | (go_simp; done) | (simp [Region.wanted, yielded]; done))); (focus (intro w; go_simp; with_reducible rfl)); go_simp)
    apply SeqG.read (v := fun1 Bv) []
    · (first | rfl | (go_simp; done) | (simp [Region.wanted, yielded]; done))
    · intro γ' W hg hI
      have hI2 : ∃ k, JR W2 Bv X bs k W := by
        unfold StK at hI
        split at hI
        · exact ⟨_, hI⟩
        · exact hI.elim
      obtain ⟨k, hj⟩ := hI2
      have x0 : W.cell? ⟨Rv, 0, none⟩ = some (fun1 Bv) := (cell_same (hj.2.1.far Rv HBl2.out.2.1 (by omega))).trans ((cell_of_row _ _ _ _ _ _ HR.out).trans rfl)
      unfold fun1 at x0 ⊢
      go_simp
    go_simp
    apply SeqG.callP (v := .int .u64 (nu bs 3)) [0] (some 0) (gk 4) 48 #[.pointer (some ⟨Bv, 0, none⟩)]
    · (first | rfl | (go_simp; done) | (simp [Region.wanted, yielded]; done))
    · intro w; kernel_rfl
    · intro γ' W hg hI
      have hj := (stK (n := 3) (hg 0 (by simp))).1 hI
      refine (jr_number (by omega) hXB HBl2.out.1 hj).mono ?_
      rintro e w' (⟨rfl, h1⟩ | h1)
      · exact .inl ⟨rfl, (stK (Gh.set_here _ _ _)).2 h1⟩
      · exact .inr h1
    go_simp
    (apply SeqG.pure; (focus (first | rfl | (go_simp; done) | (simp [Region.wanted, yielded]; done))); (focus (intro w; go_simp; with_reducible rfl)); go_simp)
    apply SeqG.skips [0] (some 0) (gk 5)
    · (first | rfl | (go_simp; done) | (simp [Region.wanted, yielded]; done))
    · intro γ' W hg hI
      have hj := (stK (n := 4) (hg 0 (by simp))).1 hI
      exact skips_st (i := 0) (st_u64 (nu bs 0 : Nat)) rfl rfl rfl (by simp [xr]) (row' := xr bs (5 - 4) (.slice none 0 0)) (by simp [xr]) hj.2.2.2 (fun W' ho => (stK (Gh.set_here _ _ _)).2 (jr_store (by omega) hXB hj ho))
    go_simp
    (apply SeqG.pure; (focus (first | rfl | (go_simp; done) | (simp [Region.wanted, yielded]; done))); (focus (intro w; go_simp; with_reducible rfl)); go_simp)
    apply SeqG.skips [0] (some 0) (gk 6)
    · (first | rfl | (go_simp; done) | (simp [Region.wanted, yielded]; done))
    · intro γ' W hg hI
      have hj := (stK (n := 5) (hg 0 (by simp))).1 hI
      exact skips_st (i := 1) (st_u64 (nu bs 1 : Nat)) rfl rfl rfl (by simp [xr]) (row' := xr bs (6 - 4) (.slice none 0 0)) (by simp [xr]) hj.2.2.2 (fun W' ho => (stK (Gh.set_here _ _ _)).2 (jr_store (by omega) hXB hj ho))
    go_simp
    (apply SeqG.pure; (focus (first | rfl | (go_simp; done) | (simp [Region.wanted, yielded]; done))); (focus (intro w; go_simp; with_reducible rfl)); go_simp)
    apply SeqG.skips [0] (some 0) (gk 7)
    · (first | rfl | (go_simp; done) | (simp [Region.wanted, yielded]; done))
    · intro γ' W hg hI
      have hj := (stK (n := 6) (hg 0 (by simp))).1 hI
      exact skips_st (i := 2) (st_u64 (nu bs 2 : Nat)) rfl rfl rfl (by simp [xr]) (row' := xr bs (7 - 4) (.slice none 0 0)) (by simp [xr]) hj.2.2.2 (fun W' ho => (stK (Gh.set_here _ _ _)).2 (jr_store (by omega) hXB hj ho))
    go_simp
    (apply SeqG.pure; (focus (first | rfl | (go_simp; done) | (simp [Region.wanted, yielded]; done))); (focus (intro w; go_simp; with_reducible rfl)); go_simp)
    apply SeqG.skips [0] (some 0) (gk 8)
    · (first | rfl | (go_simp; done) | (simp [Region.wanted, yielded]; done))
    · intro γ' W hg hI
      have hj := (stK (n := 7) (hg 0 (by simp))).1 hI
      exact skips_st (i := 3) (st_u64 (nu bs 3 : Nat)) rfl rfl rfl (by simp [xr]) (row' := xr bs (8 - 4) (.slice none 0 0)) (by simp [xr]) hj.2.2.2 (fun W' ho => (stK (Gh.set_here _ _ _)).2 (jr_store (by omega) hXB hj ho))
    go_simp
    apply SeqG.done
    intro w9 hI9
    have HJ9 := Lib.hid ((stK (n := 8) (Gh.set_here _ _ _)).1 hI9)
    clear hI9
    have HRF : Hid (∀ W, Inv W2 (fun g => g = Bv ∨ g = X) gh0 W → W.heap[Rv]? = some (.cells #[fun1 Bv, fun2 Bv, fun3 Bv] 69 (0, 0)) ∧ Rv < W.heap.size ∧ X < W.heap.size) := Lib.hid (fun W h => ⟨(h.far Rv HBl2.out.2.1 (by omega)).trans HR.out, by have := h.size; have := HBl2.out; omega, by have := h.size; have := HBl2.out; omega⟩)
    obtain ⟨hR9, hRl9, hXl9⟩ := HRF.out w9 HJ9.out.2.1
    have z0 : w9.cell? ⟨Rv, 0, none⟩ = some (.func (.func 48) #[] #[.pointer (some ⟨Bv, 0, none⟩)]) := (cell_of_row _ _ _ _ _ _ hR9).trans rfl
    have HOK4 : Hid (∀ j, j < 4 → eru bs j = 0) := Lib.hid (fun j hj => HJ9.out.1 j (by omega))
    clear hR9
    go_simp
    go_wp2_with fail
    refine (number_k Bv bs 4 w9 HJ9.out.2.2.1).mono ?_
    rintro e wA (⟨g1, nv, g5, rfl, g3, g4, hnv64⟩ | ⟨g1, rfl, rfl⟩)
    · have HOK5 : Hid (∀ j, j < 5 → eru bs j = 0) := Lib.hid (fun j hj => by
        rcases (by omega : j < 4 ∨ j = 4) with h | rfl
        · exact HOK4.out j h
        · exact g1)
      have HNV : Hid (nu bs 4 = nv) := Lib.hid g5
      have hIA : Inv W2 (fun g => g = Bv ∨ g = X) gh0 wA := HJ9.out.2.1.then (Inv.ofGrown (S := fun g => g = Bv ∨ g = X) g4 (fun g hg => .inl (Option.some.inj hg).symm)) (fun g hg _ => hg)
      have HIA := Lib.hid hIA
      have HRA : Hid (Rd wA Bv (rs bs 5)) := Lib.hid g3
      have HXA : Hid (wA.heap[X]? = some (.cells (xr bs 4 (.slice none 0 0)) 34 (0, 0))) := Lib.hid ((g4.block X hXl9 (fun e => hXB (Option.some.inj e))).trans HJ9.out.2.2.2)
      obtain ⟨hRA, hRlA, hXlA⟩ := HRF.out wA hIA
      have z1 : wA.cell? ⟨Rv, 1, none⟩ = some (.func (.func 49) #[] #[.pointer (some ⟨Bv, 0, none⟩)]) := (cell_of_row _ _ _ _ _ _ hRA).trans rfl
      clear g1 g3 g4 g5 hIA hRA z0 HJ9
      by_cases hn : nv ≤ 65536
      · have hni : (nv : Int) ≤ 65536 := by omega
        go_wp2_with fail
        refine (need_ok 8 wA).mono ?_
        rintro e wB ⟨rfl, hwB⟩
        subst wB
        go_wp2_with fail
        refine (bytes_any Bv nv (rs bs 5) wA HRA.out hnv64).mono ?_
        rintro e wB (⟨g1, u, rfl, g2, g3, g4⟩ | ⟨g1, rfl, rfl⟩)
        · have HIB := Lib.hid (HIA.out.then (Inv.ofGrown (S := fun g => g = Bv ∨ g = X) g4 (fun g hg => .inl (Option.some.inj hg).symm)) (fun g hg _ => hg))
          have HXB : Hid (wB.heap[X]? = some (.cells (xr bs 4 (.slice none 0 0)) 34 (0, 0))) := Lib.hid ((g4.block X hXlA (fun e => hXB (Option.some.inj e))).trans HXA.out)
          have HRB := Lib.hid g3
          have HOU := Lib.hid g2
          have HLE : Hid (wA.heap.size ≤ wB.heap.size ∧ nv ≤ (rs bs 5).length) := Lib.hid ⟨g4.size, g1⟩
          have c4 : wB.cell? ⟨X, 4, none⟩ = some (.slice none 0 0) := (cell_of_row _ _ _ _ _ _ HXB.out).trans rfl
          have hf4 : wB.frozen? ⟨X, 4, none⟩ = false := frozen_of_row wB X 4 _ _ HXB.out
          have hXlB := lt_of_heap HXB.out
          obtain ⟨A9, c9, hu⟩ : ∃ A c, u = .slice A ((rs bs 5).take nv).length c := by
            obtain ⟨_, ⟨h1, h2⟩ | ⟨g, cap, cur, h1, _⟩⟩ := g2
            · exact ⟨none, 0, by rw [h1, h2]⟩
            · exact ⟨_, _, h1⟩
          obtain ⟨n9, hn9⟩ : ∃ n, ((rs bs 5).take nv).length = n := ⟨_, rfl⟩
          rw [hn9] at hu
          subst hu
          obtain ⟨wC, hwC⟩ : ∃ W, wB.setCell ⟨X, 4, none⟩ (.slice A9 n9 c9) = W := ⟨_, rfl⟩
          have HXC : Hid (wC.heap[X]? = some (.cells (xr bs 4 (.slice A9 n9 c9)) 34 (0, 0))) := Lib.hid (by rw [← hwC]; exact heap_setCell_same _ _ _ _ _ _ HXB.out)
          have hkC : ∀ g, g ≠ X → wC.heap[g]? = wB.heap[g]? := fun g hg => by rw [← hwC]; exact heap_setCell_other _ ⟨_, _, _⟩ _ _ (by simpa using hg)
          have HRC : Hid (Rd wC Bv ((rs bs 5).drop nv)) := Lib.hid (rd_far HRB.out HXB.out hXB hkC)
          have HIC : Hid (Inv W2 (fun g => g = Bv ∨ g = X) gh0 wC) := Lib.hid (by rw [← hwC]; exact HIB.out.then (Inv.ofSet (S := fun g => g = Bv ∨ g = X) (.inr rfl)) (fun g hg _ => hg))
          have HOC : Hid (OwB wC w.heap.size (.slice A9 n9 c9) ((rs bs 5).take (nu bs 4))) := Lib.hid (by
            rw [HNV.out]
            refine (HOU.out.keep fun q hq hl => hkC q (fun e => ?_)).mono ?_
            · have := (World.ownsRow.lt HOU.out q hq).1
              omega
            · have := HBW.out.size; have := HIA.out.size; omega)
          have hRlC : Rv < wC.heap.size := by have := HIC.out.size; have := HBl2.out; omega
          have z2 : wC.cell? ⟨Rv, 2, none⟩ = some (.func (.func 51) #[] #[.pointer (some ⟨Bv, 0, none⟩)]) := (cell_of_row _ _ _ _ _ _ (HRF.out wC HIC.out).1).trans rfl
          clear g1 g2 g3 g4 hn9 hkC z1
          go_wp2_with fail
          refine (end_any Bv _ wC HRC.out).mono ?_
          rintro e wD (⟨g1, rfl, rfl⟩ | ⟨g1, rfl, rfl⟩)
          · have HP : Hid (Read1Post w X bs (.returned (.tuple #[])) wD) := Lib.hid (.inl ⟨rfl, (Inv.ofBelow HBW.out).then HIC.out (fun g hg hl => hg.elim (fun e => by omega) (fun e => e)), by
              rw [readE_rest HOK5.out, HNV.out, if_neg (by omega), if_neg (by have := HLE.out; omega), if_neg (by simp [g1])], _, HXC.out, HOC.out⟩)
            clear g1
            go_wp2_with fail
            exact bodyPost_end (v := .tuple #[]) (results_none rfl _ _ _) rfl HP.out
          · have HP : Hid (Read1Post w X bs (.panicked (panE 8)) wD) := Lib.hid (by
              have e8 : readE bs = 8 := by rw [readE_rest HOK5.out, HNV.out, if_neg (by omega), if_neg (by have := HLE.out; omega), if_pos g1]
              exact jr_pan (B := 0) HBW.out (by omega) ⟨by rw [e8], by omega, HIC.out⟩)
            clear g1
            go_wp2_with fail
            exact ⟨rfl, HP.out⟩
        · have HP : Hid (Read1Post w X bs (.panicked (panE 7)) wB) := Lib.hid (by
            have e7 : readE bs = 7 := by rw [readE_rest HOK5.out, HNV.out, if_neg (by omega), if_pos g1]
            exact jr_pan (B := 0) HBW.out (by omega) ⟨by rw [e7], by omega, HIA.out⟩)
          clear g1
          go_wp2_with fail
          exact ⟨rfl, HP.out⟩
      · have hni : ¬ (nv : Int) ≤ 65536 := by omega
        have hnd : decide ((nv : Int) ≤ 65536) = false := decide_eq_false hni
        have HP : Hid (Read1Post w X bs (.panicked (panE 8)) wA) := Lib.hid (by
          have e8 : readE bs = 8 := by rw [readE_rest HOK5.out, HNV.out, if_pos (by omega)]
          exact jr_pan (B := 0) HBW.out (by omega) ⟨by rw [e8], by omega, HIA.out⟩)
        go_wp2_with fail
        refine (need_no 8 wA).mono ?_
        rintro e wB ⟨rfl, hwB⟩
        subst wB
        go_wp2_with fail
        exact ⟨rfl, HP.out⟩
    · have HP : Hid (Read1Post w X bs (.panicked (panE (eru bs 4))) wA) := Lib.hid (jr_pan (B := 0) HBW.out (by omega) ⟨by rw [readE_num (by omega) HOK4.out g1], by rw [readE_num (by omega) HOK4.out g1]; exact g1, HJ9.out.2.1⟩)
      go_wp2_with fail
      exact ⟨rfl, HP.out⟩
  case hl => rfl
  case ho => kernel_rfl
end Go.Proofs.Ytclnohifgjjngaa
