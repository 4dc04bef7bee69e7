/- What is proved: what Copy of events, of both packages, answers; conditions: those typed. -/
import Derived.Test.YtgkiedbefogklaaEvB
set_option linter.unusedSimpArgs false
set_option linter.unusedVariables false
namespace Go.Proofs.Ytgkiedbefogklaa
open Go.RowKit
set_option maxRecDepth 100000
set_option maxHeartbeats 8000000
theorem sclone_bytes (u : Value) (xs : List Int) (w : World) (h : BB w u xs) :
    Calls Try.prog 43 #[u] w fun e w' => (∃ v, e = .returned v ∧ OwB w' w.heap.size v xs) ∧ Below w.heap.size w w' := by
  have H := Lib.hid h
  obtain ⟨h1, h2, A, cap, rfl, hr, h3, h4, h5⟩ := h
  rcases A with _ | ad
  · obtain rfl := h3 rfl
    have hx : xs = [] := List.eq_nil_of_length_eq_zero (by omega)
    subst hx
    have g1 : (eqGuard .eql 24 (.tmp 3) (.const (.slice none 0 0)) (.slice none 0 0) (.slice none 0 0)).run Try.prog w = .ok () w := by kernel_rfl
    have g2 : (binOp .eql 24 (.slice none 0 0) (.slice none 0 0)).run Try.prog w = .ok (.bool true) w := by kernel_rfl
    go_enter Try.func43, Try.ntmps43
    go_wp2_with fail
    go_ret
    exact ⟨⟨_, rfl, OwB.nil _ _⟩, Below.refl _ _⟩
  · clear hr h3
    have g1 : (eqGuard .eql 24 (.tmp 3) (.const (.slice none 0 0)) (.slice (some ad) xs.length cap) (.slice none 0 0)).run Try.prog w = .ok () w := by kernel_rfl
    have g2 : (binOp .eql 24 (.slice (some ad) xs.length cap) (.slice none 0 0)).run Try.prog w = .ok (.bool false) w := by kernel_rfl
    go_enter Try.func43, Try.ntmps43
    go_wp2_with (at_builtin; refine wpList_appB (base := w.heap.size) rfl _ _ rfl (.slice (some ⟨w.heap.size, 0, none⟩) 0 0) (.slice (some ad) xs.length cap) [] xs rfl ?_ rfl ?_ ?_ ?_ ?_)
    · exact OwB.made w
    · exact H.out.below (by (repeat' (first | (with_reducible exact Below.refl _ _) | (with_reducible assumption) | (with_reducible refine Below.alloc ?_ ?_ _) | (with_reducible refine below_setRow ?_ ?_ _) | (with_reducible refine bl_drew ?_) | (with_reducible refine bl_drewN ?_ _) | (with_reducible refine Below.setCell ?_ ?_ _) | (with_reducible refine bl_then ?_ ?_ hb) | (with_reducible refine bl_then ?_ ?_ hb1) | (with_reducible refine bl_then ?_ ?_ hb2) | (with_reducible refine bl_then ?_ ?_ hb3) | (with_reducible refine bl_then ?_ ?_ hb4) | (with_reducible refine bl_then ?_ ?_ hb5) | (with_reducible refine bl_then ?_ ?_ hb6) | (with_reducible refine bl_then ?_ ?_ hb7) | (with_reducible refine bl_then ?_ ?_ hb8) | (with_reducible exact Nat.le_refl _) | omega | (simp only [World.size_alloc, World.size_setCell, World.size_drew, size_setRow]; omega) | (simp; omega) | (simp; done))))
    · simpa using H.out.len
    · simp
    · intro v' w' h1 h2 _
      go_wp2
      go_ret
      exact ⟨⟨_, rfl, by simpa using h1⟩, Below.grown (w := w.alloc _) (by (repeat' (first | (with_reducible exact Below.refl _ _) | (with_reducible assumption) | (with_reducible refine Below.alloc ?_ ?_ _) | (with_reducible refine below_setRow ?_ ?_ _) | (with_reducible refine bl_drew ?_) | (with_reducible refine bl_drewN ?_ _) | (with_reducible refine Below.setCell ?_ ?_ _) | (with_reducible refine bl_then ?_ ?_ hb) | (with_reducible refine bl_then ?_ ?_ hb1) | (with_reducible refine bl_then ?_ ?_ hb2) | (with_reducible refine bl_then ?_ ?_ hb3) | (with_reducible refine bl_then ?_ ?_ hb4) | (with_reducible refine bl_then ?_ ?_ hb5) | (with_reducible refine bl_then ?_ ?_ hb6) | (with_reducible refine bl_then ?_ ?_ hb7) | (with_reducible refine bl_then ?_ ?_ hb8) | (with_reducible exact Nat.le_refl _) | omega | (simp only [World.size_alloc, World.size_setCell, World.size_drew, size_setRow]; omega) | (simp; omega) | (simp; done)))) h2 (by simp) (by simp [Value.ownBlock])⟩
theorem copy1_any (e : Event) (u : Value) (w : World) (hu : BB w u e.bs) : Calls Try.prog 42 #[.agg (erow ⟨e, u⟩)] w fun r w' => (∃ v, r = .returned (.agg (erow ⟨e, v⟩)) ∧ OwB w' w.heap.size v e.bs) ∧ Below w.heap.size w w' := by
  have hz : ∀ w, (zeroValue 48).run Try.prog w = .ok (.agg #[.int .u8 0, .slice none 0 0, .int .i64 0, .int .i64 0, .int .u8 0]) w := zero_ev2
  obtain ⟨k, bs, c, rr, a⟩ := e
  unfold erow
  dsimp only at hu ⊢
  obtain ⟨A, n, cp, rfl⟩ : ∃ A n c, u = .slice A n c := by obtain ⟨_, _, A, c, h, _⟩ := hu; exact ⟨_, _, _, h⟩
  obtain ⟨B, hB⟩ : ∃ B, w.heap.size = B := ⟨_, rfl⟩
  obtain ⟨Wa, hWa⟩ : ∃ W, w.alloc (.cells #[.int .u8 k, .slice A n cp, .int .i64 c, .int .i64 rr, .int .u8 a] 48) = W := ⟨_, rfl⟩
  have hXa : Wa.heap.size = B + 1 := by rw [← hWa, ← hB]; simp
  obtain ⟨V, hV⟩ : ∃ W, Wa.alloc (.cells #[.int .u8 0, .slice none 0 0, .int .i64 0, .int .i64 0, .int .u8 0] 48) = W := ⟨_, rfl⟩
  have hXV : V.heap.size = B + 2 := by rw [← hV]; simp [hXa]
  have h0 : Below w.heap.size w Wa := by rw [← hWa]; exact Below.alloc (Below.refl _ _) (Nat.le_refl _) _
  have h1 : Below w.heap.size w V := by rw [← hV]; exact Below.alloc h0 h0.size _
  have HBV := Lib.hid h1
  have HC := Lib.hid (sclone_bytes _ bs V (hu.below h1))
  have HROW : Hid (V.heap[B]? = some (.cells #[.int .u8 k, .slice A n cp, .int .i64 c, .int .i64 rr, .int .u8 a] 48 (0, 0))) := Lib.hid (by rw [← hV, heap_alloc_old _ _ (by omega), ← hWa, ← hB]; exact heap_alloc_last _ _)
  have HRES : Hid (V.heap[B + 1]? = some (.cells #[.int .u8 0, .slice none 0 0, .int .i64 0, .int .i64 0, .int .u8 0] 48 (0, 0))) := Lib.hid (by rw [← hV, ← hXa]; exact heap_alloc_last _ _)
  have v1 : V.cell? ⟨B, 1, none⟩ = some (.slice A n cp) := (cell_of_row _ _ _ _ _ _ HROW.out).trans rfl
  have hBl : B < V.heap.size := by omega
  clear h0 h1 hu
  go_enter Try.func42, Try.ntmps42
  go_wp2_with fail
  refine HC.out.mono ?_
  rintro e w1 ⟨⟨v, rfl, ho⟩, hb⟩
  obtain ⟨VA, VN, VC, rfl⟩ := ho.form
  have HB1 := Lib.hid (bl_then HBV.out HBV.out.size hb)
  have HROW1 : Hid (w1.heap[B]? = some (.cells #[.int .u8 k, .slice A n cp, .int .i64 c, .int .i64 rr, .int .u8 a] 48 (0, 0))) := Lib.hid ((hb.block B hBl).trans HROW.out)
  have HRES1 : Hid (w1.heap[B + 1]? = some (.cells #[.int .u8 0, .slice none 0 0, .int .i64 0, .int .i64 0, .int .u8 0] 48 (0, 0))) := Lib.hid ((hb.block (B + 1) (by omega)).trans HRES.out)
  have HO1 := Lib.hid ho
  have x1 : w1.cell? ⟨B, 1, none⟩ = some (.slice A n cp) := (cell_of_row _ _ _ _ _ _ HROW1.out).trans rfl
  have xf1 : w1.frozen? ⟨B, 1, none⟩ = false := frozen_of_row w1 B 1 _ _ HROW1.out
  have xl := lt_of_heap HROW1.out
  obtain ⟨w2, hw2⟩ : ∃ W, w1.setCell ⟨B, 1, none⟩ (.slice VA VN VC) = W := ⟨_, rfl⟩
  have HROW2 : Hid (w2.heap[B]? = some (.cells #[.int .u8 k, .slice VA VN VC, .int .i64 c, .int .i64 rr, .int .u8 a] 48 (0, 0))) := Lib.hid (by rw [← hw2]; exact heap_setCell_same _ _ _ _ _ _ HROW1.out)
  have hk2 : ∀ g, g ≠ B → w2.heap[g]? = w1.heap[g]? := fun g hg => by rw [← hw2]; exact heap_setCell_other _ ⟨_, _, _⟩ _ _ hg
  have HRES2 : Hid (w2.heap[B + 1]? = some (.cells #[.int .u8 0, .slice none 0 0, .int .i64 0, .int .i64 0, .int .u8 0] 48 (0, 0))) := Lib.hid ((hk2 _ (by omega)).trans HRES1.out)
  have HO2 : Hid (OwB w2 V.heap.size (.slice VA VN VC) bs) := Lib.hid (HO1.out.keep fun q hq hl => hk2 q (by have := (own_typed HO1.out hq).1; omega))
  have HB2 : Hid (Below w.heap.size w w2) := Lib.hid (by rw [← hw2]; exact HB1.out.setCell (by show w.heap.size ≤ B; omega) _)
  clear ho hb HC hk2
  go_wp2_with (first | (with_reducible refine wpList_ldB (row := #[.int .u8 k, .slice VA VN VC, .int .i64 c, .int .i64 rr, .int .u8 a]) evInfo evRow rfl (.tmp 1) rfl rfl HROW2.out ?_) | (with_reducible refine wpList_stB (row := #[.int .u8 k, .slice VA VN VC, .int .i64 c, .int .i64 rr, .int .u8 a]) evInfo (by simp [Value.oneCell']) rfl (.tmp 2) (.tmp 7) rfl rfl rfl HRES2.out rfl ?_))
  refine bodyPost_ret (v := .agg #[.int .u8 k, .slice VA VN VC, .int .i64 c, .int .i64 rr, .int .u8 a]) ?_ rfl ⟨⟨.slice VA VN VC, rfl, ?_⟩, ?_⟩
  · exact results_blk (fn := Try.f42) Try.results42 rfl (run_loadVar_blk evInfo evRow (setRow_heap _ _ _ _ _ _ HRES2.out))
  · first
      | exact (HO2.out.keep fun q hq hl => setRow_other _ _ _ _ (by have := (own_typed HO2.out hq).1; omega)).mono (by omega)
  · have := below_setRow HB2.out (show w.heap.size ≤ B + 1 by omega) #[.int .u8 k, .slice VA VN VC, .int .i64 c, .int .i64 rr, .int .u8 a]
    first | exact this | (rw [hB] at this; exact this)
theorem evcopy_any (E : List Event) (v : Value) (w : World) (h : EvL w v E) (hE : E.length ≤ 2513169434916) : Calls Try.prog 25 #[v] w fun e w' => (∃ L P, e = .returned L ∧ OwE w' w.heap.size L P ∧ P.map HE.e = E) ∧ Below w.heap.size w w' := by
  have hz : ∀ w, (zeroValue 48).run Try.prog w = .ok (.agg #[.int .u8 0, .slice none 0 0, .int .i64 0, .int .i64 0, .int .u8 0]) w := zero_ev2
  obtain ⟨hlen, A, cap, rfl, hnc, hlc, hcm, hi⟩ := h
  have HI := Lib.hid hi
  obtain ⟨n, hn⟩ : ∃ n, E.length = n := ⟨_, rfl⟩
  have HN := Lib.hid hn
  rw [hn] at HI hlen hlc hE ⊢
  clear hi hn
  go_enter Try.func25, Try.ntmps25
  go_wp2_with fail
  go_loopw [4, 9] (fun L i wr => ∃ (k : Nat) (P : List HE), k ≤ n ∧ i = .int .i64 k ∧ P.length = k ∧ Hid (OwE wr w.heap.size L P) ∧ Hid (P.map HE.e = E.take k) ∧ Hid (Below w.heap.size w wr)) (fun _ i _ => n - (intOf i).toNat)
  case atStart => exact ⟨0, [], Nat.zero_le _, rfl, rfl, Lib.hid (OwE.nil _ _), Lib.hid (by simp), Lib.hid (Below.refl _ _)⟩
  case round =>
    obtain ⟨k, P, hk, rfl, hPl, HO, HM, HB⟩ := hrel
    obtain ⟨LA, LN, LC, hL⟩ : ∃ A n c, u4 = .slice A n c := by obtain ⟨A, c, h⟩ := HO.out.form; exact ⟨_, _, _, h⟩
    subst hL
    by_cases hlt : k < n
    · have hki : (k : Int) < (n : Int) := by omega
      have hk0 : (0 : Int) ≤ (k : Int) := by omega
      obtain ⟨b, off, rfl, hec⟩ := HI.out k hlt
      have hb0 : b < w.heap.size := by obtain ⟨u, q0, _⟩ := hec; exact block_lt_of_cell q0
      obtain ⟨x, hx, hok, hr⟩ := run_load_ev hec
      have hmem : E.take (k + 1) = E.take k ++ [E.getD k zE] := by
        rw [List.take_add_one, List.getElem?_eq_getElem (by rw [HN.out]; exact hlt), List.getD_eq_getElem?_getD, List.getElem?_eq_getElem (by rw [HN.out]; exact hlt)]
        rfl
      obtain ⟨e, he⟩ : ∃ e, E.getD k zE = e := ⟨_, rfl⟩
      rw [he] at hx hok hr hmem
      have HMEM := Lib.hid hmem
      have HOK := Lib.hid hok
      have HX := Lib.hid hx
      obtain ⟨ek, eb, ec, er, ea⟩ := e
      obtain ⟨XA, XN, XC, rfl⟩ : ∃ A n c, x = .slice A n c := by obtain ⟨_, _, A, c, h, _⟩ := hx; exact ⟨_, _, _, h⟩
      unfold erow at hr
      dsimp only at hr
      have HRUN := Lib.hid (hr wr (HB.out.block b hb0))
      obtain ⟨X, hX⟩ : ∃ X, wr.heap.size = X := ⟨_, rfl⟩
      have HX0 : Hid ((wr.alloc (.cells #[.int .u8 0, .slice none 0 0, .int .i64 0, .int .i64 0, .int .u8 0] 48)).heap[X]? = some (.cells #[.int .u8 0, .slice none 0 0, .int .i64 0, .int .i64 0, .int .u8 0] 48 (0, 0))) := Lib.hid (by rw [← hX]; exact heap_alloc_last _ _)
      obtain ⟨w2, hw2⟩ : ∃ W, (wr.alloc (.cells #[.int .u8 0, .slice none 0 0, .int .i64 0, .int .i64 0, .int .u8 0] 48)).setRow X #[.int .u8 ek, .slice XA XN XC, .int .i64 ec, .int .i64 er, .int .u8 ea] = W := ⟨_, rfl⟩
      have hb2 : Below wr.heap.size wr w2 := by rw [← hw2, ← hX]; exact below_setRow (Below.alloc (Below.refl _ _) (Nat.le_refl _) _) (Nat.le_refl _) _
      have HX2 : Hid (w2.heap[X]? = some (.cells #[.int .u8 ek, .slice XA XN XC, .int .i64 ec, .int .i64 er, .int .u8 ea] 48 (0, 0))) := Lib.hid (by rw [← hw2]; exact setRow_heap _ _ _ _ _ _ HX0.out)
      have HB2 := Lib.hid (bl_then HB.out HB.out.size hb2)
      have HO2 := Lib.hid (HO.out.below hb2)
      have hz0 := HB2.out.size
      have hXw : w.heap.size ≤ X := by rw [← hX]; exact HB.out.size
      clear hec hx hok hr he hmem hb2
      have HC : Hid (Calls Try.prog 42 #[.agg #[.int .u8 ek, .slice XA XN XC, .int .i64 ec, .int .i64 er, .int .u8 ea]] w2 fun r w' => (∃ v, r = .returned (.agg (erow ⟨⟨ek, eb, ec, er, ea⟩, v⟩)) ∧ OwB w' w2.heap.size v eb) ∧ Below w2.heap.size w2 w') := Lib.hid (copy1_any ⟨ek, eb, ec, er, ea⟩ (.slice XA XN XC) w2 (HX.out.below HB2.out))
      go_wp2_with (first | (with_reducible refine wpList_ldE (p := .pointer (some ⟨b, off + k * 5, none⟩)) rfl (.tmp 11) rfl rfl HRUN.out ?_) | (with_reducible refine wpList_stB (row := #[.int .u8 ek, .slice XA XN XC, .int .i64 ec, .int .i64 er, .int .u8 ea]) evInfo (by simp [Value.oneCell']) rfl (.tmp 6) (.tmp 12) rfl rfl rfl HX0.out rfl ?_) | (with_reducible refine wpList_ldB (row := #[.int .u8 ek, .slice XA XN XC, .int .i64 ec, .int .i64 er, .int .u8 ea]) evInfo evRow rfl (.tmp 6) rfl rfl HX2.out ?_))
      refine HC.out.mono ?_
      rintro r w3 ⟨⟨nv, rfl, ho⟩, hb⟩
      obtain ⟨VA, VN, VC, rfl⟩ := ho.form
      unfold erow
      have HB3 := Lib.hid (bl_then HB2.out HB2.out.size hb)
      have HO3 := Lib.hid (HO2.out.below hb)
      have hep : EvP w3 w2.heap.size ⟨⟨ek, eb, ec, er, ea⟩, .slice VA VN VC⟩ := ⟨ho, HX.out.ok, HX.out.len, HOK.out⟩
      have HAP := Lib.hid (HO2.out.fresh hep (Nat.le_refl _))
      have HP3 := Lib.hid (hep.mono HB2.out.size)
      clear ho hb hep hw2 hX HX0 HX2 HC HRUN
      go_wp2_with (first | (at_builtin; refine wpList_appE (base := w.heap.size) (X := w3.heap.size) (v := .slice LA LN LC) (P := P) (p := ⟨⟨ek, eb, ec, er, ea⟩, .slice VA VN VC⟩) (t := 48) rfl _ _ rfl rfl rfl ?_ ?_ ?_ ?_ ?_ ?_ ?_))
      · exact HO3.out.below (Below.alloc (Below.refl _ _) (Nat.le_refl _) _)
      · exact heap_alloc_last _ _
      · exact HP3.out.below (Below.alloc (Below.refl _ _) (Nat.le_refl _) _)
      · exact HAP.out
      · omega
      · have := HB3.out.size; simp; omega
      · intro v4 w4 h1 h2
        have HO4 := Lib.hid h1
        have HBN := Lib.hid (bl_then HB3.out HB3.out.size (show Below w3.heap.size w3 (w3.alloc (.cells #[.int .u8 ek, .slice VA VN VC, .int .i64 ec, .int .i64 er, .int .u8 ea] 48)) from Below.alloc (Below.refl _ _) (Nat.le_refl _) _))
        have HB4 := Lib.hid (HBN.out.grown h2 HBN.out.size (fun q hq => (own_typed HO3.out.row hq).1))
        have HM4 : Hid ((P ++ [HE.mk ⟨ek, eb, ec, er, ea⟩ (.slice VA VN VC)]).map HE.e = E.take (k + 1)) := Lib.hid (by rw [List.map_append, HM.out, HMEM.out]; rfl)
        clear h1 h2
        go_wp2_with fail
        go_roundw
        case rel => exact ⟨k + 1, _, by omega, by go_num, by rw [List.length_append, hPl]; rfl, HO4, HM4, HB4⟩
        case measure => simp [intOf] <;> omega
    · obtain rfl : k = n := by omega
      have hki : ¬ (k : Int) < (k : Int) := by omega
      have HF : Hid (P.map HE.e = E) := Lib.hid (by rw [HM.out, ← HN.out, List.take_length])
      go_wp2_with fail
      go_ret
      exact ⟨⟨_, rfl, P, HO.out, HF.out⟩, HB.out⟩
theorem rcopy_any (E : List Event) (v : Value) (w : World) (h : EvL w v E) (hE : E.length ≤ 2513169434916) : Calls Try.prog 6 #[v] w fun e w' => (∃ L P, e = .returned L ∧ OwE w' w.heap.size L P ∧ P.map HE.e = E) ∧ Below w.heap.size w w' := by
  have hz : ∀ w, (zeroValue 48).run Try.prog w = .ok (.agg #[.int .u8 0, .slice none 0 0, .int .i64 0, .int .i64 0, .int .u8 0]) w := zero_ev2
  obtain ⟨hlen, A, cap, rfl, hnc, hlc, hcm, hi⟩ := h
  have HI := Lib.hid hi
  obtain ⟨n, hn⟩ : ∃ n, E.length = n := ⟨_, rfl⟩
  have HN := Lib.hid hn
  rw [hn] at HI hlen hlc hE ⊢
  clear hi hn
  go_enter Try.func6, Try.ntmps6
  go_wp2_with fail
  go_loopw [3, 4] (fun L i wr => ∃ (k : Nat) (P : List HE), k ≤ n ∧ i = .int .i64 k ∧ P.length = k ∧ Hid (OwE wr w.heap.size L P) ∧ Hid (P.map HE.e = E.take k) ∧ Hid (Below w.heap.size w wr)) (fun _ i _ => n - (intOf i).toNat)
  case atStart => exact ⟨0, [], Nat.zero_le _, rfl, rfl, Lib.hid (OwE.nil _ _), Lib.hid (by simp), Lib.hid (Below.refl _ _)⟩
  case round =>
    obtain ⟨k, P, hk, rfl, hPl, HO, HM, HB⟩ := hrel
    obtain ⟨LA, LN, LC, hL⟩ : ∃ A n c, u3 = .slice A n c := by obtain ⟨A, c, h⟩ := HO.out.form; exact ⟨_, _, _, h⟩
    subst hL
    by_cases hlt : k < n
    · have hki : (k : Int) < (n : Int) := by omega
      have hk0 : (0 : Int) ≤ (k : Int) := by omega
      obtain ⟨b, off, rfl, hec⟩ := HI.out k hlt
      have hb0 : b < w.heap.size := by obtain ⟨u, q0, _⟩ := hec; exact block_lt_of_cell q0
      obtain ⟨x, hx, hok, hr⟩ := run_load_ev hec
      have hmem : E.take (k + 1) = E.take k ++ [E.getD k zE] := by
        rw [List.take_add_one, List.getElem?_eq_getElem (by rw [HN.out]; exact hlt), List.getD_eq_getElem?_getD, List.getElem?_eq_getElem (by rw [HN.out]; exact hlt)]
        rfl
      obtain ⟨e, he⟩ : ∃ e, E.getD k zE = e := ⟨_, rfl⟩
      rw [he] at hx hok hr hmem
      have HMEM := Lib.hid hmem
      have HOK := Lib.hid hok
      have HX := Lib.hid hx
      obtain ⟨ek, eb, ec, er, ea⟩ := e
      obtain ⟨XA, XN, XC, rfl⟩ : ∃ A n c, x = .slice A n c := by obtain ⟨_, _, A, c, h, _⟩ := hx; exact ⟨_, _, _, h⟩
      unfold erow at hr
      dsimp only at hr
      have HRUN := Lib.hid (hr wr (HB.out.block b hb0))
      obtain ⟨X, hX⟩ : ∃ X, wr.heap.size = X := ⟨_, rfl⟩
      have HX0 : Hid ((wr.alloc (.cells #[.int .u8 0, .slice none 0 0, .int .i64 0, .int .i64 0, .int .u8 0] 48)).heap[X]? = some (.cells #[.int .u8 0, .slice none 0 0, .int .i64 0, .int .i64 0, .int .u8 0] 48 (0, 0))) := Lib.hid (by rw [← hX]; exact heap_alloc_last _ _)
      obtain ⟨w2, hw2⟩ : ∃ W, (wr.alloc (.cells #[.int .u8 0, .slice none 0 0, .int .i64 0, .int .i64 0, .int .u8 0] 48)).setRow X #[.int .u8 ek, .slice XA XN XC, .int .i64 ec, .int .i64 er, .int .u8 ea] = W := ⟨_, rfl⟩
      have hb2 : Below wr.heap.size wr w2 := by rw [← hw2, ← hX]; exact below_setRow (Below.alloc (Below.refl _ _) (Nat.le_refl _) _) (Nat.le_refl _) _
      have HX2 : Hid (w2.heap[X]? = some (.cells #[.int .u8 ek, .slice XA XN XC, .int .i64 ec, .int .i64 er, .int .u8 ea] 48 (0, 0))) := Lib.hid (by rw [← hw2]; exact setRow_heap _ _ _ _ _ _ HX0.out)
      have HB2 := Lib.hid (bl_then HB.out HB.out.size hb2)
      have HO2 := Lib.hid (HO.out.below hb2)
      have hz0 := HB2.out.size
      have hXw : w.heap.size ≤ X := by rw [← hX]; exact HB.out.size
      clear hec hx hok hr he hmem hb2
      have x1 : w2.cell? ⟨X, 1, none⟩ = some (.slice XA XN XC) := (cell_of_row _ _ _ _ _ _ HX2.out).trans rfl
      have xl := lt_of_heap HX2.out
      go_wp2_with (first | (with_reducible refine wpList_ldE (p := .pointer (some ⟨b, off + k * 5, none⟩)) rfl (.tmp 14) rfl rfl HRUN.out ?_) | (with_reducible refine wpList_stB (row := #[.int .u8 ek, .slice XA XN XC, .int .i64 ec, .int .i64 er, .int .u8 ea]) evInfo (by simp [Value.oneCell']) rfl (.tmp 5) (.tmp 15) rfl rfl rfl HX0.out rfl ?_))
      (try rw [hw2])
      refine (copy_bytes _ eb w2 (HX.out.below HB2.out)).mono ?_
      rintro r w2b ⟨⟨nv, rfl, ho⟩, hb⟩
      obtain ⟨VA, VN, VC, rfl⟩ := ho.form
      have hrx : w2b.heap[X]? = some (.cells #[.int .u8 ek, .slice XA XN XC, .int .i64 ec, .int .i64 er, .int .u8 ea] 48 (0, 0)) := (hb.block X xl).trans HX2.out
      have y1 : w2b.cell? ⟨X, 1, none⟩ = some (.slice XA XN XC) := (cell_of_row _ _ _ _ _ _ hrx).trans rfl
      have yf1 : w2b.frozen? ⟨X, 1, none⟩ = false := frozen_of_row w2b X 1 _ _ hrx
      have yl := lt_of_heap hrx
      obtain ⟨w3, hw3⟩ : ∃ W, w2b.setCell ⟨X, 1, none⟩ (.slice VA VN VC) = W := ⟨_, rfl⟩
      have HX3 : Hid (w3.heap[X]? = some (.cells #[.int .u8 ek, .slice VA VN VC, .int .i64 ec, .int .i64 er, .int .u8 ea] 48 (0, 0))) := Lib.hid (by rw [← hw3]; exact heap_setCell_same _ _ _ _ _ _ hrx)
      have hk3 : ∀ g, g ≠ X → w3.heap[g]? = w2b.heap[g]? := fun g hg => by rw [← hw3]; exact heap_setCell_other _ ⟨_, _, _⟩ _ _ hg
      have HB3 : Hid (Below w.heap.size w w3) := Lib.hid (by rw [← hw3]; exact (bl_then HB2.out HB2.out.size hb).setCell (by show w.heap.size ≤ X; exact hXw) _)
      have hLX : ∀ q, (Value.slice LA LN LC).ownBlock = some q → q < X := fun q hq => by have := (World.ownsRow.lt HO.out.row q hq).2; omega
      have HO3 : Hid (OwE w3 w.heap.size (.slice LA LN LC) P) := Lib.hid (by
        have h1 : OwE w2b w.heap.size (.slice LA LN LC) P := HO2.out.below hb
        refine ⟨owns_keep h1.row (fun q hq hl => hk3 q (by have := hLX q hq; omega)), fun p hp => (h1.ev p hp).keep fun q _ hl hq => hk3 q (by have := (World.ownsRow.lt (HO.out.ev p hp).own q hq).2; omega), h1.sep⟩)
      have hep : EvP w3 w2.heap.size ⟨⟨ek, eb, ec, er, ea⟩, .slice VA VN VC⟩ := ⟨ho.keep fun q hq hl => hk3 q (by have := (own_typed ho hq).1; omega), HX.out.ok, HX.out.len, HOK.out⟩
      have HAP := Lib.hid (HO2.out.fresh hep (Nat.le_refl _))
      have HP3 := Lib.hid (hep.mono HB2.out.size)
      clear ho hb hep hw2 hX HX0 HX2 HRUN hk3 hrx x1 xl
      go_wp2_with (first | (with_reducible refine wpList_ldB (row := #[.int .u8 ek, .slice VA VN VC, .int .i64 ec, .int .i64 er, .int .u8 ea]) evInfo evRow rfl (.tmp 5) rfl rfl HX3.out ?_) | (at_builtin; refine wpList_appE (base := w.heap.size) (X := w3.heap.size) (v := .slice LA LN LC) (P := P) (p := ⟨⟨ek, eb, ec, er, ea⟩, .slice VA VN VC⟩) (t := 48) rfl _ _ rfl rfl rfl ?_ ?_ ?_ ?_ ?_ ?_ ?_))
      · exact HO3.out.below (Below.alloc (Below.refl _ _) (Nat.le_refl _) _)
      · exact heap_alloc_last _ _
      · exact HP3.out.below (Below.alloc (Below.refl _ _) (Nat.le_refl _) _)
      · exact HAP.out
      · omega
      · have := HB3.out.size; simp; omega
      · intro v4 w4 h1 h2
        have HO4 := Lib.hid h1
        have HBN := Lib.hid (bl_then HB3.out HB3.out.size (show Below w3.heap.size w3 (w3.alloc (.cells #[.int .u8 ek, .slice VA VN VC, .int .i64 ec, .int .i64 er, .int .u8 ea] 48)) from Below.alloc (Below.refl _ _) (Nat.le_refl _) _))
        have HB4 := Lib.hid (HBN.out.grown h2 HBN.out.size (fun q hq => (own_typed HO3.out.row hq).1))
        have HM4 : Hid ((P ++ [HE.mk ⟨ek, eb, ec, er, ea⟩ (.slice VA VN VC)]).map HE.e = E.take (k + 1)) := Lib.hid (by rw [List.map_append, HM.out, HMEM.out]; rfl)
        clear h1 h2
        go_wp2_with fail
        go_roundw
        case rel => exact ⟨k + 1, _, by omega, by go_num, by rw [List.length_append, hPl]; rfl, HO4, HM4, HB4⟩
        case measure => simp [intOf] <;> omega
    · obtain rfl : k = n := by omega
      have hki : ¬ (k : Int) < (k : Int) := by omega
      have HF : Hid (P.map HE.e = E) := Lib.hid (by rw [HM.out, ← HN.out, List.take_length])
      go_wp2_with fail
      go_ret
      exact ⟨⟨_, rfl, P, HO.out, HF.out⟩, HB.out⟩
end Go.Proofs.Ytgkiedbefogklaa
