/- What is proved: what Decode of package utf, and of its reference, answer when they are called; conditions: the slice reads as it is said to, and is of no more than 2^45 bytes. -/
import Derived.Test.YtghadceeckbgpaaUtf6
import Derived.Test.YtghadceeckbgpaaRunes
set_option linter.unusedSimpArgs false
set_option linter.unusedVariables false
namespace Go.Proofs.Ytghadceeckbgpaa
open Go.RowKit
set_option maxRecDepth 100000
set_option maxHeartbeats 4000000
def lenOf : Value → Nat
  | .slice _ n _ => n
  | _ => 0
def decF : Nat → List Int → List Int
  | 0, _ => []
  | f + 1, bs => if 0 < bs.length then (nextS bs true).1 :: decF f (bs.drop (nextS bs true).2) else []
/-- The characters of bytes. -/
def decS (bs : List Int) : List Int := decF bs.length bs
theorem decF_fuel : ∀ (f g : Nat) (bs : List Int), bs.length ≤ f → bs.length ≤ g → decF f bs = decF g bs
  | 0, 0, bs, _, _ => rfl
  | 0, g + 1, bs, h, _ => by unfold decF; rw [if_neg (by omega)]
  | f + 1, 0, bs, _, h => by unfold decF; rw [if_neg (by omega)]
  | f + 1, g + 1, bs, h1, h2 => by
    unfold decF
    split
    · rename_i h
      have hb := nextS_b bs true h
      have := hb.2 rfl
      rw [decF_fuel f g (bs.drop (nextS bs true).2) (by simp; omega) (by simp; omega)]
    · rfl
theorem decS_cons {bs : List Int} (h : 0 < bs.length) : decS bs = (nextS bs true).1 :: decS (bs.drop (nextS bs true).2) := by
  have hb := nextS_b bs true h
  have := hb.2 rfl
  unfold decS
  obtain ⟨n, hn⟩ : ∃ n, bs.length = n + 1 := ⟨bs.length - 1, by omega⟩
  rw [hn]
  conv => lhs; unfold decF
  rw [if_pos h, decF_fuel n (bs.drop (nextS bs true).2).length (bs.drop (nextS bs true).2) (by simp; omega) (Nat.le_refl _)]
theorem decS_nil : decS [] = [] := rfl
theorem decS_len : ∀ (n : Nat) (bs : List Int), bs.length ≤ n → (decS bs).length ≤ bs.length
  | 0, bs, h => by obtain rfl : bs = [] := List.eq_nil_of_length_eq_zero (by omega); simp [decS_nil]
  | n + 1, bs, h => by
    rcases Nat.eq_zero_or_pos bs.length with h0 | h0
    · obtain rfl := List.eq_nil_of_length_eq_zero h0; simp [decS_nil]
    · have hb := nextS_b bs true h0
      have h2 := hb.2 rfl
      have h3 := decS_len n (bs.drop (nextS bs true).2) (by simp; omega)
      rw [decS_cons h0, List.length_cons]
      simp at h3
      omega
theorem nextS_c (bs : List Int) (e : Bool) (hok : okB bs) (h : 0 < bs.length) : 0 ≤ (nextS bs e).1 ∧ (nextS bs e).1 ≤ 2147483647 := by
  obtain ⟨q1, q2, q3, q4⟩ := begS_b bs h
  unfold nextS
  split
  · exact charS_b _ (hok.take _) (by simp; omega)
  · split
    · decide
    · simp
theorem decS_ok : ∀ (n : Nat) (bs : List Int), bs.length ≤ n → okB bs → ∀ c ∈ decS bs, 0 ≤ c ∧ c ≤ 2147483647
  | 0, bs, h, _ => by obtain rfl : bs = [] := List.eq_nil_of_length_eq_zero (by omega); simp [decS_nil]
  | n + 1, bs, h, hok => by
    rcases Nat.eq_zero_or_pos bs.length with h0 | h0
    · obtain rfl := List.eq_nil_of_length_eq_zero h0; simp [decS_nil]
    · have hb := nextS_b bs true h0
      have h2 := hb.2 rfl
      have h3 := decS_ok n (bs.drop (nextS bs true).2) (by simp; omega) (hok.drop _)
      rw [decS_cons h0]
      intro c hc
      rcases List.mem_cons.1 hc with rfl | hc
      · exact nextS_c bs true hok h0
      · exact h3 c hc
theorem refN_next (bs : List Int) : (refN bs).1 = (nextS bs true).1 ∧ (refN bs).2.1 = (nextS bs true).2 := by
  unfold refN nextS
  split
  · exact ⟨rfl, rfl⟩
  · rw [if_neg (by simp)]
    exact ⟨rfl, rfl⟩
/-- One rune in a block of its own. -/
theorem RR.lit {W : World} {g : Nat} {c : Int} (h : W.heap[g]? = some (.cells #[.int .i32 c] 21 (0, 0))) (hc : -2147483648 ≤ c ∧ c ≤ 2147483647) : RR W (.slice (some ⟨g, 0, none⟩) 1 1) [c] := by
  refine ⟨by intro x hx; obtain rfl := List.mem_singleton.1 hx; exact hc, by simp, _, 1, rfl, ⟨rfl, fun _ => ⟨g, 0, rfl, fun j hj => ?_⟩⟩, fun h => by simp at h, Nat.le_refl _, by simp [maxLen]⟩
  simp at hj
  subst hj
  exact (cell_of_row W g 0 _ _ (0, 0) h).trans rfl
/-- Where the rest of a slice begins. -/
def restA (A : Option Addr) (cap n : Nat) : Option Addr := if cap = n then A else A.map (·.add n)
theorem BB.rest {w : World} {A : Option Addr} {l cap n : Nat} {xs : List Int} (h : BB w (.slice A l cap) xs) (hp : 0 < xs.length) (hn : n ≤ xs.length) : BB w (.slice (restA A cap n) (l - n) (cap - n)) (xs.drop n) := by
  obtain ⟨h1, h2, A', cap', e, hr, h3, h4, h5⟩ := h
  simp only [Value.slice.injEq] at e
  obtain ⟨rfl, rfl, rfl⟩ := e
  have hl : (xs.drop n).length = xs.length - n := List.length_drop
  refine ⟨h1.drop n, by omega, _, _, by rw [hl], ?_, fun hA => ?_, by omega, by omega⟩
  · rw [hl]
    exact hr.drop hn h4
  · obtain ⟨b, off, rfl, _⟩ := hr.2 hp
    unfold restA at hA
    split at hA <;> simp at hA
theorem run_rest (A : Option Addr) (l cap n : Nat) (hn : n ≤ l) (W : World) : (Instr.slice 22 (.slice A l cap) (some (.int .i64 n)) none none).run Try.prog W = .ok (.slice (restA A cap n) (l - n) (cap - n)) W := by
  obtain ⟨i, hi, hz⟩ : ∃ i, Try.prog.info? 5 = some i ∧ i.size = 1 := by
    obtain ⟨i, h, h2⟩ := Option.map_eq_some_iff.1 (show (Try.prog.info? 5).map (fun i => i.size) = some 1 by kernel_rfl)
    exact ⟨i, h, h2⟩
  rw [run_slice_from Try.prog 22 5 Try.underlying22 i hi hz A l cap n hn W]
  rfl
theorem exec_slice {P : Program} {o : Oper} {a : Act} {ty : TypeId} {x y : Operand} {p q v : Value} {w : World} (ho : o.op = .slice ty x (some y) none none) (hx : a.eval x = p) (hy : a.eval y = q) (h : (Instr.sliceAt ty p (some q) none none).run P w = .ok v w) : (execOp a.eval o).run P w = .ok (.value v) w := by
  unfold execOp
  simp only [ho, hx, hy, Option.map_some, Option.map_none, Sem.run_bind, h, Result.andThen_ok]
  rfl
theorem run_restAt (A : Option Addr) (l cap n : Nat) (hn : n ≤ l) (W : World) : (Instr.sliceAt 22 (.slice A l cap) (some (.int .i64 n)) none none).run Try.prog W = .ok (.slice (restA A cap n) (l - n) (cap - n)) W := by
  rw [← run_rest A l cap n hn W]
  simp [Instr.sliceAt, run_underlying Try.underlying22]
theorem decode_any (v : Value) (bs : List Int) (w : World) (h : BB w v bs) (hb45 : bs.length ≤ 35184372088832) :
    Calls Try.prog 10 #[v] w fun e w' => (∃ u, e = .returned u ∧ OwR w' w.heap.size u (decS bs)) ∧ Below w.heap.size w w' := by
  have HD := Lib.hid (decS_ok bs.length bs (Nat.le_refl _) h.ok)
  have HDL := decS_len bs.length bs (Nat.le_refl _)
  have HH := Lib.hid h
  clear h
  go_enter Try.func10, Try.ntmps10
  go_wp2_with fail
  go_loopw [0, 3] (fun b l wr => ∃ (cs rest : List Int), Hid (BB w b rest) ∧ cs.length + rest.length ≤ bs.length ∧ Hid (OwR wr w.heap.size l cs) ∧ Hid (cs ++ decS rest = decS bs) ∧ Hid (okR cs) ∧ Hid (Below w.heap.size w wr)) (fun b _ _ => lenOf b)
  case atStart => exact ⟨[], bs, HH, by simp, Lib.hid (OwR.nil _ _), Lib.hid rfl, Lib.hid okR.nil, Lib.hid (Below.refl _ _)⟩
  case round =>
    obtain ⟨cs, rest, HR, hl, HO, HC, HOK, HB⟩ := hrel
    obtain ⟨A, cap, rfl⟩ : ∃ A cap, u0 = .slice A rest.length cap := by
      obtain ⟨_, _, A, cap, e1, _⟩ := HR.out
      exact ⟨A, cap, e1⟩
    by_cases hp : 0 < rest.length
    · have hnb := nextS_b rest true hp
      have hnc := nextS_c rest true HR.out.ok hp
      have HDC := Lib.hid (decS_cons hp)
      have hrr := fun W => run_restAt A rest.length cap (nextS rest true).2 hnb.1 W
      have HRR := Lib.hid (HR.out.rest hp hnb.1)
      have HNX := Lib.hid (next_any _ rest true wr (HR.out.below HB.out) hp)
      have hln : rest.length - (nextS rest true).2 < rest.length := by
        have := hnb.2 rfl
        omega
      have hnl := hnb.1
      clear hnb
      generalize (nextS rest true).1 = c at *
      generalize (nextS rest true).2 = n at *
      have HRRn := Lib.hid hrr
      clear hrr
      go_wp2_with fail
      refine HNX.out.mono ?_
      rintro e w1 ⟨rfl, hb⟩
      have HO1 := Lib.hid (HO.out.below hb)
      have HB1 := Lib.hid (bl_then HB.out HB.out.size hb)
      clear hb HNX HO HB
      obtain ⟨x, hx, hI0, hxo⟩ := Inv.beginsR HO1.out
      have HX := Lib.hid hx
      have HXO := Lib.hid hxo
      clear hx hxo
      have hq1 : (fun k => if k = 1 then x else none : Gh) 1 = x := if_pos rfl
      generalize (fun k => if k = 1 then x else none : Gh) = γ0 at hI0 hq1
      have HI0 := Lib.hid hI0
      clear hI0
      go_wp2_with fail
      apply wp_region_eff (Inv w1 (fun g => u3.ownBlock = some g)) γ0 HI0.out (hm := by kernel_rfl)
      case h =>
        (apply SeqF.pure; (focus (first | rfl | (go_simp; done) | (simp [Region.wanted, yielded]; done))); (focus (intro w; go_simp; with_reducible rfl)); go_simp)
        (apply SeqF.pure; (focus (first | rfl | (go_simp; done) | (simp [Region.wanted, yielded]; done))); (focus (intro w; go_simp; with_reducible rfl)); go_simp)
        apply SeqF.new [] 2 (fun g => .slice (some ⟨g, 0, none⟩) 1 1) (fun _ => .cells #[.int .i32 c] 21 (0, 0))
        · intro γ' _; rfl
        · (first | rfl | (go_simp; done) | (simp [Region.wanted, yielded]; done))
        · intro γ' W hg hI; kernel_rfl
        intro g hgn
        go_simp
        apply SeqF.appR [1, 2] 1 (by simp) (.tmp 14) (.tmp 16) rfl rfl u3 (.slice (some ⟨g, 0, none⟩) 1 1) cs [c] (cs ++ [c]) (by rw [Gh.set_far _ _ (by decide), hq1]; exact HX.out) rfl rfl
        · exact fun γ' W hg hI => RR.lit (hI.here 2 g _ ((hg 2 (by simp)).trans (Gh.set_here _ _ _))).1 (by omega)
        · simp; omega
        · rfl
        intro v9 x9 hx9 hxn9
        obtain rfl := OwX.val hx9 (by decide)
        rw [show (cs ++ [c]).length = cs.length + 1 by simp] at hx9
        have HX9 := Lib.hid hx9
        have HXN9 := Lib.hid hxn9
        clear hx9 hxn9
        go_simp
        (apply SeqF.pure; (focus (first | rfl | (go_simp; done) | (simp [Region.wanted, yielded]; done))); (focus (intro w; go_simp; with_reducible rfl)); go_simp)
        (apply SeqF.pure; (focus (first | rfl | (go_simp; done) | (simp [Region.wanted, yielded]; done))); (focus (intro w; go_simp; with_reducible rfl)); go_simp)
        apply SeqF.pure (v := .slice (restA A cap n) (rest.length - n) (cap - n))
        · (first | rfl | (go_simp; done) | (simp [Region.wanted, yielded]; done))
        · exact fun W => by
            exact exec_slice rfl rfl rfl (HRRn.out W)
        go_simp
        apply SeqF.dyn [1] (fun γ => rowVal 1 (cs ++ [c]).length (γ 1))
        · intro γ' hg; simp only [hg 1 (by simp)]
        · (first | rfl | (go_simp; done) | (simp [Region.wanted, yielded]; done))
        · intro γ' W hg hI
          simp only [Gh.set_here]
          go_simp
        simp only [Gh.set_here]
        (apply SeqF.pure; (focus (first | rfl | (go_simp; done) | (simp [Region.wanted, yielded]; done))); (focus (intro w; go_simp; with_reducible rfl)); go_simp)
        apply SeqF.done
        intro w9 hI9
        have hown9 : ∀ g o, x9 = some (g, o) → u3.ownBlock = some g ∨ w1.heap.size ≤ g := by
          intro g o hgo
          rcases HXN9.out g o hgo with ⟨o', h1⟩ | h1
          · rw [Gh.set_far _ _ (by decide), hq1] at h1
            exact .inl (HXO.out g o' h1)
          · exact .inr h1
        obtain ⟨ho9, hg9⟩ := hI9.endsR (t := 1) (v' := rowVal 1 (cs.length + 1) x9) (ys := cs ++ [c]) (base := w.heap.size) (by rw [Gh.set_here]; exact HX9.out) (by intro g o hgo; rw [Gh.set_here] at hgo; exact hown9 g o hgo) HB1.out.size (fun g hg => (World.ownsRow.lt HO1.out g hg).1)
        have HO9 := Lib.hid ho9
        have HB9 := Lib.hid (HB1.out.grown hg9 HB1.out.size (fun q hq => (World.ownsRow.lt HO1.out q hq).1))
        clear hI9 ho9 hg9 hown9
        go_simp
        generalize rowVal 1 (cs.length + 1) x9 = v9 at *
        go_roundw
        case rel =>
          (repeat apply Exists.intro)
          refine ⟨?_, rfl⟩
          refine ⟨cs ++ [c], rest.drop n, HRR, by simp; omega, HO9, Lib.hid ?_, Lib.hid (HOK.out.app ?_), HB9⟩
          · rw [← HC.out, HDC.out, List.append_assoc]
            rfl
          · intro x hx
            obtain rfl := List.mem_singleton.1 hx
            omega
        case measure => simp only [lenOf, Array.getD]; exact hln
      case hl => rfl
      case ho => kernel_rfl
    · have HE : Hid (cs = decS bs) := Lib.hid (by
        have h := HC.out
        obtain rfl : rest = [] := List.eq_nil_of_length_eq_zero (by omega)
        rw [decS_nil, List.append_nil] at h
        exact h)
      have h0 : ¬ (0 : Int) < (rest.length : Int) := by omega
      clear HC
      go_wp2_with fail
      go_ret
      rw [← HE.out]
      exact ⟨⟨_, rfl, HO.out⟩, HB.out⟩
theorem RR.made (w : World) {c : Int} (hc : -2147483648 ≤ c ∧ c ≤ 2147483647) : RR (w.alloc (.cells #[.int .i32 c] 21)) (.slice (some ⟨w.heap.size, 0, none⟩) 1 1) [c] := RR.lit (heap_alloc_last w _) hc
theorem refdecode_any (v : Value) (bs : List Int) (w : World) (h : BB w v bs) (hb45 : bs.length ≤ 35184372088832) :
    Calls Try.prog 11 #[v] w fun e w' => (∃ u, e = .returned u ∧ OwR w' w.heap.size u (decS bs)) ∧ Below w.heap.size w w' := by
  have HD := Lib.hid (decS_ok bs.length bs (Nat.le_refl _) h.ok)
  have HH := Lib.hid h
  clear h
  go_enter Try.func11, Try.ntmps11
  go_wp2_with fail
  go_loopw [0, 3] (fun b l wr => ∃ (cs rest : List Int), Hid (BB w b rest) ∧ cs.length + rest.length ≤ bs.length ∧ Hid (OwR wr w.heap.size l cs) ∧ Hid (cs ++ decS rest = decS bs) ∧ Hid (okR cs) ∧ Hid (Below w.heap.size w wr)) (fun b _ _ => lenOf b)
  case atStart => exact ⟨[], bs, HH, by simp, Lib.hid (OwR.nil _ _), Lib.hid rfl, Lib.hid okR.nil, Lib.hid (Below.refl _ _)⟩
  case round =>
    obtain ⟨cs, rest, HR, hl, HO, HC, HOK, HB⟩ := hrel
    obtain ⟨A, cap, rfl⟩ : ∃ A cap, u0 = .slice A rest.length cap := by
      obtain ⟨_, _, A, cap, e1, _⟩ := HR.out
      exact ⟨A, cap, e1⟩
    by_cases hp : 0 < rest.length
    · have hnb := nextS_b rest true hp
      have hnc := nextS_c rest true HR.out.ok hp
      have HDC := Lib.hid (decS_cons hp)
      have hrr := fun W => run_restAt A rest.length cap (nextS rest true).2 hnb.1 W
      have HRR := Lib.hid (HR.out.rest hp hnb.1)
      have hq := refnext_any _ rest wr (HR.out.below HB.out) hp
      rw [(refN_next rest).1, (refN_next rest).2] at hq
      have HNX := Lib.hid hq
      clear hq
      have hln : rest.length - (nextS rest true).2 < rest.length := by
        have := hnb.2 rfl
        omega
      have hnl := hnb.1
      clear hnb
      generalize (nextS rest true).1 = c at *
      generalize (nextS rest true).2 = n at *
      generalize (refN rest).2.2 = wh at *
      have HRRn := Lib.hid hrr
      clear hrr
      go_wp2_with fail
      refine HNX.out.mono ?_
      rintro e w1 ⟨rfl, hb⟩
      have HO1 := Lib.hid (HO.out.below hb)
      have HB1 := Lib.hid (bl_then HB.out HB.out.size hb)
      clear hb HNX HO HB
      have hz1 := HB1.out.size
      go_wp2_with (at_builtin; refine wpList_appR (base := w.heap.size) rfl _ _ rfl u3 (.slice (some ⟨w1.heap.size, 0, none⟩) 1 1) cs [c] rfl ?_ rfl ?_ ?_ ?_ ?_)
      · exact HO1.out.below (w1 := w1.alloc (.cells #[.int .i32 c] 21)) (by (repeat' (first | (with_reducible exact Below.refl _ _) | (with_reducible assumption) | (with_reducible refine Below.alloc ?_ ?_ _) | (with_reducible refine below_setRow ?_ ?_ _) | (with_reducible refine bl_drew ?_) | (with_reducible refine bl_drewN ?_ _) | (with_reducible refine Below.setCell ?_ ?_ _) | (with_reducible refine bl_then ?_ ?_ hb) | (with_reducible refine bl_then ?_ ?_ hb1) | (with_reducible refine bl_then ?_ ?_ hb2) | (with_reducible refine bl_then ?_ ?_ hb3) | (with_reducible refine bl_then ?_ ?_ hb4) | (with_reducible refine bl_then ?_ ?_ hb5) | (with_reducible refine bl_then ?_ ?_ hb6) | (with_reducible refine bl_then ?_ ?_ hb7) | (with_reducible refine bl_then ?_ ?_ hb8) | (with_reducible exact Nat.le_refl _) | omega | (simp only [World.size_alloc, World.size_setCell, World.size_drew, size_setRow]; omega) | (simp; omega) | (simp; done))))
      · exact RR.made w1 (by omega)
      · simp; omega
      · simp; omega
      · intro v' w' h1 h2 h3
        have HO9 := Lib.hid h1
        have HB9 := Lib.hid ((HB1.out.alloc hz1 (.cells #[.int .i32 c] 21)).grown h2 (by simp; omega) (fun q hq => (World.ownsRow.lt HO1.out q hq).1))
        clear h1 h2 h3
        have hrr := HRRn.out
        go_wp2_with fail
        go_roundw
        case rel =>
          refine ⟨cs ++ [c], rest.drop n, HRR, by simp; omega, HO9, Lib.hid ?_, Lib.hid (HOK.out.app ?_), HB9⟩
          · rw [← HC.out, HDC.out, List.append_assoc]
            rfl
          · intro x hx
            obtain rfl := List.mem_singleton.1 hx
            omega
        case measure => simp only [lenOf, Array.getD]; exact hln
    · have HE : Hid (cs = decS bs) := Lib.hid (by
        have h := HC.out
        obtain rfl : rest = [] := List.eq_nil_of_length_eq_zero (by omega)
        rw [decS_nil, List.append_nil] at h
        exact h)
      have h0 : ¬ (0 : Int) < (rest.length : Int) := by omega
      clear HC
      go_wp2_with fail
      go_ret
      rw [← HE.out]
      exact ⟨⟨_, rfl, HO.out⟩, HB.out⟩
end Go.Proofs.Ytghadceeckbgpaa
