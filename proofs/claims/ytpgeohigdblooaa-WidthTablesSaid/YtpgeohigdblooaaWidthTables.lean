/- What is proved: the law on the two tables, as a call; conditions: the two numbers are of their kinds. -/
import Derived.Test.YtpgeohigdblooaaWidthOf
import Derived.Test.YtpgeohigdblooaaOrderNew
set_option linter.unusedSimpArgs false
set_option linter.unusedVariables false
namespace Go.Proofs.Ytpgeohigdblooaa
open Go.RowKit
set_option maxRecDepth 100000
set_option maxHeartbeats 1000000
theorem wide_all : ∀ k, k < 37 → ((wideT.getD k (0, 0)).1 ≤ (wideT.getD k (0, 0)).2 ∧ 160 ≤ (wideT.getD k (0, 0)).1 ∧ (wideT.getD k (0, 0)).2 ≤ 1114111 ∧ ((wideT.getD k (0, 0)).2 < 55296 ∨ 57343 < (wideT.getD k (0, 0)).1)) ∧ (k < 36 → (wideT.getD k (0, 0)).2 < (wideT.getD (k + 1) (0, 0)).1) := by decide +kernel
theorem zero_all : ∀ k, k < 26 → ((zeroT.getD k (0, 0)).1 ≤ (zeroT.getD k (0, 0)).2 ∧ 160 ≤ (zeroT.getD k (0, 0)).1 ∧ (zeroT.getD k (0, 0)).2 ≤ 1114111 ∧ ((zeroT.getD k (0, 0)).2 < 55296 ∨ 57343 < (zeroT.getD k (0, 0)).1)) ∧ (k < 25 → (zeroT.getD k (0, 0)).2 < (zeroT.getD (k + 1) (0, 0)).1) := by decide +kernel
theorem wide_width {k : Nat} (hk : k < 37) {c : Int} (h1 : (wideT.getD k (0, 0)).1 ≤ c) (h2 : c ≤ (wideT.getD k (0, 0)).2) : (inT zeroT c = false ∧ widthOf c = 2) ∨ (inT zeroT c = true ∧ widthOf c = 0) := by
  obtain ⟨⟨a1, a2, a3, a4⟩, _⟩ := wide_all k hk
  have hb : badC c = false := by simp [badC]; omega
  have hi : inT wideT c = true := inT_true k (by rw [wide_len]; exact hk) h1 h2
  rcases hz : inT zeroT c with _ | _
  · exact .inl ⟨rfl, by simp [widthOf, hb, hz, hi]⟩
  · exact .inr ⟨rfl, by simp [widthOf, hb, hz]⟩
theorem zero_width {k : Nat} (hk : k < 26) {c : Int} (h1 : (zeroT.getD k (0, 0)).1 ≤ c) (h2 : c ≤ (zeroT.getD k (0, 0)).2) : widthOf c = 0 := by
  obtain ⟨⟨a1, a2, a3, a4⟩, _⟩ := zero_all k hk
  have hb : badC c = false := by simp [badC]; omega
  have hi : inT zeroT c = true := inT_true k (by rw [zero_len]; exact hk) h1 h2
  simp [widthOf, hb, hi]
theorem widthtables_law (n by' : Int) (w : World) (h0 : 0 ≤ n ∧ n ≤ 255) (h1 : 0 ≤ by' ∧ by' ≤ 65535) :
    Calls Try.prog 5 #[.int .u8 n, .int .u16 by'] w fun e w' => e = .returned (.bool true) ∧ Below w.heap.size w w' := by
  obtain ⟨h00, h01⟩ := h0
  obtain ⟨h10, h11⟩ := h1
  go_enter Try.func5, Try.ntmps5
  go_wp2_with fail
  refine (tables_any _).mono ?_
  rintro e w2 ⟨⟨v, z, rfl, ov, oz⟩, hb2⟩
  obtain ⟨V, vc, rfl, hv⟩ := RdS.of_owns wide_len ov
  obtain ⟨Z, zc, rfl, hz⟩ := RdS.of_owns zero_len oz
  clear ov oz
  have HB := Lib.hid hb2
  have HV := Lib.hid hv
  have HZ := Lib.hid hz
  clear hv hz hb2
  obtain ⟨bV, oV, rfl, hcV⟩ := HV.out.2 (by omega)
  have hbV := HV.out.lt_ (by omega) rfl
  have HcV := Lib.hid hcV
  obtain ⟨bZ, oZ, rfl, hcZ⟩ := HZ.out.2 (by omega)
  have hbZ := HZ.out.lt_ (by omega) rfl
  have HcZ := Lib.hid hcZ
  clear hcV hcZ
  go_wp2_with fail
  go_loopw [7] (fun i wr => ∃ k : Nat, k ≤ 37 ∧ i = .int .i64 k ∧ Hid (Below w2.heap.size w2 wr)) (fun i _ => 37 - (intOf i).toNat)
  case atStart => exact ⟨0, Nat.zero_le _, rfl, Below.refl _ _⟩
  case round =>
    obtain ⟨k, hk, rfl, HR⟩ := hrel
    by_cases hlt : k < 37
    · rcases Nat.eq_zero_or_pos k with hk0 | hk0
      · subst hk0
        have c0 := (HcV.out 0 hlt).1
        have c1 := (HcV.out 0 hlt).2
        have ha := (wide_all 0 hlt).1.1
        generalize (wideT.getD 0 (0, 0)).1 = x at *
        generalize (wideT.getD 0 (0, 0)).2 = y at *
        simp only [Nat.zero_mul, Nat.add_zero, Nat.zero_add] at c0 c1
        go_wp2_with fail
        refine wp_region_text (fun W => Below w2.heap.size w2 W) (by kernel_rfl) (by kernel_rfl) (bl_drew HR.out) ?_
        (apply SeqL.pure; (focus (first | rfl | (go_simp; done) | (simp [Region.wanted, yielded]; done))); (focus (intro w; go_simp; with_reducible rfl)); go_simp)
        (apply SeqL.pure; (focus (first | rfl | (go_simp; done) | (simp [Region.wanted, yielded]; done))); (focus (intro w; go_simp; with_reducible rfl)); go_simp)
        (apply SeqL.pure; (focus (first | rfl | (go_simp; done) | (simp [Region.wanted, yielded]; done))); (focus (intro w; go_simp; with_reducible rfl)); go_simp)
        (apply SeqL.pure; (focus (first | rfl | (go_simp; done) | (simp [Region.wanted, yielded]; done))); (focus (intro w; go_simp; with_reducible rfl)); go_simp)
        (apply SeqL.read; (focus (first | rfl | (go_simp; done) | (simp [Region.wanted, yielded]; done))); (focus (intro W hF; have x0 := ((bcell hF).1 _ _ hbV).trans c0; go_simp; with_reducible rfl)); go_simp)
        (apply SeqL.pure; (focus (first | rfl | (go_simp; done) | (simp [Region.wanted, yielded]; done))); (focus (intro w; go_simp; with_reducible rfl)); go_simp)
        (apply SeqL.pure; (focus (first | rfl | (go_simp; done) | (simp [Region.wanted, yielded]; done))); (focus (intro w; go_simp; with_reducible rfl)); go_simp)
        (apply SeqL.pure; (focus (first | rfl | (go_simp; done) | (simp [Region.wanted, yielded]; done))); (focus (intro w; go_simp; with_reducible rfl)); go_simp)
        (apply SeqL.pure; (focus (first | rfl | (go_simp; done) | (simp [Region.wanted, yielded]; done))); (focus (intro w; go_simp; with_reducible rfl)); go_simp)
        (apply SeqL.read; (focus (first | rfl | (go_simp; done) | (simp [Region.wanted, yielded]; done))); (focus (intro W hF; have x0 := ((bcell hF).1 _ _ hbV).trans c1; go_simp; with_reducible rfl)); go_simp)
        (apply SeqL.pure; (focus (first | rfl | (go_simp; done) | (simp [Region.wanted, yielded]; done))); (focus (intro w; go_simp; with_reducible rfl)); go_simp)
        (apply SeqL.pure; (focus (first | rfl | (go_simp; done) | (simp [Region.wanted, yielded]; done))); (focus (intro w; go_simp; with_reducible rfl)); go_simp)
        (apply SeqL.pure; (focus (first | rfl | (go_simp; done) | (simp [Region.wanted, yielded]; done))); (focus (intro w; go_simp; with_reducible rfl)); go_simp)
        (apply SeqL.pure; (focus (first | rfl | (go_simp; done) | (simp [Region.wanted, yielded]; done))); (focus (intro w; go_simp; with_reducible rfl)); go_simp)
        (apply SeqL.pure; (focus (first | rfl | (go_simp; done) | (simp [Region.wanted, yielded]; done))); (focus (intro w; go_simp; with_reducible rfl)); go_simp)
        (apply SeqL.skip; (focus (first | rfl | (go_simp; done) | (simp [Region.wanted, yielded]; done))); go_simp)
        (apply SeqL.skip; (focus (first | rfl | (go_simp; done) | (simp [Region.wanted, yielded]; done))); go_simp)
        (apply SeqL.skip; (focus (first | rfl | (go_simp; done) | (simp [Region.wanted, yielded]; done))); go_simp)
        (apply SeqL.skip; (focus (first | rfl | (go_simp; done) | (simp [Region.wanted, yielded]; done))); go_simp)
        (apply SeqL.skip; (focus (first | rfl | (go_simp; done) | (simp [Region.wanted, yielded]; done))); go_simp)
        (apply SeqL.skip; (focus (first | rfl | (go_simp; done) | (simp [Region.wanted, yielded]; done))); go_simp)
        (apply SeqL.skip; (focus (first | rfl | (go_simp; done) | (simp [Region.wanted, yielded]; done))); go_simp)
        (apply SeqL.skip; (focus (first | rfl | (go_simp; done) | (simp [Region.wanted, yielded]; done))); go_simp)
        (apply SeqL.skip; (focus (first | rfl | (go_simp; done) | (simp [Region.wanted, yielded]; done))); go_simp)
        (apply SeqL.skip; (focus (first | rfl | (go_simp; done) | (simp [Region.wanted, yielded]; done))); go_simp)
        (apply SeqL.skip; (focus (first | rfl | (go_simp; done) | (simp [Region.wanted, yielded]; done))); go_simp)
        (apply SeqL.skip; (focus (first | rfl | (go_simp; done) | (simp [Region.wanted, yielded]; done))); go_simp)
        (apply SeqL.pure; (focus (first | rfl | (go_simp; done) | (simp [Region.wanted, yielded]; done))); (focus (intro w; go_simp; with_reducible rfl)); go_simp)
        (apply SeqL.pure; (focus (first | rfl | (go_simp; done) | (simp [Region.wanted, yielded]; done))); (focus (intro w; go_simp; with_reducible rfl)); go_simp)
        refine SeqL.done fun w1 hb1 => ?_
        have HB1 := Lib.hid hb1
        clear hb1
        go_wp2_with fail
        go_roundw
        case rel => exact ⟨1, by omega, by go_num, HB1.out⟩
        case measure => simp [intOf] <;> omega
      · obtain ⟨j, rfl⟩ : ∃ j, k = j + 1 := ⟨k - 1, by omega⟩
        have c0 := (HcV.out (j + 1) hlt).1
        have c1 := (HcV.out (j + 1) hlt).2
        have d1 := (HcV.out j (by omega)).2
        have ha := (wide_all (j + 1) hlt).1.1
        have hd := (wide_all j (by omega)).2 (by omega)
        generalize (wideT.getD (j + 1) (0, 0)).1 = x at *
        generalize (wideT.getD (j + 1) (0, 0)).2 = y at *
        generalize (wideT.getD j (0, 0)).2 = z at *
        have hj0 : (0 : Int) ≤ (j : Int) + 1 := by omega
        have hj1 : (0 : Int) ≤ (j : Int) := by omega
        have hj2 : (j : Int) < 37 := by omega
        have hj3 : (j : Int) + 1 < 37 := by omega
        have hj4 : IntKind.i64.wrap (j : Int) = (j : Int) := IntWalk.i64_in _ (by omega)
        go_wp2_with fail
        refine wp_region_text (fun W => Below w2.heap.size w2 W) (by kernel_rfl) (by kernel_rfl) (bl_drew HR.out) ?_
        (apply SeqL.pure; (focus (first | rfl | (go_simp; done) | (simp [Region.wanted, yielded]; done))); (focus (intro w; go_simp; with_reducible rfl)); go_simp)
        (apply SeqL.pure; (focus (first | rfl | (go_simp; done) | (simp [Region.wanted, yielded]; done))); (focus (intro w; go_simp; with_reducible rfl)); go_simp)
        (apply SeqL.pure; (focus (first | rfl | (go_simp; done) | (simp [Region.wanted, yielded]; done))); (focus (intro w; go_simp; with_reducible rfl)); go_simp)
        (apply SeqL.pure; (focus (first | rfl | (go_simp; done) | (simp [Region.wanted, yielded]; done))); (focus (intro w; go_simp; with_reducible rfl)); go_simp)
        (apply SeqL.read; (focus (first | rfl | (go_simp; done) | (simp [Region.wanted, yielded]; done))); (focus (intro W hF; have x0 := ((bcell hF).1 _ _ hbV).trans c0; go_simp; with_reducible rfl)); go_simp)
        (apply SeqL.pure; (focus (first | rfl | (go_simp; done) | (simp [Region.wanted, yielded]; done))); (focus (intro w; go_simp; with_reducible rfl)); go_simp)
        (apply SeqL.pure; (focus (first | rfl | (go_simp; done) | (simp [Region.wanted, yielded]; done))); (focus (intro w; go_simp; with_reducible rfl)); go_simp)
        (apply SeqL.pure; (focus (first | rfl | (go_simp; done) | (simp [Region.wanted, yielded]; done))); (focus (intro w; go_simp; with_reducible rfl)); go_simp)
        (apply SeqL.pure; (focus (first | rfl | (go_simp; done) | (simp [Region.wanted, yielded]; done))); (focus (intro w; go_simp; with_reducible rfl)); go_simp)
        (apply SeqL.read; (focus (first | rfl | (go_simp; done) | (simp [Region.wanted, yielded]; done))); (focus (intro W hF; have x0 := ((bcell hF).1 _ _ hbV).trans c1; go_simp; with_reducible rfl)); go_simp)
        (apply SeqL.pure; (focus (first | rfl | (go_simp; done) | (simp [Region.wanted, yielded]; done))); (focus (intro w; go_simp; with_reducible rfl)); go_simp)
        (apply SeqL.pure; (focus (first | rfl | (go_simp; done) | (simp [Region.wanted, yielded]; done))); (focus (intro w; go_simp; with_reducible rfl)); go_simp)
        (apply SeqL.pure; (focus (first | rfl | (go_simp; done) | (simp [Region.wanted, yielded]; done))); (focus (intro w; go_simp; with_reducible rfl)); go_simp)
        (apply SeqL.pure; (focus (first | rfl | (go_simp; done) | (simp [Region.wanted, yielded]; done))); (focus (intro w; go_simp; with_reducible rfl)); go_simp)
        (apply SeqL.pure; (focus (first | rfl | (go_simp; done) | (simp [Region.wanted, yielded]; done))); (focus (intro w; go_simp; with_reducible rfl)); go_simp)
        (apply SeqL.pure; (focus (first | rfl | (go_simp; done) | (simp [Region.wanted, yielded]; done))); (focus (intro w; go_simp; with_reducible rfl)); go_simp)
        (apply SeqL.pure; (focus (first | rfl | (go_simp; done) | (simp [Region.wanted, yielded]; done))); (focus (intro w; go_simp; with_reducible rfl)); go_simp)
        (apply SeqL.pure; (focus (first | rfl | (go_simp; done) | (simp [Region.wanted, yielded]; done))); (focus (intro w; go_simp; with_reducible rfl)); go_simp)
        (apply SeqL.pure; (focus (first | rfl | (go_simp; done) | (simp [Region.wanted, yielded]; done))); (focus (intro w; go_simp; with_reducible rfl)); go_simp)
        (apply SeqL.read; (focus (first | rfl | (go_simp; done) | (simp [Region.wanted, yielded]; done))); (focus (intro W hF; have x0 := ((bcell hF).1 _ _ hbV).trans c0; go_simp; with_reducible rfl)); go_simp)
        (apply SeqL.pure; (focus (first | rfl | (go_simp; done) | (simp [Region.wanted, yielded]; done))); (focus (intro w; go_simp; with_reducible rfl)); go_simp)
        (apply SeqL.pure; (focus (first | rfl | (go_simp; done) | (simp [Region.wanted, yielded]; done))); (focus (intro w; go_simp; with_reducible rfl)); go_simp)
        (apply SeqL.pure; (focus (first | rfl | (go_simp; done) | (simp [Region.wanted, yielded]; done))); (focus (intro w; go_simp; with_reducible rfl)); go_simp)
        (apply SeqL.pure; (focus (first | rfl | (go_simp; done) | (simp [Region.wanted, yielded]; done))); (focus (intro w; go_simp; with_reducible rfl)); go_simp)
        (apply SeqL.pure; (focus (first | rfl | (go_simp; done) | (simp [Region.wanted, yielded]; done))); (focus (intro w; go_simp; with_reducible rfl)); go_simp)
        (apply SeqL.read; (focus (first | rfl | (go_simp; done) | (simp [Region.wanted, yielded]; done))); (focus (intro W hF; have x0 := ((bcell hF).1 _ _ hbV).trans d1; go_simp; with_reducible rfl)); go_simp)
        (apply SeqL.pure; (focus (first | rfl | (go_simp; done) | (simp [Region.wanted, yielded]; done))); (focus (intro w; go_simp; with_reducible rfl)); go_simp)
        (apply SeqL.pure; (focus (first | rfl | (go_simp; done) | (simp [Region.wanted, yielded]; done))); (focus (intro w; go_simp; with_reducible rfl)); go_simp)
        (apply SeqL.pure; (focus (first | rfl | (go_simp; done) | (simp [Region.wanted, yielded]; done))); (focus (intro w; go_simp; with_reducible rfl)); go_simp)
        refine SeqL.done fun w1 hb1 => ?_
        have HB1 := Lib.hid hb1
        clear hb1
        go_wp2_with fail
        go_roundw
        case rel => exact ⟨j + 1 + 1, by omega, by go_num, HB1.out⟩
        case measure => simp [intOf] <;> omega
    · go_wp2_with fail
      have HR7 := Lib.hid HR.out
      clear HR
      go_loopw [8] (fun i wr => ∃ k : Nat, k ≤ 26 ∧ i = .int .i64 k ∧ Hid (Below w2.heap.size w2 wr)) (fun i _ => 26 - (intOf i).toNat)
      case atStart => exact ⟨0, Nat.zero_le _, rfl, HR7.out⟩
      case round =>
        obtain ⟨k, hk, rfl, HR⟩ := hrel
        by_cases hlt : k < 26
        · rcases Nat.eq_zero_or_pos k with hk0 | hk0
          · subst hk0
            have c0 := (HcZ.out 0 hlt).1
            have c1 := (HcZ.out 0 hlt).2
            have ha := (zero_all 0 hlt).1.1
            generalize (zeroT.getD 0 (0, 0)).1 = x at *
            generalize (zeroT.getD 0 (0, 0)).2 = y at *
            simp only [Nat.zero_mul, Nat.add_zero, Nat.zero_add] at c0 c1
            go_wp2_with fail
            refine wp_region_text (fun W => Below w2.heap.size w2 W) (by kernel_rfl) (by kernel_rfl) (bl_drew HR.out) ?_
            (apply SeqL.pure; (focus (first | rfl | (go_simp; done) | (simp [Region.wanted, yielded]; done))); (focus (intro w; go_simp; with_reducible rfl)); go_simp)
            (apply SeqL.pure; (focus (first | rfl | (go_simp; done) | (simp [Region.wanted, yielded]; done))); (focus (intro w; go_simp; with_reducible rfl)); go_simp)
            (apply SeqL.pure; (focus (first | rfl | (go_simp; done) | (simp [Region.wanted, yielded]; done))); (focus (intro w; go_simp; with_reducible rfl)); go_simp)
            (apply SeqL.pure; (focus (first | rfl | (go_simp; done) | (simp [Region.wanted, yielded]; done))); (focus (intro w; go_simp; with_reducible rfl)); go_simp)
            (apply SeqL.read; (focus (first | rfl | (go_simp; done) | (simp [Region.wanted, yielded]; done))); (focus (intro W hF; have x0 := ((bcell hF).1 _ _ hbZ).trans c0; go_simp; with_reducible rfl)); go_simp)
            (apply SeqL.pure; (focus (first | rfl | (go_simp; done) | (simp [Region.wanted, yielded]; done))); (focus (intro w; go_simp; with_reducible rfl)); go_simp)
            (apply SeqL.pure; (focus (first | rfl | (go_simp; done) | (simp [Region.wanted, yielded]; done))); (focus (intro w; go_simp; with_reducible rfl)); go_simp)
            (apply SeqL.pure; (focus (first | rfl | (go_simp; done) | (simp [Region.wanted, yielded]; done))); (focus (intro w; go_simp; with_reducible rfl)); go_simp)
            (apply SeqL.pure; (focus (first | rfl | (go_simp; done) | (simp [Region.wanted, yielded]; done))); (focus (intro w; go_simp; with_reducible rfl)); go_simp)
            (apply SeqL.read; (focus (first | rfl | (go_simp; done) | (simp [Region.wanted, yielded]; done))); (focus (intro W hF; have x0 := ((bcell hF).1 _ _ hbZ).trans c1; go_simp; with_reducible rfl)); go_simp)
            (apply SeqL.pure; (focus (first | rfl | (go_simp; done) | (simp [Region.wanted, yielded]; done))); (focus (intro w; go_simp; with_reducible rfl)); go_simp)
            (apply SeqL.pure; (focus (first | rfl | (go_simp; done) | (simp [Region.wanted, yielded]; done))); (focus (intro w; go_simp; with_reducible rfl)); go_simp)
            (apply SeqL.pure; (focus (first | rfl | (go_simp; done) | (simp [Region.wanted, yielded]; done))); (focus (intro w; go_simp; with_reducible rfl)); go_simp)
            (apply SeqL.pure; (focus (first | rfl | (go_simp; done) | (simp [Region.wanted, yielded]; done))); (focus (intro w; go_simp; with_reducible rfl)); go_simp)
            (apply SeqL.pure; (focus (first | rfl | (go_simp; done) | (simp [Region.wanted, yielded]; done))); (focus (intro w; go_simp; with_reducible rfl)); go_simp)
            (apply SeqL.skip; (focus (first | rfl | (go_simp; done) | (simp [Region.wanted, yielded]; done))); go_simp)
            (apply SeqL.skip; (focus (first | rfl | (go_simp; done) | (simp [Region.wanted, yielded]; done))); go_simp)
            (apply SeqL.skip; (focus (first | rfl | (go_simp; done) | (simp [Region.wanted, yielded]; done))); go_simp)
            (apply SeqL.skip; (focus (first | rfl | (go_simp; done) | (simp [Region.wanted, yielded]; done))); go_simp)
            (apply SeqL.skip; (focus (first | rfl | (go_simp; done) | (simp [Region.wanted, yielded]; done))); go_simp)
            (apply SeqL.skip; (focus (first | rfl | (go_simp; done) | (simp [Region.wanted, yielded]; done))); go_simp)
            (apply SeqL.skip; (focus (first | rfl | (go_simp; done) | (simp [Region.wanted, yielded]; done))); go_simp)
            (apply SeqL.skip; (focus (first | rfl | (go_simp; done) | (simp [Region.wanted, yielded]; done))); go_simp)
            (apply SeqL.skip; (focus (first | rfl | (go_simp; done) | (simp [Region.wanted, yielded]; done))); go_simp)
            (apply SeqL.skip; (focus (first | rfl | (go_simp; done) | (simp [Region.wanted, yielded]; done))); go_simp)
            (apply SeqL.skip; (focus (first | rfl | (go_simp; done) | (simp [Region.wanted, yielded]; done))); go_simp)
            (apply SeqL.skip; (focus (first | rfl | (go_simp; done) | (simp [Region.wanted, yielded]; done))); go_simp)
            (apply SeqL.pure; (focus (first | rfl | (go_simp; done) | (simp [Region.wanted, yielded]; done))); (focus (intro w; go_simp; with_reducible rfl)); go_simp)
            (apply SeqL.pure; (focus (first | rfl | (go_simp; done) | (simp [Region.wanted, yielded]; done))); (focus (intro w; go_simp; with_reducible rfl)); go_simp)
            refine SeqL.done fun w1 hb1 => ?_
            have HB1 := Lib.hid hb1
            clear hb1
            go_wp2_with fail
            go_roundw
            case rel => exact ⟨1, by omega, by go_num, HB1.out⟩
            case measure => simp [intOf] <;> omega
          · obtain ⟨j, rfl⟩ : ∃ j, k = j + 1 := ⟨k - 1, by omega⟩
            have c0 := (HcZ.out (j + 1) hlt).1
            have c1 := (HcZ.out (j + 1) hlt).2
            have d1 := (HcZ.out j (by omega)).2
            have ha := (zero_all (j + 1) hlt).1.1
            have hd := (zero_all j (by omega)).2 (by omega)
            generalize (zeroT.getD (j + 1) (0, 0)).1 = x at *
            generalize (zeroT.getD (j + 1) (0, 0)).2 = y at *
            generalize (zeroT.getD j (0, 0)).2 = z at *
            have hj0 : (0 : Int) ≤ (j : Int) + 1 := by omega
            have hj1 : (0 : Int) ≤ (j : Int) := by omega
            have hj2 : (j : Int) < 26 := by omega
            have hj3 : (j : Int) + 1 < 26 := by omega
            have hj4 : IntKind.i64.wrap (j : Int) = (j : Int) := IntWalk.i64_in _ (by omega)
            go_wp2_with fail
            refine wp_region_text (fun W => Below w2.heap.size w2 W) (by kernel_rfl) (by kernel_rfl) (bl_drew HR.out) ?_
            (apply SeqL.pure; (focus (first | rfl | (go_simp; done) | (simp [Region.wanted, yielded]; done))); (focus (intro w; go_simp; with_reducible rfl)); go_simp)
            (apply SeqL.pure; (focus (first | rfl | (go_simp; done) | (simp [Region.wanted, yielded]; done))); (focus (intro w; go_simp; with_reducible rfl)); go_simp)
            (apply SeqL.pure; (focus (first | rfl | (go_simp; done) | (simp [Region.wanted, yielded]; done))); (focus (intro w; go_simp; with_reducible rfl)); go_simp)
            (apply SeqL.pure; (focus (first | rfl | (go_simp; done) | (simp [Region.wanted, yielded]; done))); (focus (intro w; go_simp; with_reducible rfl)); go_simp)
            (apply SeqL.read; (focus (first | rfl | (go_simp; done) | (simp [Region.wanted, yielded]; done))); (focus (intro W hF; have x0 := ((bcell hF).1 _ _ hbZ).trans c0; go_simp; with_reducible rfl)); go_simp)
            (apply SeqL.pure; (focus (first | rfl | (go_simp; done) | (simp [Region.wanted, yielded]; done))); (focus (intro w; go_simp; with_reducible rfl)); go_simp)
            (apply SeqL.pure; (focus (first | rfl | (go_simp; done) | (simp [Region.wanted, yielded]; done))); (focus (intro w; go_simp; with_reducible rfl)); go_simp)
            (apply SeqL.pure; (focus (first | rfl | (go_simp; done) | (simp [Region.wanted, yielded]; done))); (focus (intro w; go_simp; with_reducible rfl)); go_simp)
            (apply SeqL.pure; (focus (first | rfl | (go_simp; done) | (simp [Region.wanted, yielded]; done))); (focus (intro w; go_simp; with_reducible rfl)); go_simp)
            (apply SeqL.read; (focus (first | rfl | (go_simp; done) | (simp [Region.wanted, yielded]; done))); (focus (intro W hF; have x0 := ((bcell hF).1 _ _ hbZ).trans c1; go_simp; with_reducible rfl)); go_simp)
            (apply SeqL.pure; (focus (first | rfl | (go_simp; done) | (simp [Region.wanted, yielded]; done))); (focus (intro w; go_simp; with_reducible rfl)); go_simp)
            (apply SeqL.pure; (focus (first | rfl | (go_simp; done) | (simp [Region.wanted, yielded]; done))); (focus (intro w; go_simp; with_reducible rfl)); go_simp)
            (apply SeqL.pure; (focus (first | rfl | (go_simp; done) | (simp [Region.wanted, yielded]; done))); (focus (intro w; go_simp; with_reducible rfl)); go_simp)
            (apply SeqL.pure; (focus (first | rfl | (go_simp; done) | (simp [Region.wanted, yielded]; done))); (focus (intro w; go_simp; with_reducible rfl)); go_simp)
            (apply SeqL.pure; (focus (first | rfl | (go_simp; done) | (simp [Region.wanted, yielded]; done))); (focus (intro w; go_simp; with_reducible rfl)); go_simp)
            (apply SeqL.pure; (focus (first | rfl | (go_simp; done) | (simp [Region.wanted, yielded]; done))); (focus (intro w; go_simp; with_reducible rfl)); go_simp)
            (apply SeqL.pure; (focus (first | rfl | (go_simp; done) | (simp [Region.wanted, yielded]; done))); (focus (intro w; go_simp; with_reducible rfl)); go_simp)
            (apply SeqL.pure; (focus (first | rfl | (go_simp; done) | (simp [Region.wanted, yielded]; done))); (focus (intro w; go_simp; with_reducible rfl)); go_simp)
            (apply SeqL.pure; (focus (first | rfl | (go_simp; done) | (simp [Region.wanted, yielded]; done))); (focus (intro w; go_simp; with_reducible rfl)); go_simp)
            (apply SeqL.read; (focus (first | rfl | (go_simp; done) | (simp [Region.wanted, yielded]; done))); (focus (intro W hF; have x0 := ((bcell hF).1 _ _ hbZ).trans c0; go_simp; with_reducible rfl)); go_simp)
            (apply SeqL.pure; (focus (first | rfl | (go_simp; done) | (simp [Region.wanted, yielded]; done))); (focus (intro w; go_simp; with_reducible rfl)); go_simp)
            (apply SeqL.pure; (focus (first | rfl | (go_simp; done) | (simp [Region.wanted, yielded]; done))); (focus (intro w; go_simp; with_reducible rfl)); go_simp)
            (apply SeqL.pure; (focus (first | rfl | (go_simp; done) | (simp [Region.wanted, yielded]; done))); (focus (intro w; go_simp; with_reducible rfl)); go_simp)
            (apply SeqL.pure; (focus (first | rfl | (go_simp; done) | (simp [Region.wanted, yielded]; done))); (focus (intro w; go_simp; with_reducible rfl)); go_simp)
            (apply SeqL.pure; (focus (first | rfl | (go_simp; done) | (simp [Region.wanted, yielded]; done))); (focus (intro w; go_simp; with_reducible rfl)); go_simp)
            (apply SeqL.read; (focus (first | rfl | (go_simp; done) | (simp [Region.wanted, yielded]; done))); (focus (intro W hF; have x0 := ((bcell hF).1 _ _ hbZ).trans d1; go_simp; with_reducible rfl)); go_simp)
            (apply SeqL.pure; (focus (first | rfl | (go_simp; done) | (simp [Region.wanted, yielded]; done))); (focus (intro w; go_simp; with_reducible rfl)); go_simp)
            (apply SeqL.pure; (focus (first | rfl | (go_simp; done) | (simp [Region.wanted, yielded]; done))); (focus (intro w; go_simp; with_reducible rfl)); go_simp)
            (apply SeqL.pure; (focus (first | rfl | (go_simp; done) | (simp [Region.wanted, yielded]; done))); (focus (intro w; go_simp; with_reducible rfl)); go_simp)
            refine SeqL.done fun w1 hb1 => ?_
            have HB1 := Lib.hid hb1
            clear hb1
            go_wp2_with fail
            go_roundw
            case rel => exact ⟨j + 1 + 1, by omega, by go_num, HB1.out⟩
            case measure => simp [intOf] <;> omega
        · go_wp2_with fail
          obtain ⟨k1, hk1⟩ := Int.eq_ofNat_of_zero_le (Int.emod_nonneg n (show (37 : Int) ≠ 0 by omega))
          obtain ⟨k2, hk2⟩ := Int.eq_ofNat_of_zero_le (Int.emod_nonneg n (show (26 : Int) ≠ 0 by omega))
          have hl1 : k1 < 37 := by have := Int.emod_lt_of_pos n (show (0 : Int) < 37 by omega); omega
          have hl2 : k2 < 26 := by have := Int.emod_lt_of_pos n (show (0 : Int) < 26 by omega); omega
          have c0 := ((bcell HR.out).1 _ _ hbV).trans (HcV.out k1 hl1).1
          have c1 := ((bcell HR.out).1 _ _ hbV).trans (HcV.out k1 hl1).2
          have d0 := ((bcell HR.out).1 _ _ hbZ).trans (HcZ.out k2 hl2).1
          have d1 := ((bcell HR.out).1 _ _ hbZ).trans (HcZ.out k2 hl2).2
          have hbV2 : bV < wr.heap.size := by have := HR.out.size; omega
          have hbZ2 : bZ < wr.heap.size := by have := HR.out.size; omega
          have W1 := Lib.hid (fun c : Int => wide_width hl1 (c := c))
          have W2 := Lib.hid (fun c : Int => zero_width hl2 (c := c))
          obtain ⟨⟨A1, A2, A3, _⟩, _⟩ := wide_all k1 hl1
          obtain ⟨⟨B1, B2, B3, _⟩, _⟩ := zero_all k2 hl2
          generalize (wideT.getD k1 (0, 0)).1 = x1 at *
          generalize (wideT.getD k1 (0, 0)).2 = x2 at *
          generalize (zeroT.getD k2 (0, 0)).1 = y1 at *
          generalize (zeroT.getD k2 (0, 0)).2 = y2 at *
          have hw0 : IntKind.i64.wrap n = n := IntWalk.i64_in _ (by omega)
          have ht1 : n.tmod 37 = (k1 : Int) := by rw [Int.tmod_eq_emod_of_nonneg h00, hk1]
          have ht2 : n.tmod 26 = (k2 : Int) := by rw [Int.tmod_eq_emod_of_nonneg h00, hk2]
          have hv1 : (0 : Int) ≤ (k1 : Int) := by omega
          have hv2 : (0 : Int) ≤ (k2 : Int) := by omega
          have hv3 : (k1 : Int) < 37 := by omega
          have hv4 : (k2 : Int) < 26 := by omega
          apply wp_region_made (hm := by kernel_rfl)
          rotate_left 2
          · (apply SeqN.pure; (focus (first | rfl | (go_simp; done) | (simp [Region.wanted, yielded]; done))); (focus (intro w; go_simp; with_reducible rfl)); go_simp)
            (apply SeqN.pure; (focus (first | rfl | (go_simp; done) | (simp [Region.wanted, yielded]; done))); (focus (intro w; go_simp; with_reducible rfl)); go_simp)
            (apply SeqN.pure; (focus (first | rfl | (go_simp; done) | (simp [Region.wanted, yielded]; done))); (focus (intro w; go_simp; with_reducible rfl)); go_simp)
            (apply SeqN.pure; (focus (first | rfl | (go_simp; done) | (simp [Region.wanted, yielded]; done))); (focus (intro w; go_simp; with_reducible rfl)); go_simp)
            (apply SeqN.pure; (focus (first | rfl | (go_simp; done) | (simp [Region.wanted, yielded]; done))); (focus (intro w; go_simp; with_reducible rfl)); go_simp)
            (apply SeqN.pure; (focus (first | rfl | (go_simp; done) | (simp [Region.wanted, yielded]; done))); (focus (intro w; go_simp; with_reducible rfl)); go_simp)
            (apply SeqN.pure; (focus (first | rfl | (go_simp; done) | (simp [Region.wanted, yielded]; done))); (focus (intro w; go_simp; with_reducible rfl)); go_simp)
            (apply SeqN.read; (focus (first | rfl | (go_simp; done) | (simp [Region.wanted, yielded]; done))); (focus (intro W hF; have x0 := ((bcell hF).1 _ _ hbV2).trans c0; have x1 := ((bcell hF).1 _ _ hbV2).trans c1; go_simp; with_reducible rfl)); go_simp)
            (apply SeqN.pure; (focus (first | rfl | (go_simp; done) | (simp [Region.wanted, yielded]; done))); (focus (intro w; go_simp; with_reducible rfl)); go_simp)
            (apply SeqN.pure; (focus (first | rfl | (go_simp; done) | (simp [Region.wanted, yielded]; done))); (focus (intro w; go_simp; with_reducible rfl)); go_simp)
            (apply SeqN.pure; (focus (first | rfl | (go_simp; done) | (simp [Region.wanted, yielded]; done))); (focus (intro w; go_simp; with_reducible rfl)); go_simp)
            (apply SeqN.pure; (focus (first | rfl | (go_simp; done) | (simp [Region.wanted, yielded]; done))); (focus (intro w; go_simp; with_reducible rfl)); go_simp)
            (apply SeqN.pure; (focus (first | rfl | (go_simp; done) | (simp [Region.wanted, yielded]; done))); (focus (intro w; go_simp; with_reducible rfl)); go_simp)
            (apply SeqN.pure; (focus (first | rfl | (go_simp; done) | (simp [Region.wanted, yielded]; done))); (focus (intro w; go_simp; with_reducible rfl)); go_simp)
            (apply SeqN.pure; (focus (first | rfl | (go_simp; done) | (simp [Region.wanted, yielded]; done))); (focus (intro w; go_simp; with_reducible rfl)); go_simp)
            (apply SeqN.read; (focus (first | rfl | (go_simp; done) | (simp [Region.wanted, yielded]; done))); (focus (intro W hF; have x0 := ((bcell hF).1 _ _ hbZ2).trans d0; have x1 := ((bcell hF).1 _ _ hbZ2).trans d1; go_simp; with_reducible rfl)); go_simp)
            (apply SeqN.made (ob := .cells #[.int .i32 0, .int .i32 0] 36); (focus (first | rfl | (go_simp; done) | (simp [Region.wanted, yielded]; done))); (focus (intro w hF; kernel_rfl)); intro g1 hg1; go_simp)
            (apply SeqN.made (ob := .cells #[.int .i32 0, .int .i32 0] 36); (focus (first | rfl | (go_simp; done) | (simp [Region.wanted, yielded]; done))); (focus (intro w hF; kernel_rfl)); intro g2 hg2; go_simp)
            (apply SeqN.wrote (t := 16) (ob := .cells #[.int .i32 x1, .int .i32 x2] 36) g1 (.cells #[.int .i32 0, .int .i32 0] 36); (focus (first | rfl | (go_simp; done) | (simp [Region.wanted, yielded]; done))); (focus rfl); (focus (intro W hF hgW; refine ⟨W.setRow g1 #[.int .i32 x1, .int .i32 x2], ?_, only_setRow hgW⟩; exact exec_store rfl rfl rfl (run_store_whole Try.prog 36 36 _ (by kernel_rfl) (by kernel_rfl) W g1 _ hgW (by kernel_rfl)))); go_simp)
            (apply SeqN.wrote (t := 17) (ob := .cells #[.int .i32 y1, .int .i32 y2] 36) g2 (.cells #[.int .i32 0, .int .i32 0] 36); (focus (first | rfl | (go_simp; done) | (simp [Region.wanted, yielded]; done))); (focus rfl); (focus (intro W hF hgW; refine ⟨W.setRow g2 #[.int .i32 y1, .int .i32 y2], ?_, only_setRow hgW⟩; exact exec_store rfl rfl rfl (run_store_whole Try.prog 36 36 _ (by kernel_rfl) (by kernel_rfl) W g2 _ hgW (by kernel_rfl)))); go_simp)
            apply SeqN.done
            intro W hW hG
            have hg1 : W.heap[g1]? = some (.cells #[.int .i32 x1, .int .i32 x2] 36) := (hG.1 16 g1 _ rfl).2
            have hg2 : W.heap[g2]? = some (.cells #[.int .i32 y1, .int .i32 y2] 36) := (hG.1 17 g2 _ rfl).2
            have z1 := lt_of_heap hg1
            have z2 := lt_of_heap hg2
            have HBW := Lib.hid (bl_then HR.out HR.out.size hW)
            have HB0 := Lib.hid (bl_then HB.out HB.out.size HBW.out)
            have e1 : W.cell? ⟨g1, 0, none⟩ = some (.int .i32 x1) := (cell_of_row W _ 0 _ _ (0, 0) hg1).trans rfl
            have e2 : W.cell? ⟨g1, 1, none⟩ = some (.int .i32 x2) := (cell_of_row W _ 1 _ _ (0, 0) hg1).trans rfl
            have f1 : W.cell? ⟨g2, 0, none⟩ = some (.int .i32 y1) := (cell_of_row W _ 0 _ _ (0, 0) hg2).trans rfl
            have f2 : W.cell? ⟨g2, 1, none⟩ = some (.int .i32 y2) := (cell_of_row W _ 1 _ _ (0, 0) hg2).trans rfl
            clear hG hW c0 c1 d0 d1 hg1 hg2
            obtain ⟨r, C, hr, s3, C0, C1⟩ : ∃ r C, by'.tmod (x2 - x1 + 1) = r ∧ IntKind.i32.wrap (x1 + r) = C ∧ x1 ≤ C ∧ C ≤ x2 := by
              have q0 := Int.emod_nonneg by' (show x2 - x1 + 1 ≠ 0 by omega)
              have q1 := Int.emod_lt_of_pos by' (show 0 < x2 - x1 + 1 by omega)
              exact ⟨_, _, Int.tmod_eq_emod_of_nonneg h10, IntWalk.i32_in _ (by omega), by omega, by omega⟩
            obtain ⟨t, D, ht, s6, D0, D1⟩ : ∃ r C, by'.tmod (y2 - y1 + 1) = r ∧ IntKind.i32.wrap (y1 + r) = C ∧ y1 ≤ C ∧ C ≤ y2 := by
              have q0 := Int.emod_nonneg by' (show y2 - y1 + 1 ≠ 0 by omega)
              have q1 := Int.emod_lt_of_pos by' (show 0 < y2 - y1 + 1 by omega)
              exact ⟨_, _, Int.tmod_eq_emod_of_nonneg h10, IntWalk.i32_in _ (by omega), by omega, by omega⟩
            have s0 : IntKind.i32.wrap by' = by' := IntWalk.i32_in _ (by omega)
            have s1 : IntKind.i32.wrap (x2 - x1) = x2 - x1 := IntWalk.i32_in _ (by omega)
            have s2 : IntKind.i32.wrap (x2 - x1 + 1) = x2 - x1 + 1 := IntWalk.i32_in _ (by omega)
            have s4 : IntKind.i32.wrap (y2 - y1) = y2 - y1 := IntWalk.i32_in _ (by omega)
            have s5 : IntKind.i32.wrap (y2 - y1 + 1) = y2 - y1 + 1 := IntWalk.i32_in _ (by omega)
            have n1 : ¬ x2 - x1 + 1 = 0 := by omega
            have n2 : ¬ y2 - y1 + 1 = 0 := by omega
            have P1 := Lib.hid (W1.out C C0 C1)
            have P2 := Lib.hid (W2.out D D0 D1)
            go_wp2_with fail
            refine wp_region_text (fun V => Below W.heap.size W V) (by kernel_rfl) (by kernel_rfl) (bl_drew (Below.refl _ _)) ?_
            (apply SeqL.pure; (focus (first | rfl | (go_simp; done) | (simp [Region.wanted, yielded]; done))); (focus (intro w; go_simp; with_reducible rfl)); go_simp)
            (apply SeqL.read; (focus (first | rfl | (go_simp; done) | (simp [Region.wanted, yielded]; done))); (focus (intro W hF; have x0 := ((bcell hF).1 _ _ z1).trans e1; go_simp; with_reducible rfl)); go_simp)
            (apply SeqL.pure; (focus (first | rfl | (go_simp; done) | (simp [Region.wanted, yielded]; done))); (focus (intro w; go_simp; with_reducible rfl)); go_simp)
            (apply SeqL.pure; (focus (first | rfl | (go_simp; done) | (simp [Region.wanted, yielded]; done))); (focus (intro w; go_simp; with_reducible rfl)); go_simp)
            (apply SeqL.pure; (focus (first | rfl | (go_simp; done) | (simp [Region.wanted, yielded]; done))); (focus (intro w; go_simp; with_reducible rfl)); go_simp)
            (apply SeqL.read; (focus (first | rfl | (go_simp; done) | (simp [Region.wanted, yielded]; done))); (focus (intro W hF; have x0 := ((bcell hF).1 _ _ z1).trans e2; go_simp; with_reducible rfl)); go_simp)
            (apply SeqL.pure; (focus (first | rfl | (go_simp; done) | (simp [Region.wanted, yielded]; done))); (focus (intro w; go_simp; with_reducible rfl)); go_simp)
            (apply SeqL.read; (focus (first | rfl | (go_simp; done) | (simp [Region.wanted, yielded]; done))); (focus (intro W hF; have x0 := ((bcell hF).1 _ _ z1).trans e1; go_simp; with_reducible rfl)); go_simp)
            (apply SeqL.pure; (focus (first | rfl | (go_simp; done) | (simp [Region.wanted, yielded]; done))); (focus (intro w; go_simp; with_reducible rfl)); go_simp)
            (apply SeqL.pure; (focus (first | rfl | (go_simp; done) | (simp [Region.wanted, yielded]; done))); (focus (intro w; go_simp; with_reducible rfl)); go_simp)
            (apply SeqL.pure; (focus (first | rfl | (go_simp; done) | (simp [Region.wanted, yielded]; done))); (focus (intro w; go_simp; with_reducible rfl)); go_simp)
            (apply SeqL.pure; (focus (first | rfl | (go_simp; done) | (simp [Region.wanted, yielded]; done))); (focus (intro w; go_simp; with_reducible rfl)); go_simp)
            (apply SeqL.pure; (focus (first | rfl | (go_simp; done) | (simp [Region.wanted, yielded]; done))); (focus (intro w; go_simp; with_reducible rfl)); go_simp)
            refine SeqL.done fun w3 hb3 => ?_
            have f3 := ((bcell hb3).1 _ _ z2).trans f1
            have f4 := ((bcell hb3).1 _ _ z2).trans f2
            have z3 : g2 < w3.heap.size := by have := hb3.size; omega
            have HB3 := Lib.hid (bl_then HB0.out HB0.out.size hb3)
            have HZ3 := Lib.hid ((HZ.out.below HBW.out).below hb3)
            clear hb3 e1 e2 f1 f2
            go_wp2_with fail
            refine wp_region_text (fun V => Below w3.heap.size w3 V) (by kernel_rfl) (by kernel_rfl) (bl_drew (Below.refl _ _)) ?_
            (apply SeqL.pure; (focus (first | rfl | (go_simp; done) | (simp [Region.wanted, yielded]; done))); (focus (intro w; go_simp; with_reducible rfl)); go_simp)
            (apply SeqL.read; (focus (first | rfl | (go_simp; done) | (simp [Region.wanted, yielded]; done))); (focus (intro W hF; have x0 := ((bcell hF).1 _ _ z3).trans f3; go_simp; with_reducible rfl)); go_simp)
            (apply SeqL.pure; (focus (first | rfl | (go_simp; done) | (simp [Region.wanted, yielded]; done))); (focus (intro w; go_simp; with_reducible rfl)); go_simp)
            (apply SeqL.pure; (focus (first | rfl | (go_simp; done) | (simp [Region.wanted, yielded]; done))); (focus (intro w; go_simp; with_reducible rfl)); go_simp)
            (apply SeqL.pure; (focus (first | rfl | (go_simp; done) | (simp [Region.wanted, yielded]; done))); (focus (intro w; go_simp; with_reducible rfl)); go_simp)
            (apply SeqL.read; (focus (first | rfl | (go_simp; done) | (simp [Region.wanted, yielded]; done))); (focus (intro W hF; have x0 := ((bcell hF).1 _ _ z3).trans f4; go_simp; with_reducible rfl)); go_simp)
            (apply SeqL.pure; (focus (first | rfl | (go_simp; done) | (simp [Region.wanted, yielded]; done))); (focus (intro w; go_simp; with_reducible rfl)); go_simp)
            (apply SeqL.read; (focus (first | rfl | (go_simp; done) | (simp [Region.wanted, yielded]; done))); (focus (intro W hF; have x0 := ((bcell hF).1 _ _ z3).trans f3; go_simp; with_reducible rfl)); go_simp)
            (apply SeqL.pure; (focus (first | rfl | (go_simp; done) | (simp [Region.wanted, yielded]; done))); (focus (intro w; go_simp; with_reducible rfl)); go_simp)
            (apply SeqL.pure; (focus (first | rfl | (go_simp; done) | (simp [Region.wanted, yielded]; done))); (focus (intro w; go_simp; with_reducible rfl)); go_simp)
            (apply SeqL.pure; (focus (first | rfl | (go_simp; done) | (simp [Region.wanted, yielded]; done))); (focus (intro w; go_simp; with_reducible rfl)); go_simp)
            (apply SeqL.pure; (focus (first | rfl | (go_simp; done) | (simp [Region.wanted, yielded]; done))); (focus (intro w; go_simp; with_reducible rfl)); go_simp)
            (apply SeqL.pure; (focus (first | rfl | (go_simp; done) | (simp [Region.wanted, yielded]; done))); (focus (intro w; go_simp; with_reducible rfl)); go_simp)
            refine SeqL.done fun w4 hb4 => ?_
            have HB4 := Lib.hid (bl_then HB3.out HB3.out.size hb4)
            have HZ4 := Lib.hid (HZ3.out.below hb4)
            clear hb4 f3 f4
            go_wp2_with fail
            refine (anchored_any _).mono ?_
            rintro e w5 ⟨rfl, hb5⟩
            have HB5 := Lib.hid (bl_then HB4.out HB4.out.size hb5)
            have HZ5 := Lib.hid (HZ4.out.below hb5)
            clear hb5
            go_wp2_with fail
            refine (of_any C _).mono ?_
            rcases P1.out with ⟨Q1, Q2⟩ | ⟨Q1, Q2⟩
            · rw [Q2]
              rintro e w6 ⟨rfl, hb6⟩
              have HB6 := Lib.hid (bl_then HB5.out HB5.out.size hb6)
              clear hb6 Q1 Q2
              go_wp2_with fail
              refine (of_any D _).mono ?_
              rw [P2.out]
              rintro e w7 ⟨rfl, hb7⟩
              go_wp2_with fail
              go_ret
              exact ⟨rfl, bl_then HB6.out HB6.out.size hb7⟩
            · rw [Q2]
              rintro e w6 ⟨rfl, hb6⟩
              have HB6 := Lib.hid (bl_then HB5.out HB5.out.size hb6)
              have HZ6 := Lib.hid (HZ5.out.below hb6)
              have HQ1 := Lib.hid Q1
              have HQ2 := Lib.hid Q2
              clear hb6 Q1 Q2
              go_wp2_with fail
              refine (in_any _ 26 zc zeroT C _ HZ6.out (by omega)).mono ?_
              rw [HQ1.out]
              rintro e w7 ⟨rfl, hb7⟩
              have HB7 := Lib.hid (bl_then HB6.out HB6.out.size hb7)
              clear hb7
              go_wp2_with fail
              refine (of_any C _).mono ?_
              rw [HQ2.out]
              rintro e w8 ⟨rfl, hb8⟩
              have HB8 := Lib.hid (bl_then HB7.out HB7.out.size hb8)
              clear hb8
              go_wp2_with fail
              refine (of_any D _).mono ?_
              rw [P2.out]
              rintro e w9 ⟨rfl, hb9⟩
              go_wp2_with fail
              go_ret
              exact ⟨rfl, bl_then HB8.out HB8.out.size hb9⟩
          · rfl
          · kernel_rfl
end Go.Proofs.Ytpgeohigdblooaa
