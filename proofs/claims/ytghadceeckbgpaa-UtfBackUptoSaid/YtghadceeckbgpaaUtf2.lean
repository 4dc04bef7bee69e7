/- What is proved: what begun, character and next of package utf answer when they are called; conditions: the slice reads as it is said to, and is not empty. -/
import Derived.Test.YtghadceeckbgpaaUtf
import Derived.Laws.BitsAllLaws
set_option linter.unusedSimpArgs false
set_option linter.unusedVariables false
namespace Go.Proofs.Ytghadceeckbgpaa
open Go.RowKit
set_option maxRecDepth 100000
set_option maxHeartbeats 4000000
/-- From what to what the k-th byte goes. -/
def loK (b : Int) (k : Nat) : Int := if k = 1 then loS b else 128
def hiK (b : Int) (k : Nat) : Int := if k = 1 then hiS b else 191
theorem loS_b (b : Int) : 128 ≤ loS b ∧ loS b ≤ 160 := by unfold loS; split <;> (try split) <;> omega
theorem hiS_b (b : Int) : 143 ≤ hiS b ∧ hiS b ≤ 191 := by unfold hiS; split <;> (try split) <;> omega
theorem loK_b (b : Int) (k : Nat) : 128 ≤ loK b k ∧ loK b k ≤ 160 := by have := loS_b b; unfold loK; split <;> omega
theorem hiK_b (b : Int) (k : Nat) : 143 ≤ hiK b k ∧ hiK b k ≤ 191 := by have := hiS_b b; unfold hiK; split <;> omega
theorem szS_le (b : Int) : szS b ≤ 4 := by unfold szS; repeat' split <;> try omega
/-- How many bytes, from the k-th on, go on with the form that the first begins. -/
def cntF : Nat → Nat → List Int → Nat
  | 0, k, _ => k
  | f + 1, k, bs => if k < szS (bs.getD 0 0) ∧ k < bs.length ∧ loK (bs.getD 0 0) k ≤ bs.getD k 0 ∧ bs.getD k 0 ≤ hiK (bs.getD 0 0) k then cntF f (k + 1) bs else k
def begS (bs : List Int) : Nat × Nat := if szS (bs.getD 0 0) = 0 then (0, 0) else (cntF 4 1 bs, szS (bs.getD 0 0))
theorem cntF_next {f k : Nat} {bs : List Int} (h : k < szS (bs.getD 0 0) ∧ k < bs.length ∧ loK (bs.getD 0 0) k ≤ bs.getD k 0 ∧ bs.getD k 0 ≤ hiK (bs.getD 0 0) k) : cntF (f + 1) k bs = cntF f (k + 1) bs := by rw [cntF, if_pos h]
theorem cntF_stop {f k : Nat} {bs : List Int} (h : ¬ (k < szS (bs.getD 0 0) ∧ k < bs.length ∧ loK (bs.getD 0 0) k ≤ bs.getD k 0 ∧ bs.getD k 0 ≤ hiK (bs.getD 0 0) k)) : cntF f k bs = k := by
  cases f with
  | zero => rfl
  | succ f => rw [cntF, if_neg h]
theorem cntF_b : ∀ (f k : Nat) (bs : List Int), k ≤ bs.length → k ≤ cntF f k bs ∧ cntF f k bs ≤ bs.length
  | 0, k, bs, h => ⟨Nat.le_refl _, h⟩
  | f + 1, k, bs, h => by
    unfold cntF
    split
    · rename_i h2
      have := cntF_b f (k + 1) bs h2.2.1
      omega
    · omega
theorem cntF_sz : ∀ (f k : Nat) (bs : List Int), k ≤ szS (bs.getD 0 0) → cntF f k bs ≤ szS (bs.getD 0 0)
  | 0, k, bs, h => h
  | f + 1, k, bs, h => by
    unfold cntF
    split
    · rename_i h2
      exact cntF_sz f (k + 1) bs h2.1
    · exact h
theorem begS_b (bs : List Int) (h : 0 < bs.length) : (begS bs).1 ≤ bs.length ∧ (begS bs).1 ≤ (begS bs).2 ∧ (begS bs).2 ≤ 4 ∧ (0 < (begS bs).2 → 0 < (begS bs).1) := by
  have hs := szS_le (bs.getD 0 0)
  unfold begS
  split
  · simp
  · have h1 := cntF_b 4 1 bs h
    have h2 := cntF_sz 4 1 bs (by omega)
    refine ⟨h1.2, h2, hs, fun _ => ?_⟩
    show 0 < cntF 4 1 bs
    omega
theorem begun_any (v : Value) (bs : List Int) (w : World) (h : BB w v bs) (hp : 0 < bs.length) :
    Calls Try.prog 29 #[v] w fun e w' => e = .returned (.tuple #[.int .i64 (begS bs).1, .int .i64 (begS bs).2]) ∧ Below w.heap.size w w' := by
  obtain ⟨hok, hlen, A, cap, rfl, hr, hnc, hlc, hcm⟩ := h
  have HR := Lib.hid hr
  have HOK := Lib.hid hok
  obtain ⟨b, off, rfl, hc⟩ := hr.2 hp
  have hbl := hr.lt_ hp rfl
  have c0 := hc 0 hp
  have HC := Lib.hid hc
  have hb0 := hok.getD 0
  have hl := loS_b (bs.getD 0 0)
  have hh := hiS_b (bs.getD 0 0)
  have hs := szS_le (bs.getD 0 0)
  rw [Nat.add_zero] at c0
  have HBd := Lib.hid (fun W => bounds_any (bs.getD 0 0) W hb0)
  have H0 : Hid (szS (bs.getD 0 0) = 0 → begS bs = (0, 0)) := Lib.hid (fun h0 => by unfold begS; rw [if_pos h0])
  have H1 : Hid (0 < szS (bs.getD 0 0) → begS bs = (cntF 4 1 bs, szS (bs.getD 0 0))) := Lib.hid (fun h0 => by unfold begS; rw [if_neg (by omega)])
  have HN : Hid (∀ f k, k < szS (bs.getD 0 0) ∧ k < bs.length ∧ loK (bs.getD 0 0) k ≤ bs.getD k 0 ∧ bs.getD k 0 ≤ hiK (bs.getD 0 0) k → cntF (f + 1) k bs = cntF f (k + 1) bs) := Lib.hid (fun f k h => cntF_next h)
  have HT : Hid (∀ f k, ¬ (k < szS (bs.getD 0 0) ∧ k < bs.length ∧ loK (bs.getD 0 0) k ≤ bs.getD k 0 ∧ bs.getD k 0 ≤ hiK (bs.getD 0 0) k) → cntF f k bs = k) := Lib.hid (fun f k h => cntF_stop h)
  have HL : Hid (loK (bs.getD 0 0) 1 = loS (bs.getD 0 0) ∧ hiK (bs.getD 0 0) 1 = hiS (bs.getD 0 0) ∧ ∀ k, k ≠ 1 → loK (bs.getD 0 0) k = 128 ∧ hiK (bs.getD 0 0) k = 191) := Lib.hid ⟨if_pos rfl, if_pos rfl, fun k hk => ⟨if_neg hk, if_neg hk⟩⟩
  have HKB : Hid (∀ k, (128 ≤ loK (bs.getD 0 0) k ∧ loK (bs.getD 0 0) k ≤ 160) ∧ 143 ≤ hiK (bs.getD 0 0) k ∧ hiK (bs.getD 0 0) k ≤ 191) := Lib.hid (fun k => ⟨loK_b _ k, hiK_b _ k⟩)
  clear hr hok hc
  generalize szS (bs.getD 0 0) = sz at *
  generalize loS (bs.getD 0 0) = lo at *
  generalize hiS (bs.getD 0 0) = hi at *
  generalize loK (bs.getD 0 0) = lk at *
  generalize hiK (bs.getD 0 0) = hk at *
  generalize hx0 : bs.getD 0 0 = b0 at *
  clear hx0
  go_enter Try.func29, Try.ntmps29
  go_wp2_with fail
  refine (HBd.out w).mono ?_
  rintro e w1 ⟨rfl, hb⟩
  have hz1 := hb.size
  have HB := Lib.hid hb
  clear hb
  by_cases h0 : sz = 0
  · subst h0
    have HS := Lib.hid (H0.out rfl)
    clear c0 hb0 HN HT HL HKB
    go_wp2_with fail
    refine bodyPost_ret (v := .tuple #[.int .i64 0, .int .i64 0]) (by simp [results, Try.results29, go_sem]) rfl ?_
    rw [HS.out]
    exact ⟨rfl, by have hb := HB.out; (repeat' (first | (with_reducible exact Below.refl _ _) | (with_reducible assumption) | (with_reducible refine Below.alloc ?_ ?_ _) | (with_reducible refine below_setRow ?_ ?_ _) | (with_reducible refine bl_drew ?_) | (with_reducible refine bl_drewN ?_ _) | (with_reducible refine Below.setCell ?_ ?_ _) | (with_reducible refine bl_then ?_ ?_ hb) | (with_reducible refine bl_then ?_ ?_ hb1) | (with_reducible refine bl_then ?_ ?_ hb2) | (with_reducible refine bl_then ?_ ?_ hb3) | (with_reducible refine bl_then ?_ ?_ hb4) | (with_reducible refine bl_then ?_ ?_ hb5) | (with_reducible refine bl_then ?_ ?_ hb6) | (with_reducible refine bl_then ?_ ?_ hb7) | (with_reducible refine bl_then ?_ ?_ hb8) | (with_reducible exact Nat.le_refl _) | omega | (simp only [World.size_alloc, World.size_setCell, World.size_drew, size_setRow]; omega) | (simp; omega) | (simp; done)))⟩
  · have hsp : 0 < sz := by omega
    have HS := Lib.hid (H1.out hsp)
    have hne : ((sz : Int) == 0) = false := by simp; omega
    clear h0 H0 H1
    go_wp2_with fail
    obtain ⟨hl1, hh1, hrest⟩ := HL.out
    go_loopw [2] (fun a wr => ∃ k : Nat, a = .int .i64 k ∧ 1 ≤ k ∧ k ≤ sz ∧ k ≤ bs.length ∧ Hid (begS bs = (cntF (5 - k) k bs, sz)) ∧ Hid (Below w.heap.size w wr) ∧ wr.heap[w1.heap.size]? = some (.cells #[.int .u8 (lk k), .int .u8 (hk k)] 58 (0, 0))) (fun a _ => 5 - (intOf a).toNat)
    case atStart =>
      refine ⟨1, rfl, by omega, by omega, by omega, HS, Lib.hid (by have hb := HB.out; (repeat' (first | (with_reducible exact Below.refl _ _) | (with_reducible assumption) | (with_reducible refine Below.alloc ?_ ?_ _) | (with_reducible refine below_setRow ?_ ?_ _) | (with_reducible refine bl_drew ?_) | (with_reducible refine bl_drewN ?_ _) | (with_reducible refine Below.setCell ?_ ?_ _) | (with_reducible refine bl_then ?_ ?_ hb) | (with_reducible refine bl_then ?_ ?_ hb1) | (with_reducible refine bl_then ?_ ?_ hb2) | (with_reducible refine bl_then ?_ ?_ hb3) | (with_reducible refine bl_then ?_ ?_ hb4) | (with_reducible refine bl_then ?_ ?_ hb5) | (with_reducible refine bl_then ?_ ?_ hb6) | (with_reducible refine bl_then ?_ ?_ hb7) | (with_reducible refine bl_then ?_ ?_ hb8) | (with_reducible exact Nat.le_refl _) | omega | (simp only [World.size_alloc, World.size_setCell, World.size_drew, size_setRow]; omega) | (simp; omega) | (simp; done)))), ?_⟩
      rw [heap_alloc_last, hl1, hh1]
    case round =>
      have HB1 := HB
      clear HB HS hz1 hl hh hl1 hh1 hrest
      obtain ⟨k, rfl, hk1, hks, hkl, HS, HB, hg⟩ := hrel
      have hzr := HB.out.size
      have d0 : wr.cell? ⟨w1.heap.size, 0, none⟩ = some (.int .u8 (lk k)) := (cell_of_row wr _ 0 _ _ (0, 0) hg).trans rfl
      have d1 : wr.cell? ⟨w1.heap.size, 1, none⟩ = some (.int .u8 (hk k)) := (cell_of_row wr _ 1 _ _ (0, 0) hg).trans rfl
      have hbo := block_lt_of_cell d0
      have f0 := frozen_of_row wr w1.heap.size 0 _ _ hg
      have f1 := frozen_of_row wr w1.heap.size 1 _ _ hg
      have hbs := HB1.out.size
      generalize w1.heap.size = Ob at *
      obtain ⟨hlo, hhi⟩ := HKB.out k
      have HG := Lib.hid hg
      clear hg c0 hb0
      by_cases h1 : k < sz
      · by_cases h2 : k < bs.length
        · have cx : wr.cell? ⟨b, off + k, none⟩ = some (.int .u8 (bs.getD k 0)) := ((bcell HB.out).1 b _ hbl).trans (HC.out k h2)
          have hx := HOK.out.getD k
          have HNk := Lib.hid (HN.out (5 - (k + 1)) k)
          have HTk := Lib.hid (HT.out (5 - k) k)
          clear HN HT
          rw [show 5 - (k + 1) + 1 = 5 - k by omega] at HNk
          obtain ⟨x, hxe⟩ : ∃ x, bs.getD k 0 = x := ⟨_, rfl⟩
          rw [hxe] at hx cx HNk HTk
          clear hxe
          have HL1 := (HL.out.2.2 (k + 1) (by omega))
          obtain ⟨l1, l2⟩ := HL1
          have HLk := Lib.hid (And.intro l1 l2)
          clear l1 l2
          clear HL HKB
          generalize lk k = lo at *
          generalize hk k = hi at *
          by_cases h3 : x < lo
          · have HS2 := Lib.hid (HS.out.trans (by rw [HTk.out (by omega)]))
            clear HS HTk HNk HLk
            have e3 : decide (lo ≤ x) = false := decide_eq_false (by omega)
            (go_wp2_with fail; go_region; go_wp2_with fail; refine bodyPost_ret (v := .tuple #[.int .i64 k, .int .i64 sz]) (by simp [results, Try.results29, go_sem]) rfl ?_; rw [HS2.out]; exact ⟨rfl, bl_drew HB.out⟩)
          · by_cases h4 : hi < x
            · have HS2 := Lib.hid (HS.out.trans (by rw [HTk.out (by omega)]))
              clear HS HTk HNk HLk
              have e3 : decide (lo ≤ x) = true := decide_eq_true (by omega)
              have e4 : decide (x ≤ hi) = false := decide_eq_false (by omega)
              (go_wp2_with fail; go_region; go_wp2_with fail; refine bodyPost_ret (v := .tuple #[.int .i64 k, .int .i64 sz]) (by simp [results, Try.results29, go_sem]) rfl ?_; rw [HS2.out]; exact ⟨rfl, bl_drew HB.out⟩)
            · have HS2 := Lib.hid (HS.out.trans (by rw [HNk.out (by omega)]))
              clear HS HTk HNk
              have e3 : decide (lo ≤ x) = true := decide_eq_true (by omega)
              have e4 : decide (x ≤ hi) = true := decide_eq_true (by omega)
              go_wp2_with fail
              go_region
              go_wp2_with fail
              go_roundw
              case rel =>
                refine ⟨k + 1, by go_num, by omega, by omega, by omega, HS2, ?_, ?_⟩
                · exact ((bl_drew HB.out).setCell hbs _).setCell hbs _
                · rw [HLk.out.1, HLk.out.2]
                  exact heap_setCell_same _ _ 1 _ _ _ (heap_setCell_same _ _ 0 _ _ _ HG.out)
              case measure =>
                simp [intOf]
                omega
        · have HS2 := Lib.hid (HS.out.trans (by rw [HT.out (5 - k) k (by omega)]))
          clear HS HT HN HL HKB
          generalize lk k = lo at *
          generalize hk k = hi at *
          (go_wp2_with fail; go_region; go_wp2_with fail; refine bodyPost_ret (v := .tuple #[.int .i64 k, .int .i64 sz]) (by simp [results, Try.results29, go_sem]) rfl ?_; rw [HS2.out]; exact ⟨rfl, bl_drew HB.out⟩)
      · have HS2 := Lib.hid (HS.out.trans (by rw [HT.out (5 - k) k (by omega)]))
        clear HS HT HN HL HKB
        generalize lk k = lo at *
        generalize hk k = hi at *
        (go_wp2_with fail; go_region; go_wp2_with fail; refine bodyPost_ret (v := .tuple #[.int .i64 k, .int .i64 sz]) (by simp [results, Try.results29, go_sem]) rfl ?_; rw [HS2.out]; exact ⟨rfl, bl_drew HB.out⟩)
end Go.Proofs.Ytghadceeckbgpaa
