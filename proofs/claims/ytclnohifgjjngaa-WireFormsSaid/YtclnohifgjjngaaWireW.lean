/- What is proved: the law WireForms returns true when it is called; conditions: the slice reads as it is said to. -/
import Derived.Test.YtclnohifgjjngaaWireU
set_option linter.unusedSimpArgs false
set_option linter.unusedVariables false
namespace Go.Proofs.Ytclnohifgjjngaa
open Go.RowKit
set_option maxRecDepth 100000
set_option maxHeartbeats 8000000
theorem forms_law (v : Value) (bs : List Int) (w : World) (hv : BB w v bs) : Calls Try.prog 7 #[v] w fun e w' => e = .returned (.bool true) ∧ Below w.heap.size w w' := by
  have hz : ∀ w, (zeroValue 34).run Try.prog w = .ok (.agg #[.int .u64 0, .int .u64 0, .int .u64 0, .int .u64 0, .slice none 0 0]) w := zero_ins
  have HV := Lib.hid hv
  have HRU := Lib.hid (readuint_any v bs w hv)
  have hg := readS_good hv.ok
  have HOKB := Lib.hid hv.ok
  have HLB : Hid (bs.length ≤ 140737488355328) := Lib.hid hv.len
  have hin : readE bs ≠ 0 → ∃ er2, er2 ≠ 0 ∧ readE bs = er2 := fun h => ⟨_, h, rfl⟩
  have HDK : Hid (okB (readD bs) ∧ (readD bs).length ≤ 140737488355328) := Lib.hid (by have h1 := readD_ok hv.ok; have h2 := hv.len; exact ⟨h1.1, by omega⟩)
  obtain ⟨_, hlen, A, cap, rfl, hr, hnc, hlc, hcm⟩ := hv
  obtain ⟨n, hn⟩ : ∃ n, bs.length = n := ⟨_, rfl⟩
  have HN := Lib.hid hn
  rw [hn] at HV HRU hlen hlc hr hg ⊢
  have HRD := Lib.hid hr
  obtain ⟨⟨nv, sz, er⟩, hR⟩ : ∃ r, readS bs = r := ⟨_, rfl⟩
  rw [hR] at hg HRU
  dsimp only at hg HRU
  clear hR hr hn
  by_cases he : er = 0
  · subst he
    obtain ⟨g1, g2, g3, g4⟩ := hg rfl
    obtain ⟨b, off, rfl, _⟩ := HRD.out.2 (by omega)
    obtain ⟨T, hT⟩ : ∃ T, bs.take sz = T := ⟨_, rfl⟩
    have hTl : T.length = sz := by rw [← hT, List.length_take, HN.out]; omega
    have HBB : Hid (BB w (.slice (some ⟨b, off, none⟩) sz cap) T) := Lib.hid (by have h2 := HV.out; rw [← hT]; exact BB.cut h2 (by rw [HN.out]; exact g2))
    have HT : Hid (okB T ∧ T.length ≤ 140737488355328) := Lib.hid ⟨HBB.out.ok, HBB.out.len⟩
    have HUI : Hid (∀ W, Calls Try.prog 12 #[.int .u64 nv] W fun e w' => (∃ v, e = .returned v ∧ OwB w' W.heap.size v T) ∧ Below W.heap.size W w') := Lib.hid (fun W => by rw [← hT, ← g4]; exact uint_any nv W g3)
    have hsi : ¬ (n : Int) < (sz : Int) := by omega
    have hsd : decide ((n : Int) < (sz : Int)) = false := decide_eq_false hsi
    have hk1 : (0 : Int) ≤ (sz : Int) := by omega
    have hk2 : (sz : Int) ≤ (cap : Int) := by omega
    clear hg g4 hT hTl
    by_cases hi : readE bs = 0
    · obtain ⟨l1, l2, b0, b1, b2, b3⟩ := read_forms HOKB.out hi
      have HRP : Hid (∀ B0 e w', ReadPost bs B0 e w' → ∃ u, e = .returned (.tuple #[.agg #[.int .u64 (nu bs 0 : Nat), .int .u64 (nu bs 1 : Nat), .int .u64 (nu bs 2 : Nat), .int .u64 (nu bs 3 : Nat), u], .int .i64 0]) ∧ OwB w' B0 u (readD bs)) := Lib.hid (by
        rintro B0 e w' ⟨u, h1, h2⟩
        rw [hi, if_pos rfl, xr_four] at h1
        exact ⟨u, h1, h2⟩)
      have HWR : Hid (∀ W u, BB W u (readD bs) → Calls Try.prog 15 #[.agg #[.int .u64 (nu bs 0 : Nat), .int .u64 (nu bs 1 : Nat), .int .u64 (nu bs 2 : Nat), .int .u64 (nu bs 3 : Nat), u]] W fun e w' => (∃ q, e = .returned (.tuple #[q, .int .i64 0]) ∧ OwB w' W.heap.size q bs) ∧ Below W.heap.size W w') := Lib.hid (fun W u hW => by
        have := write_any (nu bs 0) (nu bs 1) (nu bs 2) (nu bs 3) u (readD bs) W hW b0 b1 b2 b3
        rw [if_neg (by omega), if_neg (by omega), l2] at this
        exact this)
      clear l1 l2 b0 b1 b2 b3 hi hin
      generalize nu bs 0 = n0 at HRP HWR
      generalize nu bs 1 = n1 at HRP HWR
      generalize nu bs 2 = n2 at HRP HWR
      generalize nu bs 3 = n3 at HRP HWR
      obtain ⟨D, hD⟩ : ∃ D, readD bs = D := ⟨_, rfl⟩
      rw [hD] at HRP HWR HDK
      clear hD
      by_cases hj : (readEvS bs).1 = 0
      · obtain ⟨hf1, hf2⟩ := readEv_forms HOKB.out hj
        have HRE : Hid (∀ B0 e w', REPost bs B0 e w' → ∃ L P, e = .returned (.tuple #[L, .int .i64 0]) ∧ OwE w' B0 L P ∧ P.map HE.e = (readEvS bs).2) := Lib.hid (by
          rintro B0 e w' ⟨L, P, h1, h2, h3⟩
          rw [hj] at h1
          exact ⟨L, P, h1, h2, h3⟩)
        have HWE : Hid (∀ W base L P, OwE W base L P → P.map HE.e = (readEvS bs).2 → Calls Try.prog 20 #[L] W fun e w' => (∃ q, e = .returned (.tuple #[q, .int .i64 0]) ∧ OwB w' W.heap.size q bs) ∧ Below W.heap.size W w') := Lib.hid (fun W base L P h1 h2 => by
          have h3 : P.length = (readEvS bs).2.length := by rw [← h2, List.length_map]
          have := writeevents_any L (P.map HE.e) W (h1.evl (by omega))
          rw [h2, hf1] at this
          exact this)
        clear hf1 hf2 hj
        go_enter Try.func7, Try.ntmps7
        go_wp2_with fail
        refine HRU.out.mono ?_
        rintro e w0 ⟨rfl, hw0⟩
        subst w0
        go_wp2_with fail
        apply wp_region_eff (Inv w (fun _ => False)) (fun _ => none) (Inv.self w) (hm := by kernel_rfl)
        case h =>
          (apply SeqF.pure; (focus (first | rfl | (go_simp; done) | (simp [Region.wanted, yielded]; done))); (focus (intro w; go_simp; with_reducible rfl)); go_simp)
          (apply SeqF.pure; (focus (first | rfl | (go_simp; done) | (simp [Region.wanted, yielded]; done))); (focus (intro w; go_simp; with_reducible rfl)); go_simp)
          (apply SeqF.pure; (focus (first | rfl | (go_simp; done) | (simp [Region.wanted, yielded]; done))); (focus (intro w; go_simp; with_reducible rfl)); go_simp)
          (apply SeqF.pure; (focus (first | rfl | (go_simp; done) | (simp [Region.wanted, yielded]; done))); (focus (intro w; go_simp; with_reducible rfl)); go_simp)
          (apply SeqF.pure; (focus (first | rfl | (go_simp; done) | (simp [Region.wanted, yielded]; done))); (focus (intro w; go_simp; with_reducible rfl)); go_simp)
          (apply SeqF.pure; (focus (first | rfl | (go_simp; done) | (simp [Region.wanted, yielded]; done))); (focus (intro w; go_simp; with_reducible rfl)); go_simp)
          (apply SeqF.pure; (focus (first | rfl | (go_simp; done) | (simp [Region.wanted, yielded]; done))); (focus (intro w; go_simp; with_reducible rfl)); go_simp)
          (apply SeqF.pure; (focus (first | rfl | (go_simp; done) | (simp [Region.wanted, yielded]; done))); (focus (intro w; go_simp; with_reducible rfl)); go_simp)
          (apply SeqF.pure; (focus (first | rfl | (go_simp; done) | (simp [Region.wanted, yielded]; done))); (focus (intro w; go_simp; with_reducible rfl)); go_simp)
          apply SeqF.callNew [] 1 5 1 T.length (T.map (Value.int .u8)) 12 #[.int .u64 nv]
          · (first | rfl | (go_simp; done) | (simp [Region.wanted, yielded]; done))
          · intro w; kernel_rfl
          · exact fun γ' W _ hI => HUI.out W
          intro v1 x1 hv1 hn1
          obtain rfl := hv1.val (by decide)
          obtain ⟨A2, c2, hf2⟩ := hv1.form
          have HF2 := Lib.hid hf2
          have HV1 := Lib.hid hv1
          clear hf2 hv1
          go_simp
          (apply SeqF.pure; (focus (first | rfl | (go_simp; done) | (simp [Region.wanted, yielded]; done))); (focus (intro w; go_simp; with_reducible rfl)); go_simp)
          (apply SeqF.pure; (focus (first | rfl | (go_simp; done) | (simp [Region.wanted, yielded]; done))); (focus (intro w; go_simp; with_reducible rfl)); go_simp)
          (apply SeqF.pure; (focus (first | rfl | (go_simp; done) | (simp [Region.wanted, yielded]; done))); (focus (intro w; go_simp; with_reducible rfl)); go_simp)
          apply SeqF.call (v := .bool true) [1] 11 #[rowVal 1 T.length x1, .slice (some ⟨b, off, none⟩) sz cap]
          · (first | rfl | (go_simp; done) | (simp [Region.wanted, yielded]; done))
          · intro w; kernel_rfl
          · intro γ' W hg hI
            refine (same_bytes _ _ T T W (HV1.out.bb hI ((hg 1 (by simp)).trans (Gh.set_here _ _ _)) HT.out.1 HT.out.2) (HBB.out.below hI.belowOf)).mono ?_
            rintro e W' ⟨rfl, rfl⟩
            exact ⟨by simp, hI⟩
          go_simp
          (apply SeqF.pure; (focus (first | rfl | (go_simp; done) | (simp [Region.wanted, yielded]; done))); (focus (intro w; go_simp; with_reducible rfl)); go_simp)
          (apply SeqF.pure; (focus (first | rfl | (go_simp; done) | (simp [Region.wanted, yielded]; done))); (focus (intro w; go_simp; with_reducible rfl)); go_simp)
          (apply SeqF.pure; (focus (first | rfl | (go_simp; done) | (simp [Region.wanted, yielded]; done))); (focus (intro w; go_simp; with_reducible rfl)); go_simp)
          apply SeqF.done
          intro w2 hI
          have HB2 := Lib.hid hI.belowOf
          clear hI
          go_simp
          go_wp2_with fail
          refine (read_any _ bs w2 (HV.out.below HB2.out)).mono ?_
          rintro e w3 ⟨hr, hb⟩
          obtain ⟨y, rfl, hoy⟩ := HRP.out _ _ _ hr
          obtain ⟨Ay, cy, rfl⟩ := OwB.slice hoy
          obtain ⟨l, hl⟩ : ∃ l, D.length = l := ⟨_, rfl⟩
          rw [hl] at hoy
          try rw [hl]
          have HOY := Lib.hid hoy
          have HB3 := Lib.hid (bl_then HB2.out HB2.out.size hb)
          obtain ⟨X, hX⟩ : ∃ X, w3.heap.size = X := ⟨_, rfl⟩
          have HX0 : Hid ((w3.alloc (.cells #[.int .u64 0, .int .u64 0, .int .u64 0, .int .u64 0, .slice none 0 0] 34)).heap[X]? = some (.cells #[.int .u64 0, .int .u64 0, .int .u64 0, .int .u64 0, .slice none 0 0] 34 (0, 0))) := Lib.hid (by rw [← hX]; exact heap_alloc_last _ _)
          obtain ⟨w4, hw4⟩ : ∃ W, (w3.alloc (.cells #[.int .u64 0, .int .u64 0, .int .u64 0, .int .u64 0, .slice none 0 0] 34)).setRow X #[.int .u64 n0, .int .u64 n1, .int .u64 n2, .int .u64 n3, .slice Ay l cy] = W := ⟨_, rfl⟩
          have hb4 : Below w3.heap.size w3 w4 := by rw [← hw4, ← hX]; exact below_setRow (Below.alloc (Below.refl _ _) (Nat.le_refl _) _) (Nat.le_refl _) _
          have HX4 : Hid (w4.heap[X]? = some (.cells #[.int .u64 n0, .int .u64 n1, .int .u64 n2, .int .u64 n3, .slice Ay l cy] 34 (0, 0))) := Lib.hid (by rw [← hw4]; exact setRow_heap _ _ _ _ _ _ HX0.out)
          have HOY4 := Lib.hid (HOY.out.below hb4)
          have HB4 := Lib.hid (bl_then HB3.out HB3.out.size hb4)
          clear hr hb hl hoy hb4 HOY HB3 HB2
          go_wp2_with (first | (with_reducible refine wpList_stB (row := #[.int .u64 n0, .int .u64 n1, .int .u64 n2, .int .u64 n3, .slice Ay l cy]) insInfo (by simp [Value.oneCell']) rfl (.tmp 6) (.tmp 40) rfl rfl rfl HX0.out rfl ?_) | (with_reducible refine wpList_ldB (row := #[.int .u64 n0, .int .u64 n1, .int .u64 n2, .int .u64 n3, .slice Ay l cy]) insInfo insRow rfl (.tmp 6) rfl rfl HX4.out ?_))
          try rw [hw4]
          refine (HWR.out w4 _ (HOY4.out.rd HDK.out.1 HDK.out.2)).mono ?_
          rintro e w5 ⟨⟨q, rfl, ho⟩, hb⟩
          have HO5 := Lib.hid ho
          have HB5 := Lib.hid (bl_then HB4.out HB4.out.size hb)
          clear ho hb hw4 hX HX0 HX4
          go_wp2_with fail
          refine (same_bytes _ _ bs bs w5 (HV.out.below HB5.out) (HO5.out.rd HOKB.out HLB.out)).mono ?_
          rintro e w6 ⟨rfl, hw6⟩
          subst w6
          simp only [decide_true]
          go_wp2_with fail
          refine (readevents_any _ bs w5 (HV.out.below HB5.out)).mono ?_
          rintro e w7 ⟨hr, hb⟩
          obtain ⟨L, P, rfl, ho, hp⟩ := HRE.out _ _ _ hr
          obtain ⟨LA, LC, hL⟩ := ho.form
          obtain ⟨LN, hLN⟩ : ∃ n, P.length = n := ⟨_, rfl⟩
          rw [hLN] at hL
          subst hL
          have HCW := Lib.hid (HWE.out w7 _ _ P ho hp)
          have HB7 := Lib.hid (bl_then HB5.out HB5.out.size hb)
          clear ho hp hr hb hLN
          go_wp2_with fail
          refine HCW.out.mono ?_
          rintro e w8 ⟨⟨q, rfl, ho⟩, hb⟩
          have HO8 := Lib.hid ho
          have HB8 := Lib.hid (bl_then HB7.out HB7.out.size hb)
          clear ho hb
          go_wp2_with fail
          refine (same_bytes _ _ bs bs w8 (HV.out.below HB8.out) (HO8.out.rd HOKB.out HLB.out)).mono ?_
          rintro e w9 ⟨rfl, hw9⟩
          subst w9
          simp only [decide_true]
          go_wp2_with fail
          refine (anchored_any _).mono ?_
          rintro e wZ ⟨rfl, hb⟩
          have HBZ := Lib.hid (bl_then HB8.out HB8.out.size hb)
          clear hb
          go_wp2_with fail
          go_ret
          exact ⟨rfl, HBZ.out⟩
        case hl => rfl
        case ho => kernel_rfl
      · obtain ⟨er3, hy2, hy3⟩ : ∃ er3, er3 ≠ 0 ∧ (readEvS bs).1 = er3 := ⟨_, hj, rfl⟩
        have HRE : Hid (∀ B0 e w', REPost bs B0 e w' → ∃ L P, e = .returned (.tuple #[L, .int .i64 er3]) ∧ OwE w' B0 L P) := Lib.hid (by
          rintro B0 e w' ⟨L, P, h1, h2, h3⟩
          rw [hy3] at h1
          exact ⟨L, P, h1, h2⟩)
        clear hj hy3
        have hyi : ¬ (er3 : Int) = 0 := by omega
        have hyi2 : ((er3 : Int) == 0) = false := by simpa using hy2
        go_enter Try.func7, Try.ntmps7
        go_wp2_with fail
        refine HRU.out.mono ?_
        rintro e w0 ⟨rfl, hw0⟩
        subst w0
        go_wp2_with fail
        apply wp_region_eff (Inv w (fun _ => False)) (fun _ => none) (Inv.self w) (hm := by kernel_rfl)
        case h =>
          (apply SeqF.pure; (focus (first | rfl | (go_simp; done) | (simp [Region.wanted, yielded]; done))); (focus (intro w; go_simp; with_reducible rfl)); go_simp)
          (apply SeqF.pure; (focus (first | rfl | (go_simp; done) | (simp [Region.wanted, yielded]; done))); (focus (intro w; go_simp; with_reducible rfl)); go_simp)
          (apply SeqF.pure; (focus (first | rfl | (go_simp; done) | (simp [Region.wanted, yielded]; done))); (focus (intro w; go_simp; with_reducible rfl)); go_simp)
          (apply SeqF.pure; (focus (first | rfl | (go_simp; done) | (simp [Region.wanted, yielded]; done))); (focus (intro w; go_simp; with_reducible rfl)); go_simp)
          (apply SeqF.pure; (focus (first | rfl | (go_simp; done) | (simp [Region.wanted, yielded]; done))); (focus (intro w; go_simp; with_reducible rfl)); go_simp)
          (apply SeqF.pure; (focus (first | rfl | (go_simp; done) | (simp [Region.wanted, yielded]; done))); (focus (intro w; go_simp; with_reducible rfl)); go_simp)
          (apply SeqF.pure; (focus (first | rfl | (go_simp; done) | (simp [Region.wanted, yielded]; done))); (focus (intro w; go_simp; with_reducible rfl)); go_simp)
          (apply SeqF.pure; (focus (first | rfl | (go_simp; done) | (simp [Region.wanted, yielded]; done))); (focus (intro w; go_simp; with_reducible rfl)); go_simp)
          (apply SeqF.pure; (focus (first | rfl | (go_simp; done) | (simp [Region.wanted, yielded]; done))); (focus (intro w; go_simp; with_reducible rfl)); go_simp)
          apply SeqF.callNew [] 1 5 1 T.length (T.map (Value.int .u8)) 12 #[.int .u64 nv]
          · (first | rfl | (go_simp; done) | (simp [Region.wanted, yielded]; done))
          · intro w; kernel_rfl
          · exact fun γ' W _ hI => HUI.out W
          intro v1 x1 hv1 hn1
          obtain rfl := hv1.val (by decide)
          obtain ⟨A2, c2, hf2⟩ := hv1.form
          have HF2 := Lib.hid hf2
          have HV1 := Lib.hid hv1
          clear hf2 hv1
          go_simp
          (apply SeqF.pure; (focus (first | rfl | (go_simp; done) | (simp [Region.wanted, yielded]; done))); (focus (intro w; go_simp; with_reducible rfl)); go_simp)
          (apply SeqF.pure; (focus (first | rfl | (go_simp; done) | (simp [Region.wanted, yielded]; done))); (focus (intro w; go_simp; with_reducible rfl)); go_simp)
          (apply SeqF.pure; (focus (first | rfl | (go_simp; done) | (simp [Region.wanted, yielded]; done))); (focus (intro w; go_simp; with_reducible rfl)); go_simp)
          apply SeqF.call (v := .bool true) [1] 11 #[rowVal 1 T.length x1, .slice (some ⟨b, off, none⟩) sz cap]
          · (first | rfl | (go_simp; done) | (simp [Region.wanted, yielded]; done))
          · intro w; kernel_rfl
          · intro γ' W hg hI
            refine (same_bytes _ _ T T W (HV1.out.bb hI ((hg 1 (by simp)).trans (Gh.set_here _ _ _)) HT.out.1 HT.out.2) (HBB.out.below hI.belowOf)).mono ?_
            rintro e W' ⟨rfl, rfl⟩
            exact ⟨by simp, hI⟩
          go_simp
          (apply SeqF.pure; (focus (first | rfl | (go_simp; done) | (simp [Region.wanted, yielded]; done))); (focus (intro w; go_simp; with_reducible rfl)); go_simp)
          (apply SeqF.pure; (focus (first | rfl | (go_simp; done) | (simp [Region.wanted, yielded]; done))); (focus (intro w; go_simp; with_reducible rfl)); go_simp)
          (apply SeqF.pure; (focus (first | rfl | (go_simp; done) | (simp [Region.wanted, yielded]; done))); (focus (intro w; go_simp; with_reducible rfl)); go_simp)
          apply SeqF.done
          intro w2 hI
          have HB2 := Lib.hid hI.belowOf
          clear hI
          go_simp
          go_wp2_with fail
          refine (read_any _ bs w2 (HV.out.below HB2.out)).mono ?_
          rintro e w3 ⟨hr, hb⟩
          obtain ⟨y, rfl, hoy⟩ := HRP.out _ _ _ hr
          obtain ⟨Ay, cy, rfl⟩ := OwB.slice hoy
          obtain ⟨l, hl⟩ : ∃ l, D.length = l := ⟨_, rfl⟩
          rw [hl] at hoy
          try rw [hl]
          have HOY := Lib.hid hoy
          have HB3 := Lib.hid (bl_then HB2.out HB2.out.size hb)
          obtain ⟨X, hX⟩ : ∃ X, w3.heap.size = X := ⟨_, rfl⟩
          have HX0 : Hid ((w3.alloc (.cells #[.int .u64 0, .int .u64 0, .int .u64 0, .int .u64 0, .slice none 0 0] 34)).heap[X]? = some (.cells #[.int .u64 0, .int .u64 0, .int .u64 0, .int .u64 0, .slice none 0 0] 34 (0, 0))) := Lib.hid (by rw [← hX]; exact heap_alloc_last _ _)
          obtain ⟨w4, hw4⟩ : ∃ W, (w3.alloc (.cells #[.int .u64 0, .int .u64 0, .int .u64 0, .int .u64 0, .slice none 0 0] 34)).setRow X #[.int .u64 n0, .int .u64 n1, .int .u64 n2, .int .u64 n3, .slice Ay l cy] = W := ⟨_, rfl⟩
          have hb4 : Below w3.heap.size w3 w4 := by rw [← hw4, ← hX]; exact below_setRow (Below.alloc (Below.refl _ _) (Nat.le_refl _) _) (Nat.le_refl _) _
          have HX4 : Hid (w4.heap[X]? = some (.cells #[.int .u64 n0, .int .u64 n1, .int .u64 n2, .int .u64 n3, .slice Ay l cy] 34 (0, 0))) := Lib.hid (by rw [← hw4]; exact setRow_heap _ _ _ _ _ _ HX0.out)
          have HOY4 := Lib.hid (HOY.out.below hb4)
          have HB4 := Lib.hid (bl_then HB3.out HB3.out.size hb4)
          clear hr hb hl hoy hb4 HOY HB3 HB2
          go_wp2_with (first | (with_reducible refine wpList_stB (row := #[.int .u64 n0, .int .u64 n1, .int .u64 n2, .int .u64 n3, .slice Ay l cy]) insInfo (by simp [Value.oneCell']) rfl (.tmp 6) (.tmp 40) rfl rfl rfl HX0.out rfl ?_) | (with_reducible refine wpList_ldB (row := #[.int .u64 n0, .int .u64 n1, .int .u64 n2, .int .u64 n3, .slice Ay l cy]) insInfo insRow rfl (.tmp 6) rfl rfl HX4.out ?_))
          try rw [hw4]
          refine (HWR.out w4 _ (HOY4.out.rd HDK.out.1 HDK.out.2)).mono ?_
          rintro e w5 ⟨⟨q, rfl, ho⟩, hb⟩
          have HO5 := Lib.hid ho
          have HB5 := Lib.hid (bl_then HB4.out HB4.out.size hb)
          clear ho hb hw4 hX HX0 HX4
          go_wp2_with fail
          refine (same_bytes _ _ bs bs w5 (HV.out.below HB5.out) (HO5.out.rd HOKB.out HLB.out)).mono ?_
          rintro e w6 ⟨rfl, hw6⟩
          subst w6
          simp only [decide_true]
          go_wp2_with fail
          refine (readevents_any _ bs w5 (HV.out.below HB5.out)).mono ?_
          rintro e w7 ⟨hr, hb⟩
          obtain ⟨L, P, rfl, ho⟩ := HRE.out _ _ _ hr
          obtain ⟨LA, LC, hL⟩ := ho.form
          obtain ⟨LN, hLN⟩ : ∃ n, P.length = n := ⟨_, rfl⟩
          rw [hLN] at hL
          subst hL
          have HB7 := Lib.hid (bl_then HB5.out HB5.out.size hb)
          clear ho hr hb hLN
          go_wp2_with fail
          refine (anchored_any _).mono ?_
          rintro e wZ ⟨rfl, hb⟩
          have HBZ := Lib.hid (bl_then HB7.out HB7.out.size hb)
          clear hb
          go_wp2_with fail
          go_ret
          exact ⟨rfl, HBZ.out⟩
        case hl => rfl
        case ho => kernel_rfl
    · obtain ⟨er2, hx2, hx3⟩ := hin hi
      obtain ⟨D, hD⟩ : ∃ D, readD bs = D := ⟨_, rfl⟩
      have HRP : Hid (∀ B0 e w', ReadPost bs B0 e w' → ∃ u, e = .returned (.tuple #[.agg #[.int .u64 0, .int .u64 0, .int .u64 0, .int .u64 0, u], .int .i64 er2]) ∧ OwB w' B0 u D) := Lib.hid (by
        rintro B0 e w' ⟨u, h1, h2⟩
        rw [hx3, if_neg hx2, xr_zero] at h1
        rw [← hD]
        exact ⟨u, h1, h2⟩)
      rw [hD] at HDK
      clear hi hin hx3 hD
      have hxi : ¬ (er2 : Int) = 0 := by omega
      have hxi2 : ((er2 : Int) == 0) = false := by simpa using hx2
      by_cases hj : (readEvS bs).1 = 0
      · obtain ⟨hf1, hf2⟩ := readEv_forms HOKB.out hj
        have HRE : Hid (∀ B0 e w', REPost bs B0 e w' → ∃ L P, e = .returned (.tuple #[L, .int .i64 0]) ∧ OwE w' B0 L P ∧ P.map HE.e = (readEvS bs).2) := Lib.hid (by
          rintro B0 e w' ⟨L, P, h1, h2, h3⟩
          rw [hj] at h1
          exact ⟨L, P, h1, h2, h3⟩)
        have HWE : Hid (∀ W base L P, OwE W base L P → P.map HE.e = (readEvS bs).2 → Calls Try.prog 20 #[L] W fun e w' => (∃ q, e = .returned (.tuple #[q, .int .i64 0]) ∧ OwB w' W.heap.size q bs) ∧ Below W.heap.size W w') := Lib.hid (fun W base L P h1 h2 => by
          have h3 : P.length = (readEvS bs).2.length := by rw [← h2, List.length_map]
          have := writeevents_any L (P.map HE.e) W (h1.evl (by omega))
          rw [h2, hf1] at this
          exact this)
        clear hf1 hf2 hj
        go_enter Try.func7, Try.ntmps7
        go_wp2_with fail
        refine HRU.out.mono ?_
        rintro e w0 ⟨rfl, hw0⟩
        subst w0
        go_wp2_with fail
        apply wp_region_eff (Inv w (fun _ => False)) (fun _ => none) (Inv.self w) (hm := by kernel_rfl)
        case h =>
          (apply SeqF.pure; (focus (first | rfl | (go_simp; done) | (simp [Region.wanted, yielded]; done))); (focus (intro w; go_simp; with_reducible rfl)); go_simp)
          (apply SeqF.pure; (focus (first | rfl | (go_simp; done) | (simp [Region.wanted, yielded]; done))); (focus (intro w; go_simp; with_reducible rfl)); go_simp)
          (apply SeqF.pure; (focus (first | rfl | (go_simp; done) | (simp [Region.wanted, yielded]; done))); (focus (intro w; go_simp; with_reducible rfl)); go_simp)
          (apply SeqF.pure; (focus (first | rfl | (go_simp; done) | (simp [Region.wanted, yielded]; done))); (focus (intro w; go_simp; with_reducible rfl)); go_simp)
          (apply SeqF.pure; (focus (first | rfl | (go_simp; done) | (simp [Region.wanted, yielded]; done))); (focus (intro w; go_simp; with_reducible rfl)); go_simp)
          (apply SeqF.pure; (focus (first | rfl | (go_simp; done) | (simp [Region.wanted, yielded]; done))); (focus (intro w; go_simp; with_reducible rfl)); go_simp)
          (apply SeqF.pure; (focus (first | rfl | (go_simp; done) | (simp [Region.wanted, yielded]; done))); (focus (intro w; go_simp; with_reducible rfl)); go_simp)
          (apply SeqF.pure; (focus (first | rfl | (go_simp; done) | (simp [Region.wanted, yielded]; done))); (focus (intro w; go_simp; with_reducible rfl)); go_simp)
          (apply SeqF.pure; (focus (first | rfl | (go_simp; done) | (simp [Region.wanted, yielded]; done))); (focus (intro w; go_simp; with_reducible rfl)); go_simp)
          apply SeqF.callNew [] 1 5 1 T.length (T.map (Value.int .u8)) 12 #[.int .u64 nv]
          · (first | rfl | (go_simp; done) | (simp [Region.wanted, yielded]; done))
          · intro w; kernel_rfl
          · exact fun γ' W _ hI => HUI.out W
          intro v1 x1 hv1 hn1
          obtain rfl := hv1.val (by decide)
          obtain ⟨A2, c2, hf2⟩ := hv1.form
          have HF2 := Lib.hid hf2
          have HV1 := Lib.hid hv1
          clear hf2 hv1
          go_simp
          (apply SeqF.pure; (focus (first | rfl | (go_simp; done) | (simp [Region.wanted, yielded]; done))); (focus (intro w; go_simp; with_reducible rfl)); go_simp)
          (apply SeqF.pure; (focus (first | rfl | (go_simp; done) | (simp [Region.wanted, yielded]; done))); (focus (intro w; go_simp; with_reducible rfl)); go_simp)
          (apply SeqF.pure; (focus (first | rfl | (go_simp; done) | (simp [Region.wanted, yielded]; done))); (focus (intro w; go_simp; with_reducible rfl)); go_simp)
          apply SeqF.call (v := .bool true) [1] 11 #[rowVal 1 T.length x1, .slice (some ⟨b, off, none⟩) sz cap]
          · (first | rfl | (go_simp; done) | (simp [Region.wanted, yielded]; done))
          · intro w; kernel_rfl
          · intro γ' W hg hI
            refine (same_bytes _ _ T T W (HV1.out.bb hI ((hg 1 (by simp)).trans (Gh.set_here _ _ _)) HT.out.1 HT.out.2) (HBB.out.below hI.belowOf)).mono ?_
            rintro e W' ⟨rfl, rfl⟩
            exact ⟨by simp, hI⟩
          go_simp
          (apply SeqF.pure; (focus (first | rfl | (go_simp; done) | (simp [Region.wanted, yielded]; done))); (focus (intro w; go_simp; with_reducible rfl)); go_simp)
          (apply SeqF.pure; (focus (first | rfl | (go_simp; done) | (simp [Region.wanted, yielded]; done))); (focus (intro w; go_simp; with_reducible rfl)); go_simp)
          (apply SeqF.pure; (focus (first | rfl | (go_simp; done) | (simp [Region.wanted, yielded]; done))); (focus (intro w; go_simp; with_reducible rfl)); go_simp)
          apply SeqF.done
          intro w2 hI
          have HB2 := Lib.hid hI.belowOf
          clear hI
          go_simp
          go_wp2_with fail
          refine (read_any _ bs w2 (HV.out.below HB2.out)).mono ?_
          rintro e w3 ⟨hr, hb⟩
          obtain ⟨y, rfl, hoy⟩ := HRP.out _ _ _ hr
          obtain ⟨Ay, cy, rfl⟩ := OwB.slice hoy
          obtain ⟨l, hl⟩ : ∃ l, D.length = l := ⟨_, rfl⟩
          rw [hl] at hoy
          try rw [hl]
          have HOY := Lib.hid hoy
          have HB3 := Lib.hid (bl_then HB2.out HB2.out.size hb)
          obtain ⟨X, hX⟩ : ∃ X, w3.heap.size = X := ⟨_, rfl⟩
          have HX0 : Hid ((w3.alloc (.cells #[.int .u64 0, .int .u64 0, .int .u64 0, .int .u64 0, .slice none 0 0] 34)).heap[X]? = some (.cells #[.int .u64 0, .int .u64 0, .int .u64 0, .int .u64 0, .slice none 0 0] 34 (0, 0))) := Lib.hid (by rw [← hX]; exact heap_alloc_last _ _)
          obtain ⟨w4, hw4⟩ : ∃ W, (w3.alloc (.cells #[.int .u64 0, .int .u64 0, .int .u64 0, .int .u64 0, .slice none 0 0] 34)).setRow X #[.int .u64 0, .int .u64 0, .int .u64 0, .int .u64 0, .slice Ay l cy] = W := ⟨_, rfl⟩
          have hb4 : Below w3.heap.size w3 w4 := by rw [← hw4, ← hX]; exact below_setRow (Below.alloc (Below.refl _ _) (Nat.le_refl _) _) (Nat.le_refl _) _
          have HX4 : Hid (w4.heap[X]? = some (.cells #[.int .u64 0, .int .u64 0, .int .u64 0, .int .u64 0, .slice Ay l cy] 34 (0, 0))) := Lib.hid (by rw [← hw4]; exact setRow_heap _ _ _ _ _ _ HX0.out)
          have HOY4 := Lib.hid (HOY.out.below hb4)
          have HB4 := Lib.hid (bl_then HB3.out HB3.out.size hb4)
          clear hr hb hl hoy hb4 HOY HB3 HB2
          go_wp2_with (with_reducible refine wpList_stB (row := #[.int .u64 0, .int .u64 0, .int .u64 0, .int .u64 0, .slice Ay l cy]) insInfo (by simp [Value.oneCell']) rfl (.tmp 6) (.tmp 40) rfl rfl rfl HX0.out rfl ?_)
          try rw [hw4]
          refine (readevents_any _ bs w4 (HV.out.below HB4.out)).mono ?_
          rintro e w7 ⟨hr, hb⟩
          obtain ⟨L, P, rfl, ho, hp⟩ := HRE.out _ _ _ hr
          obtain ⟨LA, LC, hL⟩ := ho.form
          obtain ⟨LN, hLN⟩ : ∃ n, P.length = n := ⟨_, rfl⟩
          rw [hLN] at hL
          subst hL
          have HCW := Lib.hid (HWE.out w7 _ _ P ho hp)
          have HB7 := Lib.hid (bl_then HB4.out HB4.out.size hb)
          clear ho hp hr hb hLN
          go_wp2_with fail
          refine HCW.out.mono ?_
          rintro e w8 ⟨⟨q, rfl, ho⟩, hb⟩
          have HO8 := Lib.hid ho
          have HB8 := Lib.hid (bl_then HB7.out HB7.out.size hb)
          clear ho hb
          go_wp2_with fail
          refine (same_bytes _ _ bs bs w8 (HV.out.below HB8.out) (HO8.out.rd HOKB.out HLB.out)).mono ?_
          rintro e w9 ⟨rfl, hw9⟩
          subst w9
          simp only [decide_true]
          go_wp2_with fail
          refine (anchored_any _).mono ?_
          rintro e wZ ⟨rfl, hb⟩
          have HBZ := Lib.hid (bl_then HB8.out HB8.out.size hb)
          clear hb
          go_wp2_with fail
          go_ret
          exact ⟨rfl, HBZ.out⟩
        case hl => rfl
        case ho => kernel_rfl
      · obtain ⟨er3, hy2, hy3⟩ : ∃ er3, er3 ≠ 0 ∧ (readEvS bs).1 = er3 := ⟨_, hj, rfl⟩
        have HRE : Hid (∀ B0 e w', REPost bs B0 e w' → ∃ L P, e = .returned (.tuple #[L, .int .i64 er3]) ∧ OwE w' B0 L P) := Lib.hid (by
          rintro B0 e w' ⟨L, P, h1, h2, h3⟩
          rw [hy3] at h1
          exact ⟨L, P, h1, h2⟩)
        clear hj hy3
        have hyi : ¬ (er3 : Int) = 0 := by omega
        have hyi2 : ((er3 : Int) == 0) = false := by simpa using hy2
        go_enter Try.func7, Try.ntmps7
        go_wp2_with fail
        refine HRU.out.mono ?_
        rintro e w0 ⟨rfl, hw0⟩
        subst w0
        go_wp2_with fail
        apply wp_region_eff (Inv w (fun _ => False)) (fun _ => none) (Inv.self w) (hm := by kernel_rfl)
        case h =>
          (apply SeqF.pure; (focus (first | rfl | (go_simp; done) | (simp [Region.wanted, yielded]; done))); (focus (intro w; go_simp; with_reducible rfl)); go_simp)
          (apply SeqF.pure; (focus (first | rfl | (go_simp; done) | (simp [Region.wanted, yielded]; done))); (focus (intro w; go_simp; with_reducible rfl)); go_simp)
          (apply SeqF.pure; (focus (first | rfl | (go_simp; done) | (simp [Region.wanted, yielded]; done))); (focus (intro w; go_simp; with_reducible rfl)); go_simp)
          (apply SeqF.pure; (focus (first | rfl | (go_simp; done) | (simp [Region.wanted, yielded]; done))); (focus (intro w; go_simp; with_reducible rfl)); go_simp)
          (apply SeqF.pure; (focus (first | rfl | (go_simp; done) | (simp [Region.wanted, yielded]; done))); (focus (intro w; go_simp; with_reducible rfl)); go_simp)
          (apply SeqF.pure; (focus (first | rfl | (go_simp; done) | (simp [Region.wanted, yielded]; done))); (focus (intro w; go_simp; with_reducible rfl)); go_simp)
          (apply SeqF.pure; (focus (first | rfl | (go_simp; done) | (simp [Region.wanted, yielded]; done))); (focus (intro w; go_simp; with_reducible rfl)); go_simp)
          (apply SeqF.pure; (focus (first | rfl | (go_simp; done) | (simp [Region.wanted, yielded]; done))); (focus (intro w; go_simp; with_reducible rfl)); go_simp)
          (apply SeqF.pure; (focus (first | rfl | (go_simp; done) | (simp [Region.wanted, yielded]; done))); (focus (intro w; go_simp; with_reducible rfl)); go_simp)
          apply SeqF.callNew [] 1 5 1 T.length (T.map (Value.int .u8)) 12 #[.int .u64 nv]
          · (first | rfl | (go_simp; done) | (simp [Region.wanted, yielded]; done))
          · intro w; kernel_rfl
          · exact fun γ' W _ hI => HUI.out W
          intro v1 x1 hv1 hn1
          obtain rfl := hv1.val (by decide)
          obtain ⟨A2, c2, hf2⟩ := hv1.form
          have HF2 := Lib.hid hf2
          have HV1 := Lib.hid hv1
          clear hf2 hv1
          go_simp
          (apply SeqF.pure; (focus (first | rfl | (go_simp; done) | (simp [Region.wanted, yielded]; done))); (focus (intro w; go_simp; with_reducible rfl)); go_simp)
          (apply SeqF.pure; (focus (first | rfl | (go_simp; done) | (simp [Region.wanted, yielded]; done))); (focus (intro w; go_simp; with_reducible rfl)); go_simp)
          (apply SeqF.pure; (focus (first | rfl | (go_simp; done) | (simp [Region.wanted, yielded]; done))); (focus (intro w; go_simp; with_reducible rfl)); go_simp)
          apply SeqF.call (v := .bool true) [1] 11 #[rowVal 1 T.length x1, .slice (some ⟨b, off, none⟩) sz cap]
          · (first | rfl | (go_simp; done) | (simp [Region.wanted, yielded]; done))
          · intro w; kernel_rfl
          · intro γ' W hg hI
            refine (same_bytes _ _ T T W (HV1.out.bb hI ((hg 1 (by simp)).trans (Gh.set_here _ _ _)) HT.out.1 HT.out.2) (HBB.out.below hI.belowOf)).mono ?_
            rintro e W' ⟨rfl, rfl⟩
            exact ⟨by simp, hI⟩
          go_simp
          (apply SeqF.pure; (focus (first | rfl | (go_simp; done) | (simp [Region.wanted, yielded]; done))); (focus (intro w; go_simp; with_reducible rfl)); go_simp)
          (apply SeqF.pure; (focus (first | rfl | (go_simp; done) | (simp [Region.wanted, yielded]; done))); (focus (intro w; go_simp; with_reducible rfl)); go_simp)
          (apply SeqF.pure; (focus (first | rfl | (go_simp; done) | (simp [Region.wanted, yielded]; done))); (focus (intro w; go_simp; with_reducible rfl)); go_simp)
          apply SeqF.done
          intro w2 hI
          have HB2 := Lib.hid hI.belowOf
          clear hI
          go_simp
          go_wp2_with fail
          refine (read_any _ bs w2 (HV.out.below HB2.out)).mono ?_
          rintro e w3 ⟨hr, hb⟩
          obtain ⟨y, rfl, hoy⟩ := HRP.out _ _ _ hr
          obtain ⟨Ay, cy, rfl⟩ := OwB.slice hoy
          obtain ⟨l, hl⟩ : ∃ l, D.length = l := ⟨_, rfl⟩
          rw [hl] at hoy
          try rw [hl]
          have HOY := Lib.hid hoy
          have HB3 := Lib.hid (bl_then HB2.out HB2.out.size hb)
          obtain ⟨X, hX⟩ : ∃ X, w3.heap.size = X := ⟨_, rfl⟩
          have HX0 : Hid ((w3.alloc (.cells #[.int .u64 0, .int .u64 0, .int .u64 0, .int .u64 0, .slice none 0 0] 34)).heap[X]? = some (.cells #[.int .u64 0, .int .u64 0, .int .u64 0, .int .u64 0, .slice none 0 0] 34 (0, 0))) := Lib.hid (by rw [← hX]; exact heap_alloc_last _ _)
          obtain ⟨w4, hw4⟩ : ∃ W, (w3.alloc (.cells #[.int .u64 0, .int .u64 0, .int .u64 0, .int .u64 0, .slice none 0 0] 34)).setRow X #[.int .u64 0, .int .u64 0, .int .u64 0, .int .u64 0, .slice Ay l cy] = W := ⟨_, rfl⟩
          have hb4 : Below w3.heap.size w3 w4 := by rw [← hw4, ← hX]; exact below_setRow (Below.alloc (Below.refl _ _) (Nat.le_refl _) _) (Nat.le_refl _) _
          have HX4 : Hid (w4.heap[X]? = some (.cells #[.int .u64 0, .int .u64 0, .int .u64 0, .int .u64 0, .slice Ay l cy] 34 (0, 0))) := Lib.hid (by rw [← hw4]; exact setRow_heap _ _ _ _ _ _ HX0.out)
          have HOY4 := Lib.hid (HOY.out.below hb4)
          have HB4 := Lib.hid (bl_then HB3.out HB3.out.size hb4)
          clear hr hb hl hoy hb4 HOY HB3 HB2
          go_wp2_with (with_reducible refine wpList_stB (row := #[.int .u64 0, .int .u64 0, .int .u64 0, .int .u64 0, .slice Ay l cy]) insInfo (by simp [Value.oneCell']) rfl (.tmp 6) (.tmp 40) rfl rfl rfl HX0.out rfl ?_)
          try rw [hw4]
          refine (readevents_any _ bs w4 (HV.out.below HB4.out)).mono ?_
          rintro e w7 ⟨hr, hb⟩
          obtain ⟨L, P, rfl, ho⟩ := HRE.out _ _ _ hr
          obtain ⟨LA, LC, hL⟩ := ho.form
          obtain ⟨LN, hLN⟩ : ∃ n, P.length = n := ⟨_, rfl⟩
          rw [hLN] at hL
          subst hL
          have HB7 := Lib.hid (bl_then HB4.out HB4.out.size hb)
          clear ho hr hb hLN
          go_wp2_with fail
          refine (anchored_any _).mono ?_
          rintro e wZ ⟨rfl, hb⟩
          have HBZ := Lib.hid (bl_then HB7.out HB7.out.size hb)
          clear hb
          go_wp2_with fail
          go_ret
          exact ⟨rfl, HBZ.out⟩
        case hl => rfl
        case ho => kernel_rfl
  · clear hg
    have hei : ¬ (er : Int) = 0 := by omega
    have hei2 : ((er : Int) == 0) = false := by simpa using he
    by_cases hi : readE bs = 0
    · obtain ⟨l1, l2, b0, b1, b2, b3⟩ := read_forms HOKB.out hi
      have HRP : Hid (∀ B0 e w', ReadPost bs B0 e w' → ∃ u, e = .returned (.tuple #[.agg #[.int .u64 (nu bs 0 : Nat), .int .u64 (nu bs 1 : Nat), .int .u64 (nu bs 2 : Nat), .int .u64 (nu bs 3 : Nat), u], .int .i64 0]) ∧ OwB w' B0 u (readD bs)) := Lib.hid (by
        rintro B0 e w' ⟨u, h1, h2⟩
        rw [hi, if_pos rfl, xr_four] at h1
        exact ⟨u, h1, h2⟩)
      have HWR : Hid (∀ W u, BB W u (readD bs) → Calls Try.prog 15 #[.agg #[.int .u64 (nu bs 0 : Nat), .int .u64 (nu bs 1 : Nat), .int .u64 (nu bs 2 : Nat), .int .u64 (nu bs 3 : Nat), u]] W fun e w' => (∃ q, e = .returned (.tuple #[q, .int .i64 0]) ∧ OwB w' W.heap.size q bs) ∧ Below W.heap.size W w') := Lib.hid (fun W u hW => by
        have := write_any (nu bs 0) (nu bs 1) (nu bs 2) (nu bs 3) u (readD bs) W hW b0 b1 b2 b3
        rw [if_neg (by omega), if_neg (by omega), l2] at this
        exact this)
      clear l1 l2 b0 b1 b2 b3 hi hin
      generalize nu bs 0 = n0 at HRP HWR
      generalize nu bs 1 = n1 at HRP HWR
      generalize nu bs 2 = n2 at HRP HWR
      generalize nu bs 3 = n3 at HRP HWR
      obtain ⟨D, hD⟩ : ∃ D, readD bs = D := ⟨_, rfl⟩
      rw [hD] at HRP HWR HDK
      clear hD
      by_cases hj : (readEvS bs).1 = 0
      · obtain ⟨hf1, hf2⟩ := readEv_forms HOKB.out hj
        have HRE : Hid (∀ B0 e w', REPost bs B0 e w' → ∃ L P, e = .returned (.tuple #[L, .int .i64 0]) ∧ OwE w' B0 L P ∧ P.map HE.e = (readEvS bs).2) := Lib.hid (by
          rintro B0 e w' ⟨L, P, h1, h2, h3⟩
          rw [hj] at h1
          exact ⟨L, P, h1, h2, h3⟩)
        have HWE : Hid (∀ W base L P, OwE W base L P → P.map HE.e = (readEvS bs).2 → Calls Try.prog 20 #[L] W fun e w' => (∃ q, e = .returned (.tuple #[q, .int .i64 0]) ∧ OwB w' W.heap.size q bs) ∧ Below W.heap.size W w') := Lib.hid (fun W base L P h1 h2 => by
          have h3 : P.length = (readEvS bs).2.length := by rw [← h2, List.length_map]
          have := writeevents_any L (P.map HE.e) W (h1.evl (by omega))
          rw [h2, hf1] at this
          exact this)
        clear hf1 hf2 hj
        go_enter Try.func7, Try.ntmps7
        go_wp2_with fail
        refine HRU.out.mono ?_
        rintro e w0 ⟨rfl, hw0⟩
        subst w0
        go_wp2_with fail
        apply wp_region_eff (Inv w (fun _ => False)) (fun _ => none) (Inv.self w) (hm := by kernel_rfl)
        case h =>
          (apply SeqF.pure; (focus (first | rfl | (go_simp; done) | (simp [Region.wanted, yielded]; done))); (focus (intro w; go_simp; with_reducible rfl)); go_simp)
          (apply SeqF.pure; (focus (first | rfl | (go_simp; done) | (simp [Region.wanted, yielded]; done))); (focus (intro w; go_simp; with_reducible rfl)); go_simp)
          (apply SeqF.pure; (focus (first | rfl | (go_simp; done) | (simp [Region.wanted, yielded]; done))); (focus (intro w; go_simp; with_reducible rfl)); go_simp)
          (apply SeqF.skip; (focus (first | rfl | (go_simp; done) | (simp [Region.wanted, yielded]; done))); go_simp)
          (apply SeqF.skip; (focus (first | rfl | (go_simp; done) | (simp [Region.wanted, yielded]; done))); go_simp)
          (apply SeqF.skip; (focus (first | rfl | (go_simp; done) | (simp [Region.wanted, yielded]; done))); go_simp)
          (apply SeqF.skip; (focus (first | rfl | (go_simp; done) | (simp [Region.wanted, yielded]; done))); go_simp)
          (apply SeqF.skip; (focus (first | rfl | (go_simp; done) | (simp [Region.wanted, yielded]; done))); go_simp)
          (apply SeqF.skip; (focus (first | rfl | (go_simp; done) | (simp [Region.wanted, yielded]; done))); go_simp)
          (apply SeqF.skip; (focus (first | rfl | (go_simp; done) | (simp [Region.wanted, yielded]; done))); go_simp)
          (apply SeqF.skip; (focus (first | rfl | (go_simp; done) | (simp [Region.wanted, yielded]; done))); go_simp)
          (apply SeqF.skip; (focus (first | rfl | (go_simp; done) | (simp [Region.wanted, yielded]; done))); go_simp)
          (apply SeqF.skip; (focus (first | rfl | (go_simp; done) | (simp [Region.wanted, yielded]; done))); go_simp)
          (apply SeqF.skip; (focus (first | rfl | (go_simp; done) | (simp [Region.wanted, yielded]; done))); go_simp)
          (apply SeqF.skip; (focus (first | rfl | (go_simp; done) | (simp [Region.wanted, yielded]; done))); go_simp)
          (apply SeqF.skip; (focus (first | rfl | (go_simp; done) | (simp [Region.wanted, yielded]; done))); go_simp)
          (apply SeqF.pure; (focus (first | rfl | (go_simp; done) | (simp [Region.wanted, yielded]; done))); (focus (intro w; go_simp; with_reducible rfl)); go_simp)
          apply SeqF.done
          intro w2 hI
          have HB2 := Lib.hid hI.belowOf
          clear hI
          go_simp
          go_wp2_with fail
          refine (read_any _ bs w2 (HV.out.below HB2.out)).mono ?_
          rintro e w3 ⟨hr, hb⟩
          obtain ⟨y, rfl, hoy⟩ := HRP.out _ _ _ hr
          obtain ⟨Ay, cy, rfl⟩ := OwB.slice hoy
          obtain ⟨l, hl⟩ : ∃ l, D.length = l := ⟨_, rfl⟩
          rw [hl] at hoy
          try rw [hl]
          have HOY := Lib.hid hoy
          have HB3 := Lib.hid (bl_then HB2.out HB2.out.size hb)
          obtain ⟨X, hX⟩ : ∃ X, w3.heap.size = X := ⟨_, rfl⟩
          have HX0 : Hid ((w3.alloc (.cells #[.int .u64 0, .int .u64 0, .int .u64 0, .int .u64 0, .slice none 0 0] 34)).heap[X]? = some (.cells #[.int .u64 0, .int .u64 0, .int .u64 0, .int .u64 0, .slice none 0 0] 34 (0, 0))) := Lib.hid (by rw [← hX]; exact heap_alloc_last _ _)
          obtain ⟨w4, hw4⟩ : ∃ W, (w3.alloc (.cells #[.int .u64 0, .int .u64 0, .int .u64 0, .int .u64 0, .slice none 0 0] 34)).setRow X #[.int .u64 n0, .int .u64 n1, .int .u64 n2, .int .u64 n3, .slice Ay l cy] = W := ⟨_, rfl⟩
          have hb4 : Below w3.heap.size w3 w4 := by rw [← hw4, ← hX]; exact below_setRow (Below.alloc (Below.refl _ _) (Nat.le_refl _) _) (Nat.le_refl _) _
          have HX4 : Hid (w4.heap[X]? = some (.cells #[.int .u64 n0, .int .u64 n1, .int .u64 n2, .int .u64 n3, .slice Ay l cy] 34 (0, 0))) := Lib.hid (by rw [← hw4]; exact setRow_heap _ _ _ _ _ _ HX0.out)
          have HOY4 := Lib.hid (HOY.out.below hb4)
          have HB4 := Lib.hid (bl_then HB3.out HB3.out.size hb4)
          clear hr hb hl hoy hb4 HOY HB3 HB2
          go_wp2_with (first | (with_reducible refine wpList_stB (row := #[.int .u64 n0, .int .u64 n1, .int .u64 n2, .int .u64 n3, .slice Ay l cy]) insInfo (by simp [Value.oneCell']) rfl (.tmp 6) (.tmp 40) rfl rfl rfl HX0.out rfl ?_) | (with_reducible refine wpList_ldB (row := #[.int .u64 n0, .int .u64 n1, .int .u64 n2, .int .u64 n3, .slice Ay l cy]) insInfo insRow rfl (.tmp 6) rfl rfl HX4.out ?_))
          try rw [hw4]
          refine (HWR.out w4 _ (HOY4.out.rd HDK.out.1 HDK.out.2)).mono ?_
          rintro e w5 ⟨⟨q, rfl, ho⟩, hb⟩
          have HO5 := Lib.hid ho
          have HB5 := Lib.hid (bl_then HB4.out HB4.out.size hb)
          clear ho hb hw4 hX HX0 HX4
          go_wp2_with fail
          refine (same_bytes _ _ bs bs w5 (HV.out.below HB5.out) (HO5.out.rd HOKB.out HLB.out)).mono ?_
          rintro e w6 ⟨rfl, hw6⟩
          subst w6
          simp only [decide_true]
          go_wp2_with fail
          refine (readevents_any _ bs w5 (HV.out.below HB5.out)).mono ?_
          rintro e w7 ⟨hr, hb⟩
          obtain ⟨L, P, rfl, ho, hp⟩ := HRE.out _ _ _ hr
          obtain ⟨LA, LC, hL⟩ := ho.form
          obtain ⟨LN, hLN⟩ : ∃ n, P.length = n := ⟨_, rfl⟩
          rw [hLN] at hL
          subst hL
          have HCW := Lib.hid (HWE.out w7 _ _ P ho hp)
          have HB7 := Lib.hid (bl_then HB5.out HB5.out.size hb)
          clear ho hp hr hb hLN
          go_wp2_with fail
          refine HCW.out.mono ?_
          rintro e w8 ⟨⟨q, rfl, ho⟩, hb⟩
          have HO8 := Lib.hid ho
          have HB8 := Lib.hid (bl_then HB7.out HB7.out.size hb)
          clear ho hb
          go_wp2_with fail
          refine (same_bytes _ _ bs bs w8 (HV.out.below HB8.out) (HO8.out.rd HOKB.out HLB.out)).mono ?_
          rintro e w9 ⟨rfl, hw9⟩
          subst w9
          simp only [decide_true]
          go_wp2_with fail
          refine (anchored_any _).mono ?_
          rintro e wZ ⟨rfl, hb⟩
          have HBZ := Lib.hid (bl_then HB8.out HB8.out.size hb)
          clear hb
          go_wp2_with fail
          go_ret
          exact ⟨rfl, HBZ.out⟩
        case hl => rfl
        case ho => kernel_rfl
      · obtain ⟨er3, hy2, hy3⟩ : ∃ er3, er3 ≠ 0 ∧ (readEvS bs).1 = er3 := ⟨_, hj, rfl⟩
        have HRE : Hid (∀ B0 e w', REPost bs B0 e w' → ∃ L P, e = .returned (.tuple #[L, .int .i64 er3]) ∧ OwE w' B0 L P) := Lib.hid (by
          rintro B0 e w' ⟨L, P, h1, h2, h3⟩
          rw [hy3] at h1
          exact ⟨L, P, h1, h2⟩)
        clear hj hy3
        have hyi : ¬ (er3 : Int) = 0 := by omega
        have hyi2 : ((er3 : Int) == 0) = false := by simpa using hy2
        go_enter Try.func7, Try.ntmps7
        go_wp2_with fail
        refine HRU.out.mono ?_
        rintro e w0 ⟨rfl, hw0⟩
        subst w0
        go_wp2_with fail
        apply wp_region_eff (Inv w (fun _ => False)) (fun _ => none) (Inv.self w) (hm := by kernel_rfl)
        case h =>
          (apply SeqF.pure; (focus (first | rfl | (go_simp; done) | (simp [Region.wanted, yielded]; done))); (focus (intro w; go_simp; with_reducible rfl)); go_simp)
          (apply SeqF.pure; (focus (first | rfl | (go_simp; done) | (simp [Region.wanted, yielded]; done))); (focus (intro w; go_simp; with_reducible rfl)); go_simp)
          (apply SeqF.pure; (focus (first | rfl | (go_simp; done) | (simp [Region.wanted, yielded]; done))); (focus (intro w; go_simp; with_reducible rfl)); go_simp)
          (apply SeqF.skip; (focus (first | rfl | (go_simp; done) | (simp [Region.wanted, yielded]; done))); go_simp)
          (apply SeqF.skip; (focus (first | rfl | (go_simp; done) | (simp [Region.wanted, yielded]; done))); go_simp)
          (apply SeqF.skip; (focus (first | rfl | (go_simp; done) | (simp [Region.wanted, yielded]; done))); go_simp)
          (apply SeqF.skip; (focus (first | rfl | (go_simp; done) | (simp [Region.wanted, yielded]; done))); go_simp)
          (apply SeqF.skip; (focus (first | rfl | (go_simp; done) | (simp [Region.wanted, yielded]; done))); go_simp)
          (apply SeqF.skip; (focus (first | rfl | (go_simp; done) | (simp [Region.wanted, yielded]; done))); go_simp)
          (apply SeqF.skip; (focus (first | rfl | (go_simp; done) | (simp [Region.wanted, yielded]; done))); go_simp)
          (apply SeqF.skip; (focus (first | rfl | (go_simp; done) | (simp [Region.wanted, yielded]; done))); go_simp)
          (apply SeqF.skip; (focus (first | rfl | (go_simp; done) | (simp [Region.wanted, yielded]; done))); go_simp)
          (apply SeqF.skip; (focus (first | rfl | (go_simp; done) | (simp [Region.wanted, yielded]; done))); go_simp)
          (apply SeqF.skip; (focus (first | rfl | (go_simp; done) | (simp [Region.wanted, yielded]; done))); go_simp)
          (apply SeqF.skip; (focus (first | rfl | (go_simp; done) | (simp [Region.wanted, yielded]; done))); go_simp)
          (apply SeqF.skip; (focus (first | rfl | (go_simp; done) | (simp [Region.wanted, yielded]; done))); go_simp)
          (apply SeqF.pure; (focus (first | rfl | (go_simp; done) | (simp [Region.wanted, yielded]; done))); (focus (intro w; go_simp; with_reducible rfl)); go_simp)
          apply SeqF.done
          intro w2 hI
          have HB2 := Lib.hid hI.belowOf
          clear hI
          go_simp
          go_wp2_with fail
          refine (read_any _ bs w2 (HV.out.below HB2.out)).mono ?_
          rintro e w3 ⟨hr, hb⟩
          obtain ⟨y, rfl, hoy⟩ := HRP.out _ _ _ hr
          obtain ⟨Ay, cy, rfl⟩ := OwB.slice hoy
          obtain ⟨l, hl⟩ : ∃ l, D.length = l := ⟨_, rfl⟩
          rw [hl] at hoy
          try rw [hl]
          have HOY := Lib.hid hoy
          have HB3 := Lib.hid (bl_then HB2.out HB2.out.size hb)
          obtain ⟨X, hX⟩ : ∃ X, w3.heap.size = X := ⟨_, rfl⟩
          have HX0 : Hid ((w3.alloc (.cells #[.int .u64 0, .int .u64 0, .int .u64 0, .int .u64 0, .slice none 0 0] 34)).heap[X]? = some (.cells #[.int .u64 0, .int .u64 0, .int .u64 0, .int .u64 0, .slice none 0 0] 34 (0, 0))) := Lib.hid (by rw [← hX]; exact heap_alloc_last _ _)
          obtain ⟨w4, hw4⟩ : ∃ W, (w3.alloc (.cells #[.int .u64 0, .int .u64 0, .int .u64 0, .int .u64 0, .slice none 0 0] 34)).setRow X #[.int .u64 n0, .int .u64 n1, .int .u64 n2, .int .u64 n3, .slice Ay l cy] = W := ⟨_, rfl⟩
          have hb4 : Below w3.heap.size w3 w4 := by rw [← hw4, ← hX]; exact below_setRow (Below.alloc (Below.refl _ _) (Nat.le_refl _) _) (Nat.le_refl _) _
          have HX4 : Hid (w4.heap[X]? = some (.cells #[.int .u64 n0, .int .u64 n1, .int .u64 n2, .int .u64 n3, .slice Ay l cy] 34 (0, 0))) := Lib.hid (by rw [← hw4]; exact setRow_heap _ _ _ _ _ _ HX0.out)
          have HOY4 := Lib.hid (HOY.out.below hb4)
          have HB4 := Lib.hid (bl_then HB3.out HB3.out.size hb4)
          clear hr hb hl hoy hb4 HOY HB3 HB2
          go_wp2_with (first | (with_reducible refine wpList_stB (row := #[.int .u64 n0, .int .u64 n1, .int .u64 n2, .int .u64 n3, .slice Ay l cy]) insInfo (by simp [Value.oneCell']) rfl (.tmp 6) (.tmp 40) rfl rfl rfl HX0.out rfl ?_) | (with_reducible refine wpList_ldB (row := #[.int .u64 n0, .int .u64 n1, .int .u64 n2, .int .u64 n3, .slice Ay l cy]) insInfo insRow rfl (.tmp 6) rfl rfl HX4.out ?_))
          try rw [hw4]
          refine (HWR.out w4 _ (HOY4.out.rd HDK.out.1 HDK.out.2)).mono ?_
          rintro e w5 ⟨⟨q, rfl, ho⟩, hb⟩
          have HO5 := Lib.hid ho
          have HB5 := Lib.hid (bl_then HB4.out HB4.out.size hb)
          clear ho hb hw4 hX HX0 HX4
          go_wp2_with fail
          refine (same_bytes _ _ bs bs w5 (HV.out.below HB5.out) (HO5.out.rd HOKB.out HLB.out)).mono ?_
          rintro e w6 ⟨rfl, hw6⟩
          subst w6
          simp only [decide_true]
          go_wp2_with fail
          refine (readevents_any _ bs w5 (HV.out.below HB5.out)).mono ?_
          rintro e w7 ⟨hr, hb⟩
          obtain ⟨L, P, rfl, ho⟩ := HRE.out _ _ _ hr
          obtain ⟨LA, LC, hL⟩ := ho.form
          obtain ⟨LN, hLN⟩ : ∃ n, P.length = n := ⟨_, rfl⟩
          rw [hLN] at hL
          subst hL
          have HB7 := Lib.hid (bl_then HB5.out HB5.out.size hb)
          clear ho hr hb hLN
          go_wp2_with fail
          refine (anchored_any _).mono ?_
          rintro e wZ ⟨rfl, hb⟩
          have HBZ := Lib.hid (bl_then HB7.out HB7.out.size hb)
          clear hb
          go_wp2_with fail
          go_ret
          exact ⟨rfl, HBZ.out⟩
        case hl => rfl
        case ho => kernel_rfl
    · obtain ⟨er2, hx2, hx3⟩ := hin hi
      obtain ⟨D, hD⟩ : ∃ D, readD bs = D := ⟨_, rfl⟩
      have HRP : Hid (∀ B0 e w', ReadPost bs B0 e w' → ∃ u, e = .returned (.tuple #[.agg #[.int .u64 0, .int .u64 0, .int .u64 0, .int .u64 0, u], .int .i64 er2]) ∧ OwB w' B0 u D) := Lib.hid (by
        rintro B0 e w' ⟨u, h1, h2⟩
        rw [hx3, if_neg hx2, xr_zero] at h1
        rw [← hD]
        exact ⟨u, h1, h2⟩)
      rw [hD] at HDK
      clear hi hin hx3 hD
      have hxi : ¬ (er2 : Int) = 0 := by omega
      have hxi2 : ((er2 : Int) == 0) = false := by simpa using hx2
      by_cases hj : (readEvS bs).1 = 0
      · obtain ⟨hf1, hf2⟩ := readEv_forms HOKB.out hj
        have HRE : Hid (∀ B0 e w', REPost bs B0 e w' → ∃ L P, e = .returned (.tuple #[L, .int .i64 0]) ∧ OwE w' B0 L P ∧ P.map HE.e = (readEvS bs).2) := Lib.hid (by
          rintro B0 e w' ⟨L, P, h1, h2, h3⟩
          rw [hj] at h1
          exact ⟨L, P, h1, h2, h3⟩)
        have HWE : Hid (∀ W base L P, OwE W base L P → P.map HE.e = (readEvS bs).2 → Calls Try.prog 20 #[L] W fun e w' => (∃ q, e = .returned (.tuple #[q, .int .i64 0]) ∧ OwB w' W.heap.size q bs) ∧ Below W.heap.size W w') := Lib.hid (fun W base L P h1 h2 => by
          have h3 : P.length = (readEvS bs).2.length := by rw [← h2, List.length_map]
          have := writeevents_any L (P.map HE.e) W (h1.evl (by omega))
          rw [h2, hf1] at this
          exact this)
        clear hf1 hf2 hj
        go_enter Try.func7, Try.ntmps7
        go_wp2_with fail
        refine HRU.out.mono ?_
        rintro e w0 ⟨rfl, hw0⟩
        subst w0
        go_wp2_with fail
        apply wp_region_eff (Inv w (fun _ => False)) (fun _ => none) (Inv.self w) (hm := by kernel_rfl)
        case h =>
          (apply SeqF.pure; (focus (first | rfl | (go_simp; done) | (simp [Region.wanted, yielded]; done))); (focus (intro w; go_simp; with_reducible rfl)); go_simp)
          (apply SeqF.pure; (focus (first | rfl | (go_simp; done) | (simp [Region.wanted, yielded]; done))); (focus (intro w; go_simp; with_reducible rfl)); go_simp)
          (apply SeqF.pure; (focus (first | rfl | (go_simp; done) | (simp [Region.wanted, yielded]; done))); (focus (intro w; go_simp; with_reducible rfl)); go_simp)
          (apply SeqF.skip; (focus (first | rfl | (go_simp; done) | (simp [Region.wanted, yielded]; done))); go_simp)
          (apply SeqF.skip; (focus (first | rfl | (go_simp; done) | (simp [Region.wanted, yielded]; done))); go_simp)
          (apply SeqF.skip; (focus (first | rfl | (go_simp; done) | (simp [Region.wanted, yielded]; done))); go_simp)
          (apply SeqF.skip; (focus (first | rfl | (go_simp; done) | (simp [Region.wanted, yielded]; done))); go_simp)
          (apply SeqF.skip; (focus (first | rfl | (go_simp; done) | (simp [Region.wanted, yielded]; done))); go_simp)
          (apply SeqF.skip; (focus (first | rfl | (go_simp; done) | (simp [Region.wanted, yielded]; done))); go_simp)
          (apply SeqF.skip; (focus (first | rfl | (go_simp; done) | (simp [Region.wanted, yielded]; done))); go_simp)
          (apply SeqF.skip; (focus (first | rfl | (go_simp; done) | (simp [Region.wanted, yielded]; done))); go_simp)
          (apply SeqF.skip; (focus (first | rfl | (go_simp; done) | (simp [Region.wanted, yielded]; done))); go_simp)
          (apply SeqF.skip; (focus (first | rfl | (go_simp; done) | (simp [Region.wanted, yielded]; done))); go_simp)
          (apply SeqF.skip; (focus (first | rfl | (go_simp; done) | (simp [Region.wanted, yielded]; done))); go_simp)
          (apply SeqF.skip; (focus (first | rfl | (go_simp; done) | (simp [Region.wanted, yielded]; done))); go_simp)
          (apply SeqF.skip; (focus (first | rfl | (go_simp; done) | (simp [Region.wanted, yielded]; done))); go_simp)
          (apply SeqF.pure; (focus (first | rfl | (go_simp; done) | (simp [Region.wanted, yielded]; done))); (focus (intro w; go_simp; with_reducible rfl)); go_simp)
          apply SeqF.done
          intro w2 hI
          have HB2 := Lib.hid hI.belowOf
          clear hI
          go_simp
          go_wp2_with fail
          refine (read_any _ bs w2 (HV.out.below HB2.out)).mono ?_
          rintro e w3 ⟨hr, hb⟩
          obtain ⟨y, rfl, hoy⟩ := HRP.out _ _ _ hr
          obtain ⟨Ay, cy, rfl⟩ := OwB.slice hoy
          obtain ⟨l, hl⟩ : ∃ l, D.length = l := ⟨_, rfl⟩
          rw [hl] at hoy
          try rw [hl]
          have HOY := Lib.hid hoy
          have HB3 := Lib.hid (bl_then HB2.out HB2.out.size hb)
          obtain ⟨X, hX⟩ : ∃ X, w3.heap.size = X := ⟨_, rfl⟩
          have HX0 : Hid ((w3.alloc (.cells #[.int .u64 0, .int .u64 0, .int .u64 0, .int .u64 0, .slice none 0 0] 34)).heap[X]? = some (.cells #[.int .u64 0, .int .u64 0, .int .u64 0, .int .u64 0, .slice none 0 0] 34 (0, 0))) := Lib.hid (by rw [← hX]; exact heap_alloc_last _ _)
          obtain ⟨w4, hw4⟩ : ∃ W, (w3.alloc (.cells #[.int .u64 0, .int .u64 0, .int .u64 0, .int .u64 0, .slice none 0 0] 34)).setRow X #[.int .u64 0, .int .u64 0, .int .u64 0, .int .u64 0, .slice Ay l cy] = W := ⟨_, rfl⟩
          have hb4 : Below w3.heap.size w3 w4 := by rw [← hw4, ← hX]; exact below_setRow (Below.alloc (Below.refl _ _) (Nat.le_refl _) _) (Nat.le_refl _) _
          have HX4 : Hid (w4.heap[X]? = some (.cells #[.int .u64 0, .int .u64 0, .int .u64 0, .int .u64 0, .slice Ay l cy] 34 (0, 0))) := Lib.hid (by rw [← hw4]; exact setRow_heap _ _ _ _ _ _ HX0.out)
          have HOY4 := Lib.hid (HOY.out.below hb4)
          have HB4 := Lib.hid (bl_then HB3.out HB3.out.size hb4)
          clear hr hb hl hoy hb4 HOY HB3 HB2
          go_wp2_with (with_reducible refine wpList_stB (row := #[.int .u64 0, .int .u64 0, .int .u64 0, .int .u64 0, .slice Ay l cy]) insInfo (by simp [Value.oneCell']) rfl (.tmp 6) (.tmp 40) rfl rfl rfl HX0.out rfl ?_)
          try rw [hw4]
          refine (readevents_any _ bs w4 (HV.out.below HB4.out)).mono ?_
          rintro e w7 ⟨hr, hb⟩
          obtain ⟨L, P, rfl, ho, hp⟩ := HRE.out _ _ _ hr
          obtain ⟨LA, LC, hL⟩ := ho.form
          obtain ⟨LN, hLN⟩ : ∃ n, P.length = n := ⟨_, rfl⟩
          rw [hLN] at hL
          subst hL
          have HCW := Lib.hid (HWE.out w7 _ _ P ho hp)
          have HB7 := Lib.hid (bl_then HB4.out HB4.out.size hb)
          clear ho hp hr hb hLN
          go_wp2_with fail
          refine HCW.out.mono ?_
          rintro e w8 ⟨⟨q, rfl, ho⟩, hb⟩
          have HO8 := Lib.hid ho
          have HB8 := Lib.hid (bl_then HB7.out HB7.out.size hb)
          clear ho hb
          go_wp2_with fail
          refine (same_bytes _ _ bs bs w8 (HV.out.below HB8.out) (HO8.out.rd HOKB.out HLB.out)).mono ?_
          rintro e w9 ⟨rfl, hw9⟩
          subst w9
          simp only [decide_true]
          go_wp2_with fail
          refine (anchored_any _).mono ?_
          rintro e wZ ⟨rfl, hb⟩
          have HBZ := Lib.hid (bl_then HB8.out HB8.out.size hb)
          clear hb
          go_wp2_with fail
          go_ret
          exact ⟨rfl, HBZ.out⟩
        case hl => rfl
        case ho => kernel_rfl
      · obtain ⟨er3, hy2, hy3⟩ : ∃ er3, er3 ≠ 0 ∧ (readEvS bs).1 = er3 := ⟨_, hj, rfl⟩
        have HRE : Hid (∀ B0 e w', REPost bs B0 e w' → ∃ L P, e = .returned (.tuple #[L, .int .i64 er3]) ∧ OwE w' B0 L P) := Lib.hid (by
          rintro B0 e w' ⟨L, P, h1, h2, h3⟩
          rw [hy3] at h1
          exact ⟨L, P, h1, h2⟩)
        clear hj hy3
        have hyi : ¬ (er3 : Int) = 0 := by omega
        have hyi2 : ((er3 : Int) == 0) = false := by simpa using hy2
        go_enter Try.func7, Try.ntmps7
        go_wp2_with fail
        refine HRU.out.mono ?_
        rintro e w0 ⟨rfl, hw0⟩
        subst w0
        go_wp2_with fail
        apply wp_region_eff (Inv w (fun _ => False)) (fun _ => none) (Inv.self w) (hm := by kernel_rfl)
        case h =>
          (apply SeqF.pure; (focus (first | rfl | (go_simp; done) | (simp [Region.wanted, yielded]; done))); (focus (intro w; go_simp; with_reducible rfl)); go_simp)
          (apply SeqF.pure; (focus (first | rfl | (go_simp; done) | (simp [Region.wanted, yielded]; done))); (focus (intro w; go_simp; with_reducible rfl)); go_simp)
          (apply SeqF.pure; (focus (first | rfl | (go_simp; done) | (simp [Region.wanted, yielded]; done))); (focus (intro w; go_simp; with_reducible rfl)); go_simp)
          (apply SeqF.skip; (focus (first | rfl | (go_simp; done) | (simp [Region.wanted, yielded]; done))); go_simp)
          (apply SeqF.skip; (focus (first | rfl | (go_simp; done) | (simp [Region.wanted, yielded]; done))); go_simp)
          (apply SeqF.skip; (focus (first | rfl | (go_simp; done) | (simp [Region.wanted, yielded]; done))); go_simp)
          (apply SeqF.skip; (focus (first | rfl | (go_simp; done) | (simp [Region.wanted, yielded]; done))); go_simp)
          (apply SeqF.skip; (focus (first | rfl | (go_simp; done) | (simp [Region.wanted, yielded]; done))); go_simp)
          (apply SeqF.skip; (focus (first | rfl | (go_simp; done) | (simp [Region.wanted, yielded]; done))); go_simp)
          (apply SeqF.skip; (focus (first | rfl | (go_simp; done) | (simp [Region.wanted, yielded]; done))); go_simp)
          (apply SeqF.skip; (focus (first | rfl | (go_simp; done) | (simp [Region.wanted, yielded]; done))); go_simp)
          (apply SeqF.skip; (focus (first | rfl | (go_simp; done) | (simp [Region.wanted, yielded]; done))); go_simp)
          (apply SeqF.skip; (focus (first | rfl | (go_simp; done) | (simp [Region.wanted, yielded]; done))); go_simp)
          (apply SeqF.skip; (focus (first | rfl | (go_simp; done) | (simp [Region.wanted, yielded]; done))); go_simp)
          (apply SeqF.skip; (focus (first | rfl | (go_simp; done) | (simp [Region.wanted, yielded]; done))); go_simp)
          (apply SeqF.skip; (focus (first | rfl | (go_simp; done) | (simp [Region.wanted, yielded]; done))); go_simp)
          (apply SeqF.pure; (focus (first | rfl | (go_simp; done) | (simp [Region.wanted, yielded]; done))); (focus (intro w; go_simp; with_reducible rfl)); go_simp)
          apply SeqF.done
          intro w2 hI
          have HB2 := Lib.hid hI.belowOf
          clear hI
          go_simp
          go_wp2_with fail
          refine (read_any _ bs w2 (HV.out.below HB2.out)).mono ?_
          rintro e w3 ⟨hr, hb⟩
          obtain ⟨y, rfl, hoy⟩ := HRP.out _ _ _ hr
          obtain ⟨Ay, cy, rfl⟩ := OwB.slice hoy
          obtain ⟨l, hl⟩ : ∃ l, D.length = l := ⟨_, rfl⟩
          rw [hl] at hoy
          try rw [hl]
          have HOY := Lib.hid hoy
          have HB3 := Lib.hid (bl_then HB2.out HB2.out.size hb)
          obtain ⟨X, hX⟩ : ∃ X, w3.heap.size = X := ⟨_, rfl⟩
          have HX0 : Hid ((w3.alloc (.cells #[.int .u64 0, .int .u64 0, .int .u64 0, .int .u64 0, .slice none 0 0] 34)).heap[X]? = some (.cells #[.int .u64 0, .int .u64 0, .int .u64 0, .int .u64 0, .slice none 0 0] 34 (0, 0))) := Lib.hid (by rw [← hX]; exact heap_alloc_last _ _)
          obtain ⟨w4, hw4⟩ : ∃ W, (w3.alloc (.cells #[.int .u64 0, .int .u64 0, .int .u64 0, .int .u64 0, .slice none 0 0] 34)).setRow X #[.int .u64 0, .int .u64 0, .int .u64 0, .int .u64 0, .slice Ay l cy] = W := ⟨_, rfl⟩
          have hb4 : Below w3.heap.size w3 w4 := by rw [← hw4, ← hX]; exact below_setRow (Below.alloc (Below.refl _ _) (Nat.le_refl _) _) (Nat.le_refl _) _
          have HX4 : Hid (w4.heap[X]? = some (.cells #[.int .u64 0, .int .u64 0, .int .u64 0, .int .u64 0, .slice Ay l cy] 34 (0, 0))) := Lib.hid (by rw [← hw4]; exact setRow_heap _ _ _ _ _ _ HX0.out)
          have HOY4 := Lib.hid (HOY.out.below hb4)
          have HB4 := Lib.hid (bl_then HB3.out HB3.out.size hb4)
          clear hr hb hl hoy hb4 HOY HB3 HB2
          go_wp2_with (with_reducible refine wpList_stB (row := #[.int .u64 0, .int .u64 0, .int .u64 0, .int .u64 0, .slice Ay l cy]) insInfo (by simp [Value.oneCell']) rfl (.tmp 6) (.tmp 40) rfl rfl rfl HX0.out rfl ?_)
          try rw [hw4]
          refine (readevents_any _ bs w4 (HV.out.below HB4.out)).mono ?_
          rintro e w7 ⟨hr, hb⟩
          obtain ⟨L, P, rfl, ho⟩ := HRE.out _ _ _ hr
          obtain ⟨LA, LC, hL⟩ := ho.form
          obtain ⟨LN, hLN⟩ : ∃ n, P.length = n := ⟨_, rfl⟩
          rw [hLN] at hL
          subst hL
          have HB7 := Lib.hid (bl_then HB4.out HB4.out.size hb)
          clear ho hr hb hLN
          go_wp2_with fail
          refine (anchored_any _).mono ?_
          rintro e wZ ⟨rfl, hb⟩
          have HBZ := Lib.hid (bl_then HB7.out HB7.out.size hb)
          clear hb
          go_wp2_with fail
          go_ret
          exact ⟨rfl, HBZ.out⟩
        case hl => rfl
        case ho => kernel_rfl
end Go.Proofs.Ytclnohifgjjngaa
