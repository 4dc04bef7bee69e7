/- What is proved: the law EventsFresh returns true when it is called; conditions: the arguments read as they are said to. -/
import Derived.Test.YtgkiedbefogklaaEvF
set_option linter.unusedSimpArgs false
set_option linter.unusedVariables false
namespace Go.Proofs.Ytgkiedbefogklaa
open Go.RowKit
set_option maxRecDepth 100000
set_option maxHeartbeats 8000000
theorem mayL_short {E : List Event} (h : mayL E = true) : ∀ e ∈ E, e.bs.length ≤ 4096 := by
  intro e he
  unfold mayL at h
  simp only [Bool.and_eq_true, Bool.not_eq_true', List.any_eq_false] at h
  have := h.2 e he
  refine mayS_len ?_
  cases hm : mayS e with
  | true => rfl
  | false => rw [hm] at this; exact absurd rfl this
theorem applyS_short {A : List Event} {ds : List Int} (h : okB ds) : ∀ e ∈ (applyS A ds).2, e.bs.length ≤ 4096 := by
  have hf := (readEv_few h).2
  unfold applyS
  by_cases h1 : mayL A = false
  · rw [if_pos h1]; intro e he; cases he
  · rw [if_neg h1]
    have h1' : mayL A = true := by simpa using h1
    by_cases h2 : (readEvS ds).1 ≠ 0
    · rw [if_pos h2]; intro e he; cases he
    · rw [if_neg h2]
      by_cases h3 : 4096 < A.length + (readEvS ds).2.length
      · rw [if_pos h3]; intro e he; cases he
      · rw [if_neg h3]
        intro e he
        rcases List.mem_append.1 he with he | he
        · exact mayL_short h1' e he
        · exact hf e he
theorem sinceS_short {E : List Event} {k : Int} : ∀ e ∈ (sinceS E k).2, e.bs.length ≤ 4096 := by
  unfold sinceS
  by_cases h1 : mayL E = false ∨ k < 0 ∨ (E.length : Int) < k
  · rw [if_pos h1]; intro e he; cases he
  · rw [if_neg h1]
    have h2 : mayL E = true := by
      cases hm : mayL E with
      | true => rfl
      | false => exact absurd (.inl hm) h1
    intro e he
    exact mayL_short h2 e (List.mem_of_mem_drop he)
theorem grown_setCells (g : Nat) : ∀ (vs : List Value) (o : Nat) (w : World), w.grownBy (w.setCells g o vs) (some g)
  | [], o, w => ⟨rfl, rfl, rfl, Nat.le_refl _, fun _ _ _ => rfl⟩
  | v :: r, o, w => grown_trans (w1 := w.setCell ⟨g, o, none⟩ v) grown_at (grown_setCells g r (o + 1) _)
theorem evInfoZ : (Try.prog.info? 48).map (·.size) = some (#[.int .u8 0, .slice none 0 0, .int .i64 0, .int .i64 0, .int .u8 0] : Array Value).size := evInfo
/-- What is left of events that are spoiled and given up one by one. -/
structure FM (w1 : World) (g k : Nat) (P : List HE) (W : World) : Prop where
  bel : Below w1.heap.size w1 W
  lo : w1.heap.size ≤ g
  lt : g < W.heap.size ∨ P.length = 0
  th : W.there g 0 (P.length * 5)
  cel : ∀ (j : Nat) (p : HE), k ≤ j → P[j]? = some p → W.cell? ⟨g, j * 5 + 1, none⟩ = some p.v
  ev : ∀ (j : Nat) (p : HE), k ≤ j → P[j]? = some p → EvP W w1.heap.size p
  ne : ∀ (j : Nat) (p : HE), P[j]? = some p → ∀ b, p.v.ownBlock = some b → b ≠ g
theorem FM.begin {w1 W : World} {base : Nat} {L : Value} {P : List HE} (h : OwE W base L P) (hb : w1.heap.size ≤ base) (hbel : Below w1.heap.size w1 W) : ∃ g, FM w1 g 0 P W ∧ (0 < P.length → ∃ c, P.length ≤ c ∧ L = .slice (some ⟨g, 0, none⟩) P.length c) := by
  have hrow := h.row
  obtain ⟨hfl, ⟨h1, h2⟩ | ⟨g, cap, cur, h1, hbg, hh, h4, h5, h6, h7⟩⟩ := hrow
  · have hP : P = [] := List.eq_nil_of_length_eq_zero h2
    subst hP
    exact ⟨w1.heap.size, ⟨hbel, Nat.le_refl _, .inr rfl, fun j hj => by simp at hj, fun j p _ hp => by simp at hp, fun j p _ hp => by simp at hp, fun j p hp => by simp at hp⟩, fun h => by simp at h⟩
  · refine ⟨g, ⟨hbel, Nat.le_trans hb hbg, .inl (lt_of_heap hh), fun j hj => ⟨?_, frozen_of_row W g _ _ _ hh⟩, fun j p _ hp => ?_, fun j p _ hp => (h.ev p (List.mem_of_getElem? hp)).mono hb, fun j p hp b hbb e => ?_⟩, fun _ => ⟨cap, h4, h1⟩⟩
    · have hjc : j < cur.size := by rw [h6]; have := Nat.mul_le_mul_right 5 h4; omega
      rw [cell_of_row _ _ _ _ _ _ hh, Nat.zero_add, Array.getElem?_eq_getElem hjc]
      rfl
    · have hi : j < P.length := (List.getElem?_eq_some_iff.1 hp).1
      rw [cell_of_row _ _ _ _ _ _ hh, ← Array.getElem?_toList]
      have h8 := congrArg (fun l => l[j * 5 + 1]?) h7
      simp only [List.getElem?_take] at h8
      rw [if_pos (by omega), flatE_get P j 1 p hp (by omega)] at h8
      rw [h8]
      rfl
    · subst e
      exact h.apart (h.ev p (List.mem_of_getElem? hp)).own hbb (by rw [h1]; rfl)
theorem FM.spoil {w1 W W' : World} {g k : Nat} {P : List HE} {p : HE} (h : FM w1 g k P W) (hs : P.Pairwise Apart) (hp : P[k]? = some p) (hg : W.grownBy W' p.v.ownBlock) : FM w1 g (k + 1) P W' := by
  have hep := h.ev k p (Nat.le_refl _) hp
  have hk : k < P.length := (List.getElem?_eq_some_iff.1 hp).1
  have hgl : g < W.heap.size := h.lt.resolve_right (by omega)
  have hgb : W'.heap[g]? = W.heap[g]? := hg.block g hgl (fun e => h.ne k p hp g e.symm rfl)
  refine ⟨h.bel.grown hg h.bel.size (fun q hq => (own_typed hep.own hq).1), h.lo, .inl (Nat.lt_of_lt_of_le hgl hg.size), fun j hj => ?_, fun j q hj hq => ?_, fun j q hj hq => ?_, h.ne⟩
  · rw [World.cell?_of_block hgb]
    have h1 := h.th j hj
    refine ⟨h1.1, ?_⟩
    have h2 := h1.2
    unfold World.frozen? at h2 ⊢
    rw [hgb]
    exact h2
  · rw [World.cell?_of_block hgb]; exact h.cel j q (by omega) hq
  · refine (h.ev j q (by omega) hq).keep fun b _ hl hb => hg.block b hl (fun e => ?_)
    obtain ⟨hk1, hk2⟩ := List.getElem?_eq_some_iff.1 hp
    obtain ⟨hj1, hj2⟩ := List.getElem?_eq_some_iff.1 hq
    have := List.pairwise_iff_getElem.1 hs k j hk1 hj1 (by omega)
    rw [hk2, hj2] at this
    exact this b e.symm hb
theorem FM.zero {w1 W : World} {g k : Nat} {P : List HE} (h : FM w1 g (k + 1) P W) (hk : k < P.length) : W.there g (k * 5) (#[.int .u8 0, .slice none 0 0, .int .i64 0, .int .i64 0, .int .u8 0] : Array Value).size ∧ FM w1 g (k + 1) P (W.setCells g (k * 5) (#[.int .u8 0, .slice none 0 0, .int .i64 0, .int .i64 0, .int .u8 0] : Array Value).toList) := by
  have hgl : g < W.heap.size := h.lt.resolve_right (by omega)
  have hgr := grown_setCells g (#[.int .u8 0, .slice none 0 0, .int .i64 0, .int .i64 0, .int .u8 0] : Array Value).toList (k * 5) W
  refine ⟨fun j hj => ?_, h.bel.grown hgr h.bel.size (fun q hq => by obtain rfl := Option.some.inj hq; exact h.lo), h.lo, .inl (Nat.lt_of_lt_of_le hgl hgr.size), World.there_setCells h.th _ _ _, fun j q hj hq => ?_, fun j q hj hq => ?_, h.ne⟩
  · have hj5 : j < 5 := hj
    have := h.th (k * 5 + j) (by omega)
    rw [Nat.zero_add] at this
    exact this
  · rw [World.cell?_setCells_out g _ (k * 5) W ⟨g, j * 5 + 1, none⟩ (fun _ _ => .inr (by show k * 5 + 5 ≤ j * 5 + 1; omega))]
    exact h.cel j q hj hq
  · exact (h.ev j q hj hq).keep fun b _ hl hb => hgr.block b hl (fun e => h.ne j q hq b hb (Option.some.inj e))
def gst0 (u : Value) : Option (Nat × Obj) := gst 1 #[u]
/-- The two copies. -/
def CI (V : World) (A : List Event) (ds : List Int) (γ : Gh) (W : World) : Prop :=
  Below V.heap.size V W ∧ (∀ u, γ 0 = gst0 u → ∃ P, OwE W V.heap.size u P ∧ P.map HE.e = A) ∧ ∀ u, γ 1 = gst0 u → OwB W V.heap.size u ds
theorem gst0_inj {u v : Value} (h : gst0 u = gst0 v) : u = v := by
  unfold gst0 gst at h
  simpa using h
theorem evfresh_law (A : List Event) (u xd : Value) (kk : Int) (ds : List Int) (w : World) (hu : EvL w u A) (hA : A.length ≤ 2513169434916) (hd : BB w xd ds) :
    Calls Try.prog 5 #[u, .agg #[xd, .int .i64 kk]] w fun e w' => e = .returned (.bool true) ∧ Below w.heap.size w w' := by
  have hz : ∀ w, (zeroValue 48).run Try.prog w = .ok (.agg #[.int .u8 0, .slice none 0 0, .int .i64 0, .int .i64 0, .int .u8 0]) w := zero_ev2
  have HDK : Hid (okB ds ∧ ds.length ≤ 140737488355328) := Lib.hid ⟨hd.ok, hd.len⟩
  obtain ⟨F, hF⟩ : ∃ P, (applyS A ds).2 = P := ⟨_, rfl⟩
  obtain ⟨e2, he2⟩ : ∃ P, (applyS A ds).1 = P := ⟨_, rfl⟩
  obtain ⟨G, hG⟩ : ∃ P, (sinceS A 0).2 = P := ⟨_, rfl⟩
  obtain ⟨e3, he3⟩ : ∃ P, (sinceS A 0).1 = P := ⟨_, rfl⟩
  have HFL : Hid (F.length ≤ 8192 ∧ G.length ≤ 4096) := Lib.hid ⟨by rw [← hF]; exact applyS_len hd.ok, by rw [← hG]; exact sinceS_len⟩
  have HFS : Hid ((∀ e ∈ F, e.bs.length ≤ 4096) ∧ ∀ e ∈ G, e.bs.length ≤ 4096) := Lib.hid ⟨by rw [← hF]; exact applyS_short hd.ok, by rw [← hG]; exact sinceS_short⟩
  have HA1 : Hid (∀ W c d, EvL W c A → BB W d ds → Calls Try.prog 10 #[c, d] W fun e w' => EsPost e2 F W.heap.size e w' ∧ Below W.heap.size W w') := Lib.hid (fun W c d h1 h2 => by have := evapply_any A ds c d W h1 h2; rwa [hF, he2] at this)
  have HA2 : Hid (∀ W c d, EvL W c A → BB W d ds → Calls Try.prog 14 #[c, d] W fun e w' => EsPost e2 F W.heap.size e w' ∧ Below W.heap.size W w') := Lib.hid (fun W c d h1 h2 => by have := rapply_any A ds c d W h1 h2; rwa [hF, he2] at this)
  have HS1 : Hid (∀ W c, EvL W c A → Calls Try.prog 15 #[c, .int .i64 0] W fun e w' => EsPost e3 G W.heap.size e w' ∧ Below W.heap.size W w') := Lib.hid (fun W c h1 => by have := evsince_any A 0 c W h1; rwa [hG, he3] at this)
  clear hF he2 hG he3
  obtain ⟨UA, UN, UC, rfl⟩ : ∃ X n c, u = .slice X n c := by obtain ⟨_, X, c, h, _⟩ := hu; exact ⟨_, _, _, h⟩
  obtain ⟨XA, XN, XC, rfl⟩ : ∃ X n c, xd = .slice X n c := by obtain ⟨_, _, X, c, h, _⟩ := hd; exact ⟨_, _, _, h⟩
  obtain ⟨B0, hB0⟩ : ∃ B, w.heap.size = B := ⟨_, rfl⟩
  obtain ⟨V, hV⟩ : ∃ W, w.alloc (.cells #[.slice XA XN XC, .int .i64 kk] 35) = W := ⟨_, rfl⟩
  have hbV : Below w.heap.size w V := by rw [← hV]; exact below_alloc _ _
  have HBV := Lib.hid hbV
  have HROW : Hid (V.heap[B0]? = some (.cells #[.slice XA XN XC, .int .i64 kk] 35 (0, 0))) := Lib.hid (by rw [← hV, ← hB0]; exact heap_alloc_last _ _)
  have HU := Lib.hid (hu.below hbV)
  have HD := Lib.hid (hd.below hbV)
  have HI0 : Hid (CI V A ds (fun _ => none) V.drew) := Lib.hid ⟨Below.drew (Below.refl _ _), fun u h => by (unfold gst0 gst at h; cases h), fun u h => by (unfold gst0 gst at h; cases h)⟩
  clear hbV hu hd
  go_enter Try.func5, Try.ntmps5
  go_wp2_with fail
  try rw [hV]
  apply wp_region_effT (CI V A ds) (fun _ => none) HI0.out (hm := by kernel_rfl)
  case h =>
    (apply SeqF.pure; (focus (first | rfl | (go_simp; done) | (simp [Region.wanted, yielded]; done))); (focus (intro w; go_simp; with_reducible rfl)); go_simp)
    apply SeqF.callE [] (some 0) (fun _ v x => (∃ X n c, v = .slice X n c) ∧ x = gst0 v) 6 #[.slice UA UN UC]
    · exact fun _ _ => rfl
    · (first | rfl | (go_simp; done) | (simp [Region.wanted, yielded]; done))
    · intro w; kernel_rfl
    · intro γ' W hg hI
      obtain ⟨i1, i2, i3⟩ := hI
      refine (rcopy_any A _ W (HU.out.below i1) hA).mono ?_
      rintro e w' ⟨⟨L, P, rfl, ho, hp⟩, hb⟩
      obtain ⟨LA, LC, hL⟩ := ho.form
      refine ⟨L, gst0 L, rfl, ⟨⟨_, _, _, hL⟩, rfl⟩, bl_then i1 i1.size hb, fun v hv => ?_, fun v hv => ?_⟩
      · rw [Gh.set_here] at hv
        obtain rfl := gst0_inj hv
        exact ⟨P, ho.mono i1.size, hp⟩
      · rw [Gh.set_far _ _ (by decide)] at hv
        exact (i3 v hv).below hb
    rintro v1 x1 ⟨⟨CA, CN, CC, rfl⟩, rfl⟩
    go_simp
    (apply SeqF.pure; (focus (first | rfl | (go_simp; done) | (simp [Region.wanted, yielded]; done))); (focus (intro w; go_simp; with_reducible rfl)); go_simp)
    apply SeqF.read (v := .slice XA XN XC) []
    · (first | rfl | (go_simp; done) | (simp [Region.wanted, yielded]; done))
    · intro γ' W hg hI
      have x0 : W.cell? ⟨B0, 0, none⟩ = some (.slice XA XN XC) := (cell_of_row _ _ _ _ _ _ ((hI.1.block B0 (lt_of_heap HROW.out)).trans HROW.out)).trans rfl
      go_simp
    go_simp
    apply SeqF.callE [] (some 1) (fun _ v x => (∃ X n c, v = .slice X n c) ∧ x = gst0 v) 20 #[.slice XA XN XC]
    · exact fun _ _ => rfl
    · (first | rfl | (go_simp; done) | (simp [Region.wanted, yielded]; done))
    · intro w; kernel_rfl
    · intro γ' W hg hI
      obtain ⟨i1, i2, i3⟩ := hI
      refine (copy_bytes _ ds W (HD.out.below i1)).mono ?_
      rintro e w' ⟨⟨L, rfl, ho⟩, hb⟩
      obtain ⟨X9, n9, c9, hL⟩ := ho.form
      refine ⟨L, gst0 L, rfl, ⟨⟨_, _, _, hL⟩, rfl⟩, bl_then i1 i1.size hb, fun v hv => ?_, fun v hv => ?_⟩
      · rw [Gh.set_far _ _ (by decide)] at hv
        obtain ⟨P, h1, h2⟩ := i2 v hv
        exact ⟨P, h1.below hb, h2⟩
      · rw [Gh.set_here] at hv
        obtain rfl := gst0_inj hv
        exact ho.mono i1.size
    rintro v2 x2 ⟨⟨DA, DN, DC, rfl⟩, rfl⟩
    go_simp
    apply SeqF.dyn [0] (fun γ => gv 0 (γ 0))
    · intro γ' hg; simp only [hg 0 (by simp)]
    · (first | rfl | (go_simp; done) | (simp [Region.wanted, yielded]; done))
    · intro γ' W hg hI
      rw [Gh.set_far _ _ (by decide), Gh.set_here]
      unfold gst0
      rw [gv_gst]
      go_simp
    rw [Gh.set_far _ _ (by decide), Gh.set_here]
    unfold gst0
    rw [gv_gst]
    go_simp
    apply SeqF.dyn [1] (fun γ => gv 0 (γ 1))
    · intro γ' hg; simp only [hg 1 (by simp)]
    · (first | rfl | (go_simp; done) | (simp [Region.wanted, yielded]; done))
    · intro γ' W hg hI
      rw [Gh.set_here, gv_gst]
      go_simp
    rw [Gh.set_here, gv_gst]
    go_simp
    apply SeqF.done
    intro w1 hI1
    obtain ⟨i1, i2, i3⟩ := hI1
    obtain ⟨CP, hcp, hce⟩ := i2 (.slice CA CN CC) (by rw [Gh.set_far _ _ (by decide), Gh.set_here]; rfl)
    have hdp := i3 (.slice DA DN DC) (by rw [Gh.set_here]; rfl)
    have HB1 := Lib.hid i1
    have HC1 : Hid (EvL w1 (.slice CA CN CC) A) := Lib.hid (by
      have h1 : CP.length = A.length := by rw [← hce, List.length_map]
      have := hcp.evl (by omega)
      rwa [hce] at this)
    have HD1 := Lib.hid (hdp.rd HDK.out.1 HDK.out.2)
    clear i1 i2 i3 hcp hce hdp HI0
    go_simp
    go_wp2_with fail
    refine (HA1.out w1 _ _ HC1.out HD1.out).mono ?_
    rintro e w2 ⟨⟨L, P, rfl, hl, hp⟩, hb⟩
    have HB2 := Lib.hid hb
    have HL2 := Lib.hid hl
    have HPE : Hid (∀ p ∈ P, p.e.bs.length ≤ 4096) := Lib.hid (fun p hp2 => HFS.out.1 p.e (by rw [← hp]; exact List.mem_map_of_mem hp2))
    obtain ⟨LA, LC, hL⟩ := hl.form
    obtain ⟨LN, hLN⟩ : ∃ n, P.length = n := ⟨_, rfl⟩
    have HLN := Lib.hid hLN
    have hLN8 : LN ≤ 8192 := by rw [← hLN, ← List.length_map (f := HE.e), hp]; exact HFL.out.1
    rw [hLN] at hL
    subst hL
    clear hl hp hb hLN
    go_wp2_with fail
    refine (HS1.out w2 _ (HC1.out.below HB2.out)).mono ?_
    rintro e w3 ⟨⟨S, Q, rfl, hs, hq⟩, hb⟩
    have HB3 := Lib.hid (bl_then HB2.out HB2.out.size hb)
    have HL3 := Lib.hid (HL2.out.below hb)
    have HS3 := Lib.hid hs
    have HQE : Hid (∀ p ∈ Q, p.e.bs.length ≤ 4096) := Lib.hid (fun p hp2 => HFS.out.2 p.e (by rw [← hq]; exact List.mem_map_of_mem hp2))
    obtain ⟨SA, SC, hS⟩ := hs.form
    obtain ⟨SN, hSN⟩ : ∃ n, Q.length = n := ⟨_, rfl⟩
    have HSN := Lib.hid hSN
    have hSN4 : SN ≤ 4096 := by rw [← hSN, ← List.length_map (f := HE.e), hq]; exact HFL.out.2
    rw [hSN] at hS
    subst hS
    have h2s := HB2.out.size
    obtain ⟨g1, hf1, hg1⟩ := FM.begin HL3.out (Nat.le_refl _) HB3.out
    rw [HLN.out] at hg1
    have HF1 := Lib.hid hf1
    have HG1 := Lib.hid hg1
    have HW2 : Hid (w2.heap.size ≤ w3.heap.size) := Lib.hid hb.size
    -- what is Since's lies behind all of Apply's
    have HSEP : Hid (∀ p ∈ P, ∀ b, p.v.ownBlock = some b → b < w2.heap.size) := Lib.hid (fun p hp b hbb => (World.ownsRow.lt (HL2.out.ev p hp).own b hbb).2)
    have HGL : Hid (0 < LN → g1 < w2.heap.size) := Lib.hid (fun h => by
      obtain ⟨c, _, e⟩ := hg1 h
      exact (World.ownsRow.lt HL2.out.row g1 (by rw [e]; rfl)).2)
    clear hs hq hb hSN hf1 hg1 HL3
    go_wp2_with fail
    go_loopw [11] (fun i wr => ∃ k : Nat, k ≤ LN ∧ i = .int .i64 k ∧ Hid (FM w1 g1 k P wr) ∧ Hid (OwE wr w2.heap.size (.slice SA SN SC) Q)) (fun i _ => LN - (intOf i).toNat)
    case atStart => exact ⟨0, by omega, rfl, HF1, HS3⟩
    case round =>
      clear HF1 HS3
      obtain ⟨k, hk, rfl, HF, HS⟩ := hrel
      by_cases hkn : k < LN
      · have hki : (k : Int) < (LN : Int) := by omega
        have hk0 : (0 : Int) ≤ (k : Int) := by omega
        obtain ⟨cc, hcc, hLg⟩ := HG1.out (by omega)
        simp only [Value.slice.injEq] at hLg
        obtain ⟨rfl, _, rfl⟩ := hLg
        obtain ⟨p, hp⟩ : ∃ p, P[k]? = some p := ⟨_, List.getElem?_eq_getElem (by rw [HLN.out]; exact hkn)⟩
        have HPK := Lib.hid hp
        have hcell := HF.out.cel k p (Nat.le_refl _) hp
        have hgl : g1 < wr.heap.size := HF.out.lt.resolve_right (by rw [HLN.out]; omega)
        have HE := Lib.hid (HF.out.ev k p (Nat.le_refl _) hp)
        have hpl := HPE.out p (List.mem_of_getElem? hp)
        have hpb := HSEP.out p (List.mem_of_getElem? hp)
        have HPB := Lib.hid hpb
        obtain ⟨e, pv⟩ := p
        obtain ⟨PA, PN, PC, hpv⟩ := HE.out.own.form
        dsimp only at hpv hcell hpl
        subst hpv
        clear hp hpb
        have HSP := Lib.hid (spoil_bytes (.slice PA PN PC) e.bs 3 w1.heap.size wr HE.out.own (by omega) (by decide) HF.out.bel.size)
        go_wp2_with fail
        refine HSP.out.mono ?_
        rintro r w7 ⟨⟨rv, rfl⟩, hg⟩
        have HF7 := Lib.hid (HF.out.spoil HL2.out.sep HPK.out hg)
        have HS7 : Hid (OwE w7 w2.heap.size (.slice SA SN SC) Q) := Lib.hid (HS.out.keep fun b hb hl => hg.block b hl (fun e => by have := HPB.out b e.symm; omega))
        obtain ⟨th, fz⟩ := HF7.out.zero (by rw [HLN.out]; exact hkn)
        have HTH := Lib.hid th
        have HFZ := Lib.hid fz
        have HSZ : Hid (OwE (w7.setCells g1 (k * 5) (#[.int .u8 0, .slice none 0 0, .int .i64 0, .int .i64 0, .int .u8 0] : Array Value).toList) w2.heap.size (.slice SA SN SC) Q) := Lib.hid (HS7.out.keep fun b hb hl => (grown_setCells g1 _ _ w7).block b hl (fun e => by have := HGL.out (by omega); have := Option.some.inj e; omega))
        clear hg th fz hcell
        go_wp2_with (with_reducible refine wpList_store_mid rfl 48 (.tmp 48) (.tmp 47) rfl g1 (k * 5) #[.int .u8 0, .slice none 0 0, .int .i64 0, .int .i64 0, .int .u8 0] rfl rfl HTH.out evInfoZ (by simp [Value.oneCell']) ?_)
        go_roundw
        case rel => exact ⟨k + 1, by omega, by go_num, HFZ, HSZ⟩
        case measure => simp [intOf] <;> omega
      · have hki : ¬ (k : Int) < (LN : Int) := by omega
        have HBR : Hid (Below w1.heap.size w1 wr) := Lib.hid HF.out.bel
        obtain ⟨g2, hf2, hg2⟩ := FM.begin (w1 := w1) HS.out h2s HBR.out
        rw [HSN.out] at hg2
        have HF2 := Lib.hid hf2
        have HG2 := Lib.hid hg2
        have HSEP2 := Lib.hid HS.out.sep
        clear HF hf2 hg2
        go_wp2_with fail
        go_loopw [12] (fun i wr => ∃ k : Nat, k ≤ SN ∧ i = .int .i64 k ∧ Hid (FM w1 g2 k Q wr)) (fun i _ => SN - (intOf i).toNat)
        case atStart => exact ⟨0, by omega, rfl, HF2⟩
        case round =>
          clear HF2 HS HBR
          clear hkn hki
          obtain ⟨k2, hk2, rfl, HF⟩ := hrel
          by_cases hkn : k2 < SN
          · have hki : (k2 : Int) < (SN : Int) := by omega
            have hk0 : (0 : Int) ≤ (k2 : Int) := by omega
            obtain ⟨cc, hcc, hLg⟩ := HG2.out (by omega)
            simp only [Value.slice.injEq] at hLg
            obtain ⟨rfl, _, rfl⟩ := hLg
            obtain ⟨p, hp⟩ : ∃ p, Q[k2]? = some p := ⟨_, List.getElem?_eq_getElem (by rw [HSN.out]; exact hkn)⟩
            have HPK := Lib.hid hp
            have hcell := HF.out.cel k2 p (Nat.le_refl _) hp
            have hgl : g2 < wr.heap.size := HF.out.lt.resolve_right (by rw [HSN.out]; omega)
            have HE := Lib.hid (HF.out.ev k2 p (Nat.le_refl _) hp)
            have hpl := HQE.out p (List.mem_of_getElem? hp)
            obtain ⟨e, pv⟩ := p
            obtain ⟨PA, PN, PC, hpv⟩ := HE.out.own.form
            dsimp only at hpv hcell hpl
            subst hpv
            clear hp
            have HSP := Lib.hid (spoil_bytes (.slice PA PN PC) e.bs 4 w1.heap.size wr HE.out.own (by omega) (by decide) HF.out.bel.size)
            go_wp2_with fail
            refine HSP.out.mono ?_
            rintro r w7 ⟨⟨rv, rfl⟩, hg⟩
            have HF7 := Lib.hid (HF.out.spoil HSEP2.out HPK.out hg)
            obtain ⟨th, fz⟩ := HF7.out.zero (by rw [HSN.out]; exact hkn)
            have HTH := Lib.hid th
            have HFZ := Lib.hid fz
            clear hg th fz hcell
            go_wp2_with (with_reducible refine wpList_store_mid rfl 48 (.tmp 64) (.tmp 63) rfl g2 (k2 * 5) #[.int .u8 0, .slice none 0 0, .int .i64 0, .int .i64 0, .int .u8 0] rfl rfl HTH.out evInfoZ (by simp [Value.oneCell']) ?_)
            go_roundw
            case rel => exact ⟨k2 + 1, by omega, by go_num, HFZ⟩
            case measure => simp [intOf] <;> omega
          · have hki : ¬ (k2 : Int) < (SN : Int) := by omega
            have HBR : Hid (Below w1.heap.size w1 wr) := Lib.hid HF.out.bel
            have Hwr : Hid (Below V.heap.size V wr) := Lib.hid (bl_then HB1.out HB1.out.size HBR.out)
            clear HF
            go_wp2_with fail
            refine (HA1.out wr _ _ (HC1.out.below HBR.out) (HD1.out.below HBR.out)).mono ?_
            rintro e w8 ⟨⟨M, R1, rfl, ho8, hp8⟩, hb⟩
            have HEM : Hid (EvL w8 M F) := Lib.hid (by
              have h9 := ho8.evl (by rw [← List.length_map (f := HE.e), hp8]; have := HFL.out; omega)
              rwa [hp8] at h9)
            obtain ⟨MA, MC, hM⟩ := ho8.form
            obtain ⟨MN, hMN⟩ : ∃ n, R1.length = n := ⟨_, rfl⟩
            rw [hMN] at hM
            subst hM
            have HB8 := Lib.hid (bl_then HBR.out HBR.out.size hb)
            have HW8 := Lib.hid (bl_then Hwr.out Hwr.out.size hb)
            have r8 := (HW8.out.block B0 (lt_of_heap HROW.out)).trans HROW.out
            have z8 : w8.cell? ⟨B0, 0, none⟩ = some (.slice XA XN XC) := (cell_of_row _ _ _ _ _ _ r8).trans rfl
            have y8 := lt_of_heap r8
            clear ho8 hp8 hb hMN r8
            go_wp2_with fail
            refine (HA2.out w8 _ _ (HU.out.below HW8.out) (HD.out.below HW8.out)).mono ?_
            rintro e w9 ⟨⟨M2, R2, rfl, ho9, hp9⟩, hb⟩
            have HEN : Hid (EvL w9 M2 F) := Lib.hid (by
              have h9 := ho9.evl (by rw [← List.length_map (f := HE.e), hp9]; have := HFL.out; omega)
              rwa [hp9] at h9)
            have HEM9 := Lib.hid (HEM.out.below hb)
            obtain ⟨NA, NC, hM⟩ := ho9.form
            obtain ⟨NN, hNN⟩ : ∃ n, R2.length = n := ⟨_, rfl⟩
            rw [hNN] at hM
            subst hM
            have HB9 := Lib.hid (bl_then HB8.out HB8.out.size hb)
            have HW9 := Lib.hid (bl_then HW8.out HW8.out.size hb)
            clear ho9 hp9 hb hNN z8 y8
            have HSA : Hid (sameL A A = true) := Lib.hid (sameL_iff.2 rfl)
            have HSF : Hid (sameL F F = true) := Lib.hid (sameL_iff.2 rfl)
            go_wp2_with fail
            refine (anchored_any w9).mono ?_
            rintro e wA ⟨rfl, hb⟩
            have HBA := Lib.hid (bl_then HB9.out HB9.out.size hb)
            have HWA := Lib.hid (bl_then HW9.out HW9.out.size hb)
            have HEMA := Lib.hid (HEM9.out.below hb)
            have HENA := Lib.hid (HEN.out.below hb)
            clear hb
            go_wp2_with fail
            refine (lists_dec A A _ _ wA (HU.out.below HWA.out) (HC1.out.below HBA.out)).mono ?_
            rintro e wB ⟨rfl, hb⟩
            rw [HSA.out]
            have HBB := Lib.hid (bl_then HBA.out HBA.out.size hb)
            have HWB := Lib.hid (bl_then HWA.out HWA.out.size hb)
            have HEMB := Lib.hid (HEMA.out.below hb)
            have HENB := Lib.hid (HENA.out.below hb)
            clear hb
            have rB := (HWB.out.block B0 (lt_of_heap HROW.out)).trans HROW.out
            have zB : wB.cell? ⟨B0, 0, none⟩ = some (.slice XA XN XC) := (cell_of_row _ _ _ _ _ _ rB).trans rfl
            have yB := lt_of_heap rB
            clear rB
            go_wp2_with fail
            refine (same_bytes _ _ ds ds wB (HD1.out.below HBB.out) (HD.out.below HWB.out)).mono ?_
            rintro e wC ⟨rfl, hwC⟩
            subst wC
            simp only [decide_true]
            go_wp2_with fail
            refine (lists_dec F F _ _ wB HEMB.out HENB.out).mono ?_
            rintro e wC ⟨rfl, hb⟩
            rw [HSF.out]
            have HWC := Lib.hid (bl_then HWB.out HWB.out.size hb)
            clear hb
            go_wp2_with fail
            go_ret
            exact ⟨rfl, bl_then HBV.out HBV.out.size HWC.out⟩
  case hl => rfl
  case ho => kernel_rfl
end Go.Proofs.Ytgkiedbefogklaa
