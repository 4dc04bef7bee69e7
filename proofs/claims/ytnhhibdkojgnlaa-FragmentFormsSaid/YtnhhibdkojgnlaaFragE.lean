/- What is proved: what Read of package fragment answers when it is called; conditions: those typed. -/
import Derived.Test.YtnhhibdkojgnlaaFragD
set_option linter.unusedSimpArgs false
set_option linter.unusedVariables false
namespace Go.Proofs.Ytnhhibdkojgnlaa
open Go.RowKit
set_option maxRecDepth 100000
set_option maxHeartbeats 8000000
/-- What is read, an error's part too. -/
def readPV (bs : List Int) : Nat × Nat × Bool × List Int := (readPF bs).2.getD (0, 0, false, [])
theorem restB {w : World} {A : Option Addr} {l cap n : Nat} {xs : List Int} (h : BB w (.slice A l cap) xs) (hn : n ≤ xs.length) : BB w (.slice (restA A cap n) (l - n) (cap - n)) (xs.drop n) := by
  obtain ⟨h1, h2, A', cap', e, hr, h3, h4, h5⟩ := h
  simp only [Value.slice.injEq] at e
  obtain ⟨rfl, rfl, rfl⟩ := e
  have hl : (xs.drop n).length = xs.length - n := List.length_drop
  refine ⟨h1.drop n, by omega, _, _, by rw [hl], ?_, fun hA => ?_, by omega, by omega⟩
  · rw [hl]
    exact hr.drop hn h4
  · have : A = none ∨ cap = n := by
      unfold restA at hA
      split at hA
      · exact .inr (by assumption)
      · cases A
        · exact .inl rfl
        · simp at hA
    rcases this with h | h
    · have := h3 h; omega
    · omega
theorem run_rest (A : Option Addr) (l cap n : Nat) (hn : n ≤ l) (W : World) : (Instr.slice 28 (.slice A l cap) (some (.int .i64 n)) none none).run Try.prog W = .ok (.slice (restA A cap n) (l - n) (cap - n)) W := by
  obtain ⟨i, hi, hz⟩ : ∃ i, Try.prog.info? 5 = some i ∧ i.size = 1 := by
    obtain ⟨i, h, h2⟩ := Option.map_eq_some_iff.1 (show (Try.prog.info? 5).map (fun i => i.size) = some 1 by kernel_rfl)
    exact ⟨i, h, h2⟩
  rw [run_slice_from Try.prog 28 5 Try.underlying28 i hi hz A l cap n hn W]
  rfl
theorem exec_slice {P : Program} {o : Oper} {a : Act} {ty : TypeId} {x y : Operand} {p q v : Value} {w : World} (ho : o.op = .slice ty x (some y) none none) (hx : a.eval x = p) (hy : a.eval y = q) (h : (Instr.sliceAt ty p (some q) none none).run P w = .ok v w) : (execOp a.eval o).run P w = .ok (.value v) w := by
  unfold execOp
  simp only [ho, hx, hy, Option.map_some, Option.map_none, Sem.run_bind, h, Result.andThen_ok]
  rfl
theorem run_restAt (A : Option Addr) (l cap n : Nat) (hn : n ≤ l) (W : World) : (Instr.sliceAt 28 (.slice A l cap) (some (.int .i64 n)) none none).run Try.prog W = .ok (.slice (restA A cap n) (l - n) (cap - n)) W := by
  rw [← run_rest A l cap n hn W]
  simp [Instr.sliceAt, run_underlying Try.underlying28]
/-- What has been read after k numbers. -/
def RSt (bs cs : List Int) (x0 x1 : Nat) : Nat → Prop
  | 0 => cs = bs ∧ x0 = 0 ∧ x1 = 0
  | 1 => (readS bs).2.2 = 0 ∧ x0 = (readS bs).1 ∧ x1 = 0 ∧ cs = bs.drop (readS bs).2.1
  | _ => (readS bs).2.2 = 0 ∧ (readS (bs.drop (readS bs).2.1)).2.2 = 0 ∧ x0 = (readS bs).1 ∧ x1 = (readS (bs.drop (readS bs).2.1)).1 ∧ cs = bs.drop ((readS bs).2.1 + (readS (bs.drop (readS bs).2.1)).2.1)
theorem RSt.err {bs cs : List Int} {x0 x1 k : Nat} (h : RSt bs cs x0 x1 k) (hk : k < 2) (he : (readS cs).2.2 ≠ 0) : readPF bs = ((readS cs).2.2, none) := by
  rcases (by omega : k = 0 ∨ k = 1) with rfl | rfl
  · obtain ⟨rfl, _⟩ := h
    unfold readPF
    rw [if_pos he]
  · obtain ⟨h1, _, _, rfl⟩ := h
    unfold readPF
    rw [if_neg (by omega), if_pos he]
theorem RSt.next0 {bs cs : List Int} {x0 x1 : Nat} (h : RSt bs cs x0 x1 0) (he : (readS cs).2.2 = 0) : RSt bs (cs.drop (readS cs).2.1) (readS cs).1 x1 1 := by
  obtain ⟨rfl, _, rfl⟩ := h
  exact ⟨he, rfl, rfl, rfl⟩
theorem RSt.next1 {bs cs : List Int} {x0 x1 : Nat} (h : RSt bs cs x0 x1 1) (he : (readS cs).2.2 = 0) : RSt bs (cs.drop (readS cs).2.1) x0 (readS cs).1 2 := by
  obtain ⟨h1, rfl, _, rfl⟩ := h
  exact ⟨h1, he, rfl, rfl, by rw [List.drop_drop]⟩
theorem RSt.done {bs cs : List Int} {x0 x1 : Nat} (h : RSt bs cs x0 x1 2) : readPF bs = if mayB (min (x1 / 2) 256 : Nat) (x1 % 2 == 1) cs.length then (0, some (x0, min (x1 / 2) 256, x1 % 2 == 1, cs)) else (8, none) := by
  obtain ⟨h1, h2, rfl, rfl, rfl⟩ := h
  unfold readPF
  rw [if_neg (by omega), if_neg (by omega)]
/-- A round of reading. -/
structure RE (w wr : World) (B : Nat) (bs cs : List Int) (vb : Value) (x0 x1 k : Nat) : Prop where
  bb : BB w vb cs
  hR : wr.heap[B]? = some (.cells #[.int .u64 0, .int .i64 0, .bool false, .slice none 0 0] 33 (0, 0))
  hA : wr.heap[B + 1]? = some (.cells #[.int .u64 x0, .int .u64 x1] 72 (0, 0))
  bel : Below B w wr
  st : RSt bs cs x0 x1 k
  lt : x0 < 18446744073709551616 ∧ x1 < 18446744073709551616
theorem and1u (x : Nat) (h : x < 18446744073709551616) : bits .and .u64 (x : Int) 1 = ((x % 2 : Nat) : Int) := by
  have e : (x % 2 ^ 64 : Nat) = x := Nat.mod_eq_of_lt (by omega)
  have e1 : (1 % 2 ^ 64 : Nat) = 1 := rfl
  simp [bits, IntKind.wrap_u64]
  rw [show IntKind.u64.bits = 64 from rfl, e, e1, Nat.and_one_is_mod]
  omega
theorem Inv.start1 {w : World} {g : Nat} {o : Obj} (h : w.heap[g]? = some o) : Inv w (fun b => b = g) (gh0.set (some 0) (some (g, o))) w.drew := by
  refine Inv.start w _ _ ?_ ?_
  · intro t g' o' ht
    by_cases e : t = 0
    · subst e
      rw [Gh.set_here] at ht
      cases ht
      exact ⟨h, rfl⟩
    · rw [Gh.set_far _ _ (by omega)] at ht
      cases ht
  · intro t t' g1 g2 o1 o2 h1 h2 hne
    by_cases e : t = 0
    · subst e
      rw [Gh.set_far _ _ (by omega)] at h2
      cases h2
    · rw [Gh.set_far _ _ (by omega)] at h1
      cases h1
theorem Below.size' {B : Nat} {w w1 : World} (h : Below B w w1) (hB : w.heap.size = B) : B ≤ w1.heap.size := by have := h.size; omega
/-- How Read ends. -/
def ReadOk (r : Nat × Option (Nat × Nat × Bool × List Int)) (w' : World) (base : Nat) (e : Ending) : Prop :=
  ∃ vb, e = .returned (.tuple #[partV (r.2.getD (0, 0, false, [])).1 (r.2.getD (0, 0, false, [])).2.1 (r.2.getD (0, 0, false, [])).2.2.1 vb, .int .i64 r.1]) ∧ OwB w' base vb (r.2.getD (0, 0, false, [])).2.2.2
theorem ReadOk.err {r : Nat × Option (Nat × Nat × Bool × List Int)} {er : Nat} (h : r = (er, none)) (w' : World) (base : Nat) : ReadOk r w' base (.returned (.tuple #[.agg #[.int .u64 0, .int .i64 0, .bool false, .slice none 0 0], .int .i64 er])) := by
  subst h
  exact ⟨.slice none 0 0, rfl, OwB.nil _ _⟩
theorem ReadOk.ok {r : Nat × Option (Nat × Nat × Bool × List Int)} {id n : Nat} {last : Bool} {bs : List Int} (h : r = (0, some (id, n, last, bs))) {w' : World} {base : Nat} {vb : Value} (ho : OwB w' base vb bs) : ReadOk r w' base (.returned (.tuple #[.agg #[.int .u64 id, .int .i64 n, .bool last, vb], .int .i64 0])) := by
  subst h
  exact ⟨vb, rfl, ho⟩
theorem read_any (v : Value) (bs : List Int) (w : World) (hv : BB w v bs) :
    Calls Try.prog 16 #[v] w fun e w' => ReadOk (readPF bs) w' w.heap.size e ∧ Below w.heap.size w w' := by
  obtain ⟨B, hB⟩ : ∃ B, w.heap.size = B := ⟨_, rfl⟩
  obtain ⟨r, hr⟩ : ∃ r, readPF bs = r := ⟨_, rfl⟩
  rw [hr, hB]
  have HR := Lib.hid hr
  clear hr
  obtain ⟨V, hV⟩ : ∃ V, (w.alloc (.cells #[.int .u64 0, .int .i64 0, .bool false, .slice none 0 0] 33)).alloc (.cells #[.int .u64 0, .int .u64 0] 72) = V := ⟨_, rfl⟩
  have H0 : Hid (RE w V B bs bs v 0 0 0) := Lib.hid {
    bb := hv
    hR := by rw [← hV, ← hB]; (simp only [heap_setRow_if, heap_alloc_if, heap_setCell_if, World.size_alloc, size_setRow, World.size_setCell]; simp)
    hA := by rw [← hV, ← hB]; (simp only [heap_setRow_if, heap_alloc_if, heap_setCell_if, World.size_alloc, size_setRow, World.size_setCell]; simp)
    bel := by rw [← hV, ← hB]; (repeat' (first | (with_reducible exact Below.refl _ _) | (with_reducible assumption) | (with_reducible refine Below.alloc ?_ ?_ _) | (with_reducible refine below_setRow ?_ ?_ _) | (with_reducible refine bl_drew ?_) | (with_reducible refine bl_drewN ?_ _) | (with_reducible refine Below.setCell ?_ ?_ _) | (with_reducible refine bl_then ?_ ?_ hb) | (with_reducible refine bl_then ?_ ?_ hb1) | (with_reducible refine bl_then ?_ ?_ hb2) | (with_reducible refine bl_then ?_ ?_ hb3) | (with_reducible refine bl_then ?_ ?_ hb4) | (with_reducible refine bl_then ?_ ?_ hb5) | (with_reducible refine bl_then ?_ ?_ hb6) | (with_reducible refine bl_then ?_ ?_ hb7) | (with_reducible refine bl_then ?_ ?_ hb8) | (with_reducible exact Nat.le_refl _) | omega | (simp only [World.size_alloc, World.size_setCell, World.size_drew, size_setRow]; omega) | (simp; omega) | (simp; done)))
    st := ⟨rfl, rfl, rfl⟩
    lt := ⟨by omega, by omega⟩ }
  have HV := Lib.hid hv
  clear hv
  have hz : ∀ w, (zeroValue 33).run Try.prog w = .ok (.agg #[.int .u64 0, .int .i64 0, .bool false, .slice none 0 0]) w := zero_part
  go_enter Try.func16, Try.ntmps16
  go_wp2_with fail
-- WALK
  go_loopw [10, 0] (fun i vb wr => ∃ k : Nat, k ≤ 2 ∧ i = .int .i64 k ∧ ∃ (cs : List Int) (x0 x1 : Nat), Hid (RE w wr B bs cs vb x0 x1 k)) (fun i _ _ => 2 - (intOf i).toNat)
  case atStart => exact ⟨0, by omega, rfl, bs, 0, 0, H0⟩
  case round =>
    obtain ⟨k, hk, rfl, cs, x0, x1, H⟩ := hrel
    clear H0 HV hV
    rcases (by omega : k = 0 ∨ k = 1 ∨ k = 2) with rfl | rfl | rfl
    · as_aux_lemma =>
        obtain ⟨_, _, A, cap, hvb, hRD0, hnc, hlc, hcm⟩ := H.out.bb
        subst hvb
        have HRD := Lib.hid (readuint_any _ cs wr (H.out.bb.below (by rw [hB]; exact H.out.bel)))
        have hok := H.out.bb.ok
        obtain ⟨x, hx⟩ : ∃ x, (readS cs).1 = x := ⟨_, rfl⟩
        obtain ⟨c, hc⟩ : ∃ c, (readS cs).2.1 = c := ⟨_, rfl⟩
        obtain ⟨er, her⟩ : ∃ er, (readS cs).2.2 = er := ⟨_, rfl⟩
        rw [hx, hc, her] at HRD
        clear hRD0 hnc
        by_cases he : er = 0
        · subst he
          have hgood := readS_good hok her
          rw [hx, hc] at hgood
          have hcl : c ≤ cs.length := hgood.2.1
          have hxl : x < 18446744073709551616 := hgood.2.2.1
          have HST := Lib.hid (H.out.st.next0 her)
          rw [hx, hc] at HST
          have HRB := Lib.hid (restB H.out.bb hcl)
          have hrr := fun W => run_restAt A cs.length cap c hcl W
          have hA0 := H.out.hA
          have hlx0 := H.out.lt
          clear hgood hok hx hc her
          have HRR := Lib.hid hrr
          clear hrr
          go_wp2_with fail
          refine HRD.out.mono ?_
          rintro e wq ⟨rfl, rfl⟩
          have HI0 : Hid (Inv wq (fun g => g = B + 1) (gh0.set (some 0) (some (B + 1, .cells #[.int .u64 x0, .int .u64 x1] 72 (0, 0)))) wq.drew) := Lib.hid (Inv.start1 hA0)
          clear hA0
          go_wp2_with fail
          apply wp_region_eff _ _ HI0.out (hm := by kernel_rfl)
          case h =>
            (apply SeqF.pure; (focus (first | rfl | (go_simp; done) | (simp [Region.wanted, yielded]; done))); (focus (intro w; go_simp; with_reducible rfl)); go_simp)
            (apply SeqF.pure; (focus (first | rfl | (go_simp; done) | (simp [Region.wanted, yielded]; done))); (focus (intro w; go_simp; with_reducible rfl)); go_simp)
            (apply SeqF.pure; (focus (first | rfl | (go_simp; done) | (simp [Region.wanted, yielded]; done))); (focus (intro w; go_simp; with_reducible rfl)); go_simp)
            (apply SeqF.pure; (focus (first | rfl | (go_simp; done) | (simp [Region.wanted, yielded]; done))); (focus (intro w; go_simp; with_reducible rfl)); go_simp)
            apply SeqF.read (v := .slice (restA A cap c) (cs.length - c) (cap - c)) []
            · (first | rfl | (go_simp; done) | (simp [Region.wanted, yielded]; done))
            · exact fun γ' W hg hI => exec_slice rfl rfl rfl (HRR.out W)
            go_simp
            (apply SeqF.pure; (focus (first | rfl | (go_simp; done) | (simp [Region.wanted, yielded]; done))); (focus (intro w; go_simp; with_reducible rfl)); go_simp)
            apply SeqF.store [0] 0 (B + 1) _ (Gh.set_here _ _ _) (by simp) (fun _ => .cells #[.int .u64 x, .int .u64 x1] 72 (0, 0))
            · exact fun _ _ => rfl
            · (first | rfl | (go_simp; done) | (simp [Region.wanted, yielded]; done))
            · exact fun γ' W hg hI hW => exec_st1 (i := 0) (st_u64 x) rfl rfl rfl (by simp) rfl hW
            go_simp
            (apply SeqF.pure; (focus (first | rfl | (go_simp; done) | (simp [Region.wanted, yielded]; done))); (focus (intro w; go_simp; with_reducible rfl)); go_simp)
            apply SeqF.done
            intro w9 hI9
            have HN : Hid (RE w w9 B bs (cs.drop c) (.slice (restA A cap c) (cs.length - c) (cap - c)) x x1 1) := Lib.hid {
              bb := HRB.out
              hR := (hI9.far B (by have := lt_of_heap H.out.hR; omega) (by omega)).trans H.out.hR
              hA := (hI9.here 0 (B + 1) _ (Gh.set_here _ _ _)).1
              bel := hI9.belowS H.out.bel (by have := lt_of_heap H.out.hR; omega) (fun g hg => by omega)
              st := HST.out
              lt := ⟨hxl, hlx0.2⟩ }
            clear hI9
            generalize Value.slice (restA A cap c) (cs.length - c) (cap - c) = vn at *
            go_simp
            go_wp2_with fail
            go_roundw
            case rel =>
              first
                | exact ⟨1, by omega, by go_num, _, _, _, HN⟩
                | exact ⟨1, by omega, rfl, _, _, _, HN⟩
                | ((repeat apply Exists.intro); refine ⟨?_, rfl⟩; exact ⟨1, by omega, by go_num, _, _, _, HN⟩)
                | ((repeat apply Exists.intro); refine ⟨?_, rfl⟩; exact ⟨1, by omega, rfl, _, _, _, HN⟩)
            case measure => first | (simp [intOf]; done) | (simp [intOf]; omega)
          case hl => rfl
          case ho => kernel_rfl
        · have hei : ¬ (er : Int) = 0 := by omega
          have HE := Lib.hid (H.out.st.err (by omega) (by rw [her]; exact he))
          rw [her, HR.out] at HE
          have hRR := H.out.hR
          have HBL := Lib.hid H.out.bel
          clear hok hx hc her H
          go_wp2_with fail
          refine HRD.out.mono ?_
          rintro e wq ⟨rfl, rfl⟩
          go_wp2_with (first | (with_reducible refine wpList_stB (row := #[.int .u64 0, .int .i64 0, .bool false, .slice none 0 0]) partInfo (by simp [Value.oneCell']) rfl (.tmp 2) (.tmp 21) rfl rfl rfl hRR rfl ?_))
          refine bodyPost_ret (v := .tuple #[.agg #[.int .u64 0, .int .i64 0, .bool false, .slice none 0 0], .int .i64 er]) ?_ rfl ⟨ReadOk.err HE.out _ _, below_setRow HBL.out (by omega) _⟩
          exact results_cs (fn := Try.f16) Try.results16 rfl (run_loadVar_blk partInfo partRow (setRow_heap _ _ _ _ _ _ hRR))
    · as_aux_lemma =>
        obtain ⟨_, _, A, cap, hvb, hRD0, hnc, hlc, hcm⟩ := H.out.bb
        subst hvb
        have HRD := Lib.hid (readuint_any _ cs wr (H.out.bb.below (by rw [hB]; exact H.out.bel)))
        have hok := H.out.bb.ok
        obtain ⟨x, hx⟩ : ∃ x, (readS cs).1 = x := ⟨_, rfl⟩
        obtain ⟨c, hc⟩ : ∃ c, (readS cs).2.1 = c := ⟨_, rfl⟩
        obtain ⟨er, her⟩ : ∃ er, (readS cs).2.2 = er := ⟨_, rfl⟩
        rw [hx, hc, her] at HRD
        clear hRD0 hnc
        by_cases he : er = 0
        · subst he
          have hgood := readS_good hok her
          rw [hx, hc] at hgood
          have hcl : c ≤ cs.length := hgood.2.1
          have hxl : x < 18446744073709551616 := hgood.2.2.1
          have HST := Lib.hid (H.out.st.next1 her)
          rw [hx, hc] at HST
          have HRB := Lib.hid (restB H.out.bb hcl)
          have hrr := fun W => run_restAt A cs.length cap c hcl W
          have hA0 := H.out.hA
          have hlx0 := H.out.lt
          clear hgood hok hx hc her
          have HRR := Lib.hid hrr
          clear hrr
          go_wp2_with fail
          refine HRD.out.mono ?_
          rintro e wq ⟨rfl, rfl⟩
          have HI0 : Hid (Inv wq (fun g => g = B + 1) (gh0.set (some 0) (some (B + 1, .cells #[.int .u64 x0, .int .u64 x1] 72 (0, 0)))) wq.drew) := Lib.hid (Inv.start1 hA0)
          clear hA0
          go_wp2_with fail
          apply wp_region_eff _ _ HI0.out (hm := by kernel_rfl)
          case h =>
            (apply SeqF.pure; (focus (first | rfl | (go_simp; done) | (simp [Region.wanted, yielded]; done))); (focus (intro w; go_simp; with_reducible rfl)); go_simp)
            (apply SeqF.pure; (focus (first | rfl | (go_simp; done) | (simp [Region.wanted, yielded]; done))); (focus (intro w; go_simp; with_reducible rfl)); go_simp)
            (apply SeqF.pure; (focus (first | rfl | (go_simp; done) | (simp [Region.wanted, yielded]; done))); (focus (intro w; go_simp; with_reducible rfl)); go_simp)
            (apply SeqF.pure; (focus (first | rfl | (go_simp; done) | (simp [Region.wanted, yielded]; done))); (focus (intro w; go_simp; with_reducible rfl)); go_simp)
            apply SeqF.read (v := .slice (restA A cap c) (cs.length - c) (cap - c)) []
            · (first | rfl | (go_simp; done) | (simp [Region.wanted, yielded]; done))
            · exact fun γ' W hg hI => exec_slice rfl rfl rfl (HRR.out W)
            go_simp
            (apply SeqF.pure; (focus (first | rfl | (go_simp; done) | (simp [Region.wanted, yielded]; done))); (focus (intro w; go_simp; with_reducible rfl)); go_simp)
            apply SeqF.store [0] 0 (B + 1) _ (Gh.set_here _ _ _) (by simp) (fun _ => .cells #[.int .u64 x0, .int .u64 x] 72 (0, 0))
            · exact fun _ _ => rfl
            · (first | rfl | (go_simp; done) | (simp [Region.wanted, yielded]; done))
            · exact fun γ' W hg hI hW => exec_st1 (i := 1) (st_u64 x) rfl rfl rfl (by simp) rfl hW
            go_simp
            (apply SeqF.pure; (focus (first | rfl | (go_simp; done) | (simp [Region.wanted, yielded]; done))); (focus (intro w; go_simp; with_reducible rfl)); go_simp)
            apply SeqF.done
            intro w9 hI9
            have HN : Hid (RE w w9 B bs (cs.drop c) (.slice (restA A cap c) (cs.length - c) (cap - c)) x0 x 2) := Lib.hid {
              bb := HRB.out
              hR := (hI9.far B (by have := lt_of_heap H.out.hR; omega) (by omega)).trans H.out.hR
              hA := (hI9.here 0 (B + 1) _ (Gh.set_here _ _ _)).1
              bel := hI9.belowS H.out.bel (by have := lt_of_heap H.out.hR; omega) (fun g hg => by omega)
              st := HST.out
              lt := ⟨hlx0.1, hxl⟩ }
            clear hI9
            generalize Value.slice (restA A cap c) (cs.length - c) (cap - c) = vn at *
            go_simp
            go_wp2_with fail
            go_roundw
            case rel =>
              first
                | exact ⟨2, by omega, by go_num, _, _, _, HN⟩
                | exact ⟨2, by omega, rfl, _, _, _, HN⟩
                | ((repeat apply Exists.intro); refine ⟨?_, rfl⟩; exact ⟨2, by omega, by go_num, _, _, _, HN⟩)
                | ((repeat apply Exists.intro); refine ⟨?_, rfl⟩; exact ⟨2, by omega, rfl, _, _, _, HN⟩)
            case measure => first | (simp [intOf]; done) | (simp [intOf]; omega)
          case hl => rfl
          case ho => kernel_rfl
        · have hei : ¬ (er : Int) = 0 := by omega
          have HE := Lib.hid (H.out.st.err (by omega) (by rw [her]; exact he))
          rw [her, HR.out] at HE
          have hRR := H.out.hR
          have HBL := Lib.hid H.out.bel
          clear hok hx hc her H
          go_wp2_with fail
          refine HRD.out.mono ?_
          rintro e wq ⟨rfl, rfl⟩
          go_wp2_with (first | (with_reducible refine wpList_stB (row := #[.int .u64 0, .int .i64 0, .bool false, .slice none 0 0]) partInfo (by simp [Value.oneCell']) rfl (.tmp 2) (.tmp 21) rfl rfl rfl hRR rfl ?_))
          refine bodyPost_ret (v := .tuple #[.agg #[.int .u64 0, .int .i64 0, .bool false, .slice none 0 0], .int .i64 er]) ?_ rfl ⟨ReadOk.err HE.out _ _, below_setRow HBL.out (by omega) _⟩
          exact results_cs (fn := Try.f16) Try.results16 rfl (run_loadVar_blk partInfo partRow (setRow_heap _ _ _ _ _ _ hRR))
    · as_aux_lemma =>
        obtain ⟨n, hn⟩ : ∃ n, min (x1 / 2) 256 = n := ⟨_, rfl⟩
        obtain ⟨b, hb⟩ : ∃ b, (x1 % 2 == 1) = b := ⟨_, rfl⟩
        have HST := Lib.hid H.out.st.done
        rw [hn, hb, HR.out] at HST
        have hlx := H.out.lt
        have hand : bits .and .u64 (x1 : Int) 1 = ((x1 % 2 : Nat) : Int) := and1u x1 hlx.2
        obtain ⟨q, hq⟩ : ∃ q, x1 / 2 = q := ⟨_, rfl⟩
        rw [hq] at hn
        have hqi : (x1 : Int) / 2 = (q : Int) := by omega
        have hn1 : (if (256 : Int) < (q : Int) then (256 : Int) else (q : Int)) = (n : Int) := by split <;> omega
        have hn2 : (if 256 < q then (256 : Int) else (q : Int)) = (n : Int) := by split <;> omega
        have hn3 : (if (q : Int) < (256 : Int) then (q : Int) else (256 : Int)) = (n : Int) := by split <;> omega
        have hn4 : (if q < 256 then (q : Int) else (256 : Int)) = (n : Int) := by split <;> omega
        have hwn : IntKind.i64.wrap (n : Int) = (n : Int) := IntWalk.i64_in _ (by omega)
        have hbi : (((x1 % 2 : Nat) : Int) == 1) = b := by
          rw [← hb, Bool.eq_iff_iff]
          simp only [beq_iff_eq]
          omega
        have hbj : ((x1 : Int) % 2 == 1) = b := by
          rw [← hb, Bool.eq_iff_iff]
          simp only [beq_iff_eq]
          omega
        clear hn hb hq
        have HB := Lib.hid (H.out.bb)
        have HBR := Lib.hid (H.out.bb.below (by rw [hB]; exact H.out.bel))
        obtain ⟨_, _, A, cap, hvb, _⟩ := H.out.bb
        have HVB := Lib.hid hvb
        clear hvb
        go_wp2_with fail
        apply wp_region_effT _ _ (Inv.start0 wr fun _ => False) (hm := by kernel_rfl)
        case h =>
          (apply SeqF.pure; (focus (first | rfl | (go_simp; done) | (simp [Region.wanted, yielded]; done))); (focus (intro w; go_simp; with_reducible rfl)); go_simp)
          apply SeqF.read (v := .int .u64 x0) []
          · (first | rfl | (go_simp; done) | (simp [Region.wanted, yielded]; done))
          · intro γ' W hg hI
            have d0 : W.cell? ⟨B + 1, 0, none⟩ = some (.int .u64 x0) := (cell_of_row _ _ _ _ _ _ ((hI.far (B + 1) (lt_of_heap H.out.hA) (fun h => h)).trans H.out.hA)).trans rfl
            go_simp
          go_simp
          (apply SeqF.pure; (focus (first | rfl | (go_simp; done) | (simp [Region.wanted, yielded]; done))); (focus (intro w; go_simp; with_reducible rfl)); go_simp)
          apply SeqF.read (v := .int .u64 x1) []
          · (first | rfl | (go_simp; done) | (simp [Region.wanted, yielded]; done))
          · intro γ' W hg hI
            have d0 : W.cell? ⟨B + 1, 1, none⟩ = some (.int .u64 x1) := (cell_of_row _ _ _ _ _ _ ((hI.far (B + 1) (lt_of_heap H.out.hA) (fun h => h)).trans H.out.hA)).trans rfl
            go_simp
          go_simp
          (apply SeqF.pure; (focus (first | rfl | (go_simp; done) | (simp [Region.wanted, yielded]; done))); (focus (intro w; go_simp; with_reducible rfl)); go_simp)
          (apply SeqF.pure; (focus (first | rfl | (go_simp; done) | (simp [Region.wanted, yielded]; done))); (focus (intro w; go_simp; with_reducible rfl)); go_simp)
          (apply SeqF.pure; (focus (first | rfl | (go_simp; done) | (simp [Region.wanted, yielded]; done))); (focus (intro w; go_simp; with_reducible rfl)); go_simp)
          (apply SeqF.pure; (focus (first | rfl | (go_simp; done) | (simp [Region.wanted, yielded]; done))); (focus (intro w; go_simp; with_reducible rfl)); go_simp)
          apply SeqF.read (v := .int .u64 x1) []
          · (first | rfl | (go_simp; done) | (simp [Region.wanted, yielded]; done))
          · intro γ' W hg hI
            have d0 : W.cell? ⟨B + 1, 1, none⟩ = some (.int .u64 x1) := (cell_of_row _ _ _ _ _ _ ((hI.far (B + 1) (lt_of_heap H.out.hA) (fun h => h)).trans H.out.hA)).trans rfl
            go_simp
          go_simp
          (apply SeqF.pure; (focus (first | rfl | (go_simp; done) | (simp [Region.wanted, yielded]; done))); (focus (intro w; go_simp; with_reducible rfl)); go_simp)
          (apply SeqF.pure; (focus (first | rfl | (go_simp; done) | (simp [Region.wanted, yielded]; done))); (focus (intro w; go_simp; with_reducible rfl)); go_simp)
          (apply SeqF.pure; (focus (first | rfl | (go_simp; done) | (simp [Region.wanted, yielded]; done))); (focus (intro w; go_simp; with_reducible rfl)); go_simp)
          apply SeqF.callNew [] 1 5 1 cs.length (cs.map (Value.int .u8)) 25 #[u0]
          · (first | rfl | (go_simp; done) | (simp [Region.wanted, yielded]; done))
          · intro w; kernel_rfl
          · exact fun γ' U _ hI => clone_bytes u0 cs U (HBR.out.inv hI (fun _ _ _ h => h))
          intro v1 xr hv1 hn1
          obtain rfl := hv1.val (by decide)
          obtain ⟨A1, c1, hf1⟩ := hv1.form
          have HF1 := Lib.hid hf1
          clear hf1
          go_simp
          apply SeqF.dyn [1] (fun γ => .agg #[.int .u64 x0, .int .i64 n, .bool b, rowVal 1 cs.length (γ 1)])
          · intro γ' hg; simp only [hg 1 (by simp)]
          · (first | rfl | (go_simp; done) | (simp [Region.wanted, yielded]; done))
          · intro γ' V hg hI
            simp only [Gh.set_here]
            rw [HF1.out]
            show _ = _
            kernel_rfl
          simp only [Gh.set_here]
          apply SeqF.new [] 2 (fun g => .pointer (some ⟨g, 0, none⟩)) (fun _ => .cells #[.int .u64 0, .int .i64 0, .bool false, .slice none 0 0] 33 (0, 0))
          · intro γ' _; rfl
          · (first | rfl | (go_simp; done) | (simp [Region.wanted, yielded]; done))
          · intro γ' V hg hI; kernel_rfl
          intro X hX
          go_simp
          apply SeqF.store [1, 2] 2 X (.cells #[.int .u64 0, .int .i64 0, .bool false, .slice none 0 0] 33 (0, 0)) (Gh.set_here _ _ _) (by simp) (fun γ => .cells #[.int .u64 x0, .int .i64 n, .bool b, rowVal 1 cs.length (γ 1)] 33 (0, 0))
          · intro γ' hg; simp only [hg 1 (by simp)]
          · (first | rfl | (go_simp; done) | (simp [Region.wanted, yielded]; done))
          · intro γ' W hg hI hW
            have e1 : ((gh0.set (some 1) xr).set (some 2) (some (X, .cells #[.int .u64 0, .int .i64 0, .bool false, .slice none 0 0] 33 (0, 0)))) 1 = xr := by rw [Gh.set_far _ _ (by decide), Gh.set_here]
            simp only [e1]
            exact ⟨_, exec_store rfl rfl rfl (run_store_part hW rfl rfl (by rw [HF1.out]; simp [Value.oneCell'])), only_setRow hW⟩
          go_simp
          apply SeqF.done
          intro w9 hI9
          have e1 : ((gh0.set (some 1) xr).set (some 2) (some (X, .cells #[.int .u64 0, .int .i64 0, .bool false, .slice none 0 0] 33 (0, 0)))) 1 = xr := by rw [Gh.set_far _ _ (by decide), Gh.set_here]
          have hX9 := (hI9.here 2 X _ (Gh.set_here _ _ _)).1
          simp only [e1] at hX9
          have hsB := lt_of_heap H.out.hA
          have HO9 : Hid (OwB w9 wr.heap.size (rowVal 1 cs.length xr) cs) := Lib.hid (hv1.owns fun g o hgo => ⟨hn1 g o hgo, (hI9.here 1 g o (by rw [Gh.set_far _ _ (by decide), e1]; exact hgo)).1⟩)
          have HL9 : Hid (Below B w w9) := Lib.hid (hI9.belowS H.out.bel (by omega) (fun _ h => h.elim))
          have HR9 : Hid (w9.heap[B]? = some (.cells #[.int .u64 0, .int .i64 0, .bool false, .slice none 0 0] 33 (0, 0))) := Lib.hid ((hI9.far B (by omega) (fun h => h)).trans H.out.hR)
          have hcl := HB.out.len
          have hcok := HB.out.ok
          have HX9 := Lib.hid hX9
          clear hI9 hv1 hn1 hX9 e1
          generalize rowVal 1 cs.length xr = vr at *
          have HBV := Lib.hid (HO9.out.rd hcok hcl)
          have HOC : Hid ((#[.int .u64 x0, .int .i64 n, .bool b, vr] : Array Value).all (·.oneCell') = true) := Lib.hid (by rw [HF1.out]; simp [Value.oneCell'])
          clear HF1
          have HNE : Hid (¬ vr.ownBlock = some B) := Lib.hid (fun e => by have := (HO9.out.own_blk e).1; omega)
          go_simp
          go_wp2_with (with_reducible refine wpList_ldB (row := #[.int .u64 x0, .int .i64 n, .bool b, vr]) partInfo partRow rfl (.tmp 9) rfl rfl HX9.out ?_)
          refine (may_any x0 n b vr cs _ HBV.out).mono ?_
          rintro e wm ⟨rfl, hbm⟩
          have HLm := Lib.hid (bl_then HL9.out (by have := lt_of_heap HR9.out; omega) hbm)
          have HRm := Lib.hid ((hbm.block B (lt_of_heap HR9.out)).trans HR9.out)
          have HXm := Lib.hid ((hbm.block X (lt_of_heap HX9.out)).trans HX9.out)
          have HOm : Hid (OwB wm B vr cs) := Lib.hid ((HO9.out.below hbm).mono (by omega))
          clear hbm HL9 HR9 HX9 HO9 HBV
          cases hm : mayB (n : Int) b cs.length with
          | false =>
            have HF : Hid (r = (8, none)) := Lib.hid (by rw [HST.out, hm]; simp)
            clear hm
            go_wp2_with (first | (with_reducible refine wpList_stB (row := #[.int .u64 0, .int .i64 0, .bool false, .slice none 0 0]) partInfo (by simp [Value.oneCell']) rfl (.tmp 2) (.tmp 47) rfl rfl rfl HRm.out rfl ?_))
            refine bodyPost_ret (v := .tuple #[.agg #[.int .u64 0, .int .i64 0, .bool false, .slice none 0 0], .int .i64 8]) ?_ rfl ⟨ReadOk.err (er := 8) HF.out _ _, below_setRow HLm.out (by omega) _⟩
            exact results_cs (fn := Try.f16) Try.results16 rfl (run_loadVar_blk partInfo partRow (setRow_heap _ _ _ _ _ _ HRm.out))
          | true =>
            have HF : Hid (r = (0, some (x0, n, b, cs))) := Lib.hid (by rw [HST.out, hm]; simp)
            clear hm
            go_wp2_with (first | (with_reducible refine wpList_ldB (row := #[.int .u64 x0, .int .i64 n, .bool b, vr]) partInfo partRow rfl (.tmp 9) rfl rfl HXm.out ?_) | (with_reducible refine wpList_stB (row := #[.int .u64 x0, .int .i64 n, .bool b, vr]) partInfo HOC.out rfl (.tmp 2) (.tmp 48) rfl rfl rfl HRm.out rfl ?_))
            refine bodyPost_ret (v := .tuple #[.agg #[.int .u64 x0, .int .i64 n, .bool b, vr], .int .i64 0]) ?_ rfl ⟨ReadOk.ok HF.out (HOm.out.keep fun g hg hlt => setRow_other _ _ _ _ (fun e => by subst e; exact HNE.out hg)), below_setRow HLm.out (by omega) _⟩
            exact results_cs (fn := Try.f16) Try.results16 rfl (run_loadVar_blk partInfo partRow (setRow_heap _ _ _ _ _ _ HRm.out))
        case hl => rfl
        case ho => kernel_rfl
end Go.Proofs.Ytnhhibdkojgnlaa
