/- What is proved: what whole of a joiner answers when it is called; conditions: what the joiner holds is held, each part at most 1024 bytes. -/
import Derived.Test.YtnhhibdkojgnlaaFrag2
set_option linter.unusedSimpArgs false
set_option linter.unusedVariables false
namespace Go.Proofs.Ytnhhibdkojgnlaa
open Go.RowKit
set_option maxRecDepth 100000
set_option maxHeartbeats 4000000
theorem findL_mem {n : Int} {L : List HP} {p : HP} (h : findL n L = some p) : p ∈ L ∧ p.n = n := by
  unfold findL at h
  exact ⟨List.mem_of_find?_eq_some h, by have := List.find?_some h; simpa using this⟩
/-- The bytes of all parts. -/
def wholeF (L : List HP) : Nat → Nat → List Int → Option (List Int)
  | 0, _, _ => none
  | f + 1, n, acc => match findL n L with
    | none => none
    | some p => if p.last then some (acc ++ p.bs) else wholeF L f (n + 1) (acc ++ p.bs)
def prow (id : Int) (p : HP) : Array Value := #[.int .u64 id, .int .i64 p.n, .bool p.last, p.v]
theorem partInfo : (Try.prog.info? 33).map (·.size) = some 4 := by kernel_rfl
theorem partRow : ∃ d, Try.prog.underlying 33 = some d ∧ d.isRow = true := ⟨_, Try.underlying33, rfl⟩
theorem exec_look {o : Oper} {a : Act} {x y : Operand} {id n : Int} {w : World} {M : Nat} {es : Array MapEntry} {k : Nat} {L : List HP} (ho : o.op = .lookup 58 x y true) (hx : a.eval x = .map (some M)) (hy : a.eval y = keyP id n) (hM : w.heap[M]? = some (.map es k)) (h : Ents id es.toList L) :
    (execOp a.eval o).run Try.prog w = .ok (.value (match findL n L with | some p => .tuple #[p.val id, .bool true] | none => .tuple #[partV 0 0 false (.slice none 0 0), .bool false])) w := by
  unfold execOp
  simp only [ho, hx, hy, Sem.run_bind, run_look id n w hM h, Result.andThen_ok]
  rfl
theorem one_slice {w : World} {v : Value} {xs : List Int} (h : BB w v xs) : v.oneCell' = true := by
  obtain ⟨_, _, A, cap, rfl, _⟩ := h
  rfl
theorem run_store_part {w : World} {g : Nat} {old row : Array Value} {t : TypeId} (hg : w.heap[g]? = some (.cells old t (0, 0))) (ho : old.size = 4) (hr : row.size = 4) (h1 : row.all (·.oneCell') = true) : (Instr.storeAt 33 (.pointer (some ⟨g, 0, none⟩)) (.agg row)).run Try.prog w = .ok () (w.setRow g row) :=
  run_store_whole Try.prog 33 t _ (by rw [partInfo, hr]) h1 w g _ hg (by rw [ho, hr])
theorem OwB.own_blk {w : World} {base : Nat} {v : Value} {xs : List Int} (h : OwB w base v xs) {b : Nat} (hv : v.ownBlock = some b) : base ≤ b ∧ b < w.heap.size := by
  obtain ⟨_, ⟨h1, _⟩ | ⟨g, cap, cur, h1, hb, hh, _⟩⟩ := h
  · rw [h1] at hv; cases hv
  · rw [h1] at hv
    obtain rfl : g = b := by simpa [Value.ownBlock] using hv
    exact ⟨hb, lt_of_heap hh⟩
theorem prow_one {w : World} {id : Int} {p : HP} (h : BB w p.v p.bs) : (prow id p).all (·.oneCell') = true := by
  obtain ⟨_, _, A, cap, e, _⟩ := h
  simp [prow, e, Value.oneCell']
theorem whole_any (J M : Nat) (s : JS) (w : World) (h : JW w J M s) (hb : ∀ p ∈ s.L, p.bs.length ≤ 1024) : Calls Try.prog 26 #[.pointer (some ⟨J, 0, none⟩)] w fun e w' => (∃ v, e = .returned (.tuple #[v, .bool (wholeF s.L 256 0 []).isSome]) ∧ OwB w' w.heap.size v ((wholeF s.L 256 0 []).getD [])) ∧ Below w.heap.size w w' := by
  obtain ⟨r, hr⟩ : ∃ r, wholeF s.L 256 0 [] = r := ⟨_, rfl⟩
  rw [hr]
  have HB := Lib.hid hb
  have H := Lib.hid h
  have HR0 := Lib.hid hr
  clear hb h hr
  go_enter Try.func26, Try.ntmps26
  go_wp2_with fail
  go_loopw [8, 4] (fun i v wr => ∃ n : Nat, n ≤ 256 ∧ i = .int .i64 n ∧ ∃ acc, OwB wr w.heap.size v acc ∧ okB acc ∧ acc.length ≤ 1024 * n ∧ Hid (wholeF s.L (256 - n) n acc = r) ∧ Below w.heap.size w wr) (fun i _ _ => 256 - (intOf i).toNat)
  case atStart => exact ⟨0, by omega, rfl, [], OwB.nil _ _, okB.nil, by simp, HR0, Below.refl _ _⟩
  case round =>
    obtain ⟨n, hn, rfl, acc, hacc, hok, hal, HW, hL⟩ := hrel
    clear HR0
    by_cases hn2 : n < 256
    · have hni : (n : Int) < 256 := by omega
      have hn0 : (0 : Int) ≤ (n : Int) := by omega
      obtain ⟨f, hf⟩ : ∃ f, 256 - n = f + 1 := ⟨255 - n, by omega⟩
      have hf2 : f = 256 - (n + 1) := by omega
      rw [hf] at HW
      have HWO := HW.out
      clear HW hf
      have HJ := Lib.hid (H.out.below hL)
      obtain ⟨es, kk, hM, hE⟩ := HJ.out.hM
      obtain ⟨A0, c0, hv⟩ := hacc.slice
      subst hv
      have HA := Lib.hid hacc
      have HL := Lib.hid hL
      cases hfd : findL (n : Int) s.L with
      | none =>
        have HR : Hid (r = none) := Lib.hid (by rw [← HWO]; simp [wholeF, hfd])
        have HX : Hid ((match findL (n : Int) s.L with | some p => Value.tuple #[p.val s.id, .bool true] | none => .tuple #[partV 0 0 false (.slice none 0 0), .bool false]) = .tuple #[.agg #[.int .u64 0, .int .i64 0, .bool false, .slice none 0 0], .bool false]) := Lib.hid (by rw [hfd]; rfl)
        have HO : Hid ((#[.int .u64 0, .int .i64 0, .bool false, .slice none 0 0] : Array Value).all (·.oneCell') = true) := Lib.hid (by simp [Value.oneCell'])
        clear HWO hfd hacc hL
        go_wp2_with fail
        apply wp_region_eff _ _ (Inv.start0 wr fun _ => False) (hm := by kernel_rfl)
        case h =>
          (apply SeqF.pure; (focus (first | rfl | (go_simp; done) | (simp [Region.wanted, yielded]; done))); (focus (intro w; go_simp; with_reducible rfl)); go_simp)
          (apply SeqF.pure; (focus (first | rfl | (go_simp; done) | (simp [Region.wanted, yielded]; done))); (focus (intro w; go_simp; with_reducible rfl)); go_simp)
          (apply SeqF.pure; (focus (first | rfl | (go_simp; done) | (simp [Region.wanted, yielded]; done))); (focus (intro w; go_simp; with_reducible rfl)); go_simp)
          apply SeqF.read (v := .map (some M)) []
          · (first | rfl | (go_simp; done) | (simp [Region.wanted, yielded]; done))
          · intro γ' W hg hI
            have x0 := (HJ.out.below hI.belowOf).cell.1
            go_simp
          go_simp
          (apply SeqF.pure; (focus (first | rfl | (go_simp; done) | (simp [Region.wanted, yielded]; done))); (focus (intro w; go_simp; with_reducible rfl)); go_simp)
          (apply SeqF.pure; (focus (first | rfl | (go_simp; done) | (simp [Region.wanted, yielded]; done))); (focus (intro w; go_simp; with_reducible rfl)); go_simp)
          (apply SeqF.pure; (focus (first | rfl | (go_simp; done) | (simp [Region.wanted, yielded]; done))); (focus (intro w; go_simp; with_reducible rfl)); go_simp)
          apply SeqF.read (v := .int .u64 s.id) []
          · (first | rfl | (go_simp; done) | (simp [Region.wanted, yielded]; done))
          · intro γ' W hg hI
            have x0 := (HJ.out.below hI.belowOf).cell.2.2.1
            go_simp
          go_simp
          (apply SeqF.pure; (focus (first | rfl | (go_simp; done) | (simp [Region.wanted, yielded]; done))); (focus (intro w; go_simp; with_reducible rfl)); go_simp)
          (apply SeqF.pure; (focus (first | rfl | (go_simp; done) | (simp [Region.wanted, yielded]; done))); (focus (intro w; go_simp; with_reducible rfl)); go_simp)
          apply SeqF.read (v := .tuple #[.agg #[.int .u64 0, .int .i64 0, .bool false, .slice none 0 0], .bool false]) []
          · (first | rfl | (go_simp; done) | (simp [Region.wanted, yielded]; done))
          · intro γ' W hg hI
            rw [← HX.out]
            exact exec_look rfl rfl rfl ((hI.far M (lt_of_heap hM) id).trans hM) hE
          go_simp
          (apply SeqF.pure; (focus (first | rfl | (go_simp; done) | (simp [Region.wanted, yielded]; done))); (focus (intro w; go_simp; with_reducible rfl)); go_simp)
          (apply SeqF.pure; (focus (first | rfl | (go_simp; done) | (simp [Region.wanted, yielded]; done))); (focus (intro w; go_simp; with_reducible rfl)); go_simp)
          (apply SeqF.pure; (focus (first | rfl | (go_simp; done) | (simp [Region.wanted, yielded]; done))); (focus (intro w; go_simp; with_reducible rfl)); go_simp)
          apply SeqF.new [] 0 (fun g => .pointer (some ⟨g, 0, none⟩)) (fun _ => .cells #[.int .u64 0, .int .i64 0, .bool false, .slice none 0 0] 33 (0, 0))
          · intro γ' _; rfl
          · (first | rfl | (go_simp; done) | (simp [Region.wanted, yielded]; done))
          · intro γ' V hg hI; kernel_rfl
          intro X hX
          go_simp
          apply SeqF.store [0] 0 X (.cells #[.int .u64 0, .int .i64 0, .bool false, .slice none 0 0] 33 (0, 0)) (Gh.set_here _ _ _) (by simp) (fun _ => .cells #[.int .u64 0, .int .i64 0, .bool false, .slice none 0 0] 33 (0, 0))
          · exact fun _ _ => rfl
          · (first | rfl | (go_simp; done) | (simp [Region.wanted, yielded]; done))
          · exact fun γ' W hg hI hW => ⟨_, exec_store rfl rfl rfl (run_store_part hW rfl rfl HO.out), only_setRow hW⟩
          go_simp
          (apply SeqF.pure; (focus (first | rfl | (go_simp; done) | (simp [Region.wanted, yielded]; done))); (focus (intro w; go_simp; with_reducible rfl)); go_simp)
          apply SeqF.done
          intro w9 hI9
          have HL9 := Lib.hid (hI9.belowS HL.out HL.out.size (by rintro g h; cases h))
          clear hI9 HX
          go_simp
          go_wp2_with fail
          refine bodyPost_ret (v := .tuple #[.slice none 0 0, .bool false]) (by simp [results, Try.results26, go_sem]) rfl ⟨⟨.slice none 0 0, by rw [HR.out]; rfl, by rw [HR.out]; exact OwB.nil _ _⟩, HL9.out⟩
        case hl => rfl
        case ho => kernel_rfl
      | some p =>
        have hmem := findL_mem hfd
        have hbb := (HJ.out.hP p hmem.1).1
        have HBB := Lib.hid hbb
        have HBL := Lib.hid (HB.out p hmem.1)
        have HO : Hid ((#[.int .u64 s.id, .int .i64 p.n, .bool p.last, p.v] : Array Value).all (·.oneCell') = true) := Lib.hid (prow_one hbb)
        have HX : Hid ((match findL (n : Int) s.L with | some p => Value.tuple #[p.val s.id, .bool true] | none => .tuple #[partV 0 0 false (.slice none 0 0), .bool false]) = .tuple #[.agg #[.int .u64 s.id, .int .i64 p.n, .bool p.last, p.v], .bool true]) := Lib.hid (by rw [hfd]; rfl)
        have HW2 : Hid ((if p.last then some (acc ++ p.bs) else wholeF s.L f (n + 1) (acc ++ p.bs)) = r) := Lib.hid (by rw [← HWO]; simp [wholeF, hfd])
        clear HWO hfd hacc hL hmem hbb
        go_wp2_with fail
        apply wp_region_eff _ _ (Inv.start0 wr fun _ => False) (hm := by kernel_rfl)
        case h =>
          (apply SeqF.pure; (focus (first | rfl | (go_simp; done) | (simp [Region.wanted, yielded]; done))); (focus (intro w; go_simp; with_reducible rfl)); go_simp)
          (apply SeqF.pure; (focus (first | rfl | (go_simp; done) | (simp [Region.wanted, yielded]; done))); (focus (intro w; go_simp; with_reducible rfl)); go_simp)
          (apply SeqF.pure; (focus (first | rfl | (go_simp; done) | (simp [Region.wanted, yielded]; done))); (focus (intro w; go_simp; with_reducible rfl)); go_simp)
          apply SeqF.read (v := .map (some M)) []
          · (first | rfl | (go_simp; done) | (simp [Region.wanted, yielded]; done))
          · intro γ' W hg hI
            have x0 := (HJ.out.below hI.belowOf).cell.1
            go_simp
          go_simp
          (apply SeqF.pure; (focus (first | rfl | (go_simp; done) | (simp [Region.wanted, yielded]; done))); (focus (intro w; go_simp; with_reducible rfl)); go_simp)
          (apply SeqF.pure; (focus (first | rfl | (go_simp; done) | (simp [Region.wanted, yielded]; done))); (focus (intro w; go_simp; with_reducible rfl)); go_simp)
          (apply SeqF.pure; (focus (first | rfl | (go_simp; done) | (simp [Region.wanted, yielded]; done))); (focus (intro w; go_simp; with_reducible rfl)); go_simp)
          apply SeqF.read (v := .int .u64 s.id) []
          · (first | rfl | (go_simp; done) | (simp [Region.wanted, yielded]; done))
          · intro γ' W hg hI
            have x0 := (HJ.out.below hI.belowOf).cell.2.2.1
            go_simp
          go_simp
          (apply SeqF.pure; (focus (first | rfl | (go_simp; done) | (simp [Region.wanted, yielded]; done))); (focus (intro w; go_simp; with_reducible rfl)); go_simp)
          (apply SeqF.pure; (focus (first | rfl | (go_simp; done) | (simp [Region.wanted, yielded]; done))); (focus (intro w; go_simp; with_reducible rfl)); go_simp)
          apply SeqF.read (v := .tuple #[.agg #[.int .u64 s.id, .int .i64 p.n, .bool p.last, p.v], .bool true]) []
          · (first | rfl | (go_simp; done) | (simp [Region.wanted, yielded]; done))
          · intro γ' W hg hI
            rw [← HX.out]
            exact exec_look rfl rfl rfl ((hI.far M (lt_of_heap hM) id).trans hM) hE
          go_simp
          (apply SeqF.pure; (focus (first | rfl | (go_simp; done) | (simp [Region.wanted, yielded]; done))); (focus (intro w; go_simp; with_reducible rfl)); go_simp)
          (apply SeqF.pure; (focus (first | rfl | (go_simp; done) | (simp [Region.wanted, yielded]; done))); (focus (intro w; go_simp; with_reducible rfl)); go_simp)
          (apply SeqF.pure; (focus (first | rfl | (go_simp; done) | (simp [Region.wanted, yielded]; done))); (focus (intro w; go_simp; with_reducible rfl)); go_simp)
          apply SeqF.new [] 0 (fun g => .pointer (some ⟨g, 0, none⟩)) (fun _ => .cells #[.int .u64 0, .int .i64 0, .bool false, .slice none 0 0] 33 (0, 0))
          · intro γ' _; rfl
          · (first | rfl | (go_simp; done) | (simp [Region.wanted, yielded]; done))
          · intro γ' V hg hI; kernel_rfl
          intro X hX
          go_simp
          apply SeqF.store [0] 0 X (.cells #[.int .u64 0, .int .i64 0, .bool false, .slice none 0 0] 33 (0, 0)) (Gh.set_here _ _ _) (by simp) (fun _ => .cells #[.int .u64 s.id, .int .i64 p.n, .bool p.last, p.v] 33 (0, 0))
          · exact fun _ _ => rfl
          · (first | rfl | (go_simp; done) | (simp [Region.wanted, yielded]; done))
          · exact fun γ' W hg hI hW => ⟨_, exec_store rfl rfl rfl (run_store_part hW rfl rfl HO.out), only_setRow hW⟩
          go_simp
          (apply SeqF.pure; (focus (first | rfl | (go_simp; done) | (simp [Region.wanted, yielded]; done))); (focus (intro w; go_simp; with_reducible rfl)); go_simp)
          apply SeqF.done
          intro w9 hI9
          have hX9 := (hI9.here 0 X _ (Gh.set_here _ _ _)).1
          have HB9 := Lib.hid hI9.belowOf
          have HL9 := Lib.hid (hI9.belowS HL.out HL.out.size (by rintro g h; cases h))
          have c3 : w9.cell? ⟨X, 3, none⟩ = some p.v := (cell_of_row _ _ _ _ _ _ hX9).trans rfl
          clear hI9 HX HO
          go_simp
          go_wp2_with (at_builtin; refine wpList_appB (base := w.heap.size) rfl _ _ rfl (.slice A0 acc.length c0) p.v acc p.bs rfl ?_ rfl ?_ ?_ ?_ ?_)
          · exact HA.out.below HB9.out
          · exact HBB.out.below HB9.out
          · have := HBL.out; omega
          · exact HL9.out.size
          · intro v' w' h1 h2 h3
            have hXb : w'.heap[X]? = w9.heap[X]? := h2.block X (lt_of_heap hX9) (by
              intro e
              have := (HA.out.own_blk e.symm).2
              omega)
            have c2 : w'.cell? ⟨X, 2, none⟩ = some (.bool p.last) := (cell_of_row _ _ _ _ _ _ (hXb.trans hX9)).trans rfl
            have HL2 := Lib.hid (HL9.out.grown h2 HL9.out.size (fun k hk => (HA.out.own_blk hk).1))
            have H1 := Lib.hid h1
            clear hXb c3 hX9 h1 h2 h3
            cases hpl : p.last
            · rw [hpl] at c2
              have HW3 : Hid (wholeF s.L (256 - (n + 1)) (n + 1) (acc ++ p.bs) = r) := Lib.hid (by rw [← HW2.out, hpl, hf2]; rfl)
              have hok2 : okB (acc ++ p.bs) := hok.app HBB.out.ok
              have hal2 : (acc ++ p.bs).length ≤ 1024 * (n + 1) := by have := HBL.out; rw [List.length_append]; omega
              obtain ⟨A1, c1, hv1⟩ := H1.out.slice
              subst hv1
              clear HW2 hpl hok hal
              go_wp2_with fail
              go_roundw
              case rel =>
                first
                  | exact ⟨n + 1, by omega, by go_num, _, H1.out, hok2, hal2, HW3, HL2.out⟩
                  | ((repeat apply Exists.intro); refine ⟨?_, rfl⟩; exact ⟨n + 1, by omega, by go_num, _, H1.out, hok2, hal2, HW3, HL2.out⟩)
              case measure => first | (simp [intOf]; done) | (simp [intOf]; omega)
            · rw [hpl] at c2
              have HR : Hid (r = some (acc ++ p.bs)) := Lib.hid (by rw [← HW2.out, hpl]; rfl)
              obtain ⟨A1, c1, hv1⟩ := H1.out.slice
              subst hv1
              clear HW2 hpl
              go_wp2_with fail
              refine bodyPost_ret (v := .tuple #[.slice A1 (acc ++ p.bs).length c1, .bool true]) (by simp [results, Try.results26, go_sem]) rfl ⟨⟨.slice A1 (acc ++ p.bs).length c1, by rw [HR.out]; rfl, by rw [HR.out]; exact H1.out⟩, HL2.out⟩
        case hl => rfl
        case ho => kernel_rfl
    · obtain rfl : n = 256 := by omega
      have HR : Hid (r = none) := Lib.hid (by rw [← HW.out]; rfl)
      obtain ⟨A0, c0, hv⟩ := hacc.slice
      subst hv
      clear HW
      go_wp2_with fail
      refine bodyPost_ret (v := .tuple #[.slice none 0 0, .bool false]) (by simp [results, Try.results26, go_sem]) rfl ⟨⟨.slice none 0 0, by rw [HR.out]; rfl, by rw [HR.out]; exact OwB.nil _ _⟩, hL⟩
end Go.Proofs.Ytnhhibdkojgnlaa
