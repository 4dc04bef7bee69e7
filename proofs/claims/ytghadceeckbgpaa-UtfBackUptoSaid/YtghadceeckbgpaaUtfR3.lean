/- What is proved: what a reader's Take answers when it is called; conditions: the reader's block holds what it is said to. -/
import Derived.Test.YtghadceeckbgpaaUtfR2
set_option linter.unusedSimpArgs false
set_option linter.unusedVariables false
namespace Go.Proofs.Ytghadceeckbgpaa
open Go.RowKit
set_option maxRecDepth 100000
set_option maxHeartbeats 4000000
theorem Rdr.put {w : World} {b : Nat} {k0 k1 k2 k3 : Int} {n : Nat} (h : Rdr w b k0 k1 k2 k3 n) (hn : n ≤ 3) (c : Int) (hc : 0 ≤ c ∧ c ≤ 255) :
    ∃ j0 j1 j2 j3, Rdr (w.setCell ⟨b, 1 + n, none⟩ (.int .u8 c)).drew b j0 j1 j2 j3 n ∧ [j0, j1, j2, j3].take (n + 1) = [k0, k1, k2, k3].take n ++ [c] := by
  have hb : (w.setCell ⟨b, 1 + n, none⟩ (.int .u8 c)).heap[b]? = some (.cells (#[.bool true, .int .u8 k0, .int .u8 k1, .int .u8 k2, .int .u8 k3, .int .i64 n].setIfInBounds (1 + n) (.int .u8 c)) 50 (0, 0)) := heap_setCell_same _ _ (1 + n) _ _ _ h.blk
  have hk := h.ok
  have q0 := hk k0 (by simp)
  have q1 := hk k1 (by simp)
  have q2 := hk k2 (by simp)
  have q3 := hk k3 (by simp)
  rcases (by omega : n = 0 ∨ n = 1 ∨ n = 2 ∨ n = 3) with rfl | rfl | rfl | rfl
  · exact ⟨c, k1, k2, k3, ⟨hb, by omega, by simp [okB]; omega⟩, rfl⟩
  · exact ⟨k0, c, k2, k3, ⟨hb, by omega, by simp [okB]; omega⟩, rfl⟩
  · exact ⟨k0, k1, c, k3, ⟨hb, by omega, by simp [okB]; omega⟩, rfl⟩
  · exact ⟨k0, k1, k2, c, ⟨hb, by omega, by simp [okB]; omega⟩, rfl⟩
theorem Rdr.len {w : World} {b : Nat} {k0 k1 k2 k3 : Int} {n : Nat} (h : Rdr w b k0 k1 k2 k3 n) (m : Nat) (hm : m ≤ 4) : Rdr (w.setCell ⟨b, 5, none⟩ (.int .i64 m)) b k0 k1 k2 k3 m :=
  ⟨heap_setCell_same _ _ 5 _ _ _ h.blk, hm, h.ok⟩
theorem grown_drew {w w1 : World} {row : Option Nat} (h : w.grownBy w1 row) : w.grownBy w1.drew row := ⟨h.os, h.tape, h.output, h.size, h.block⟩
theorem Rdr.copied {w : World} {b : Nat} {k0 k1 k2 k3 : Int} {n : Nat} (h : Rdr w b k0 k1 k2 k3 n) (rest : List Int) (hl : rest.length ≤ 3) (hok : okB rest) :
    ∃ j0 j1 j2 j3, Rdr (w.setRow b ((#[.bool true, .int .u8 k0, .int .u8 k1, .int .u8 k2, .int .u8 k3, .int .i64 n] : Array Value).toList.take 1 ++ (rest.map (Value.int .u8) ++ (#[.bool true, .int .u8 k0, .int .u8 k1, .int .u8 k2, .int .u8 k3, .int .i64 n] : Array Value).toList.drop (1 + (rest.map (Value.int .u8)).length))).toArray) b j0 j1 j2 j3 n ∧ [j0, j1, j2, j3].take rest.length = rest := by
  have hk := h.ok
  have q0 := hk k0 (by simp)
  have q1 := hk k1 (by simp)
  have q2 := hk k2 (by simp)
  have q3 := hk k3 (by simp)
  have hs := fun cs => setRow_heap w b _ cs _ (0, 0) h.blk
  have hle := h.le
  match rest, hl, hok with
  | [], _, _ => exact ⟨k0, k1, k2, k3, ⟨hs _, hle, hk⟩, rfl⟩
  | [x], _, hok =>
    have p0 := hok x (by simp)
    exact ⟨x, k1, k2, k3, ⟨hs _, hle, by simp [okB]; omega⟩, rfl⟩
  | [x, y], _, hok =>
    have p0 := hok x (by simp)
    have p1 := hok y (by simp)
    exact ⟨x, y, k2, k3, ⟨hs _, hle, by simp [okB]; omega⟩, rfl⟩
  | [x, y, z], _, hok =>
    have p0 := hok x (by simp)
    have p1 := hok y (by simp)
    have p2 := hok z (by simp)
    exact ⟨x, y, z, k3, ⟨hs _, hle, by simp [okB]; omega⟩, rfl⟩
  | _ :: _ :: _ :: _ :: _, hl, _ => simp at hl
theorem grown_row {w w1 : World} {b : Nat} (h : w.grownBy w1 (some b)) (cs : Array Value) : w.grownBy (w1.setRow b cs) (some b) :=
  ⟨h.os, h.tape, h.output, by rw [size_setRow]; exact h.size, fun k hk hne => by rw [heap_setRow_if, if_neg (fun e => hne (by rw [e]))]; exact h.block k hk hne⟩
theorem OwR.row {w : World} {base b : Nat} {v : Value} {xs : List Int} (h : OwR w base v xs) (hb : b < base) (cs : Array Value) : OwR (w.setRow b cs) base v xs :=
  h.keep fun q hq hlt => by
    have := (World.ownsRow.lt h q hq).1
    rw [heap_setRow_if, if_neg (by omega)]
theorem sz_u8 : (Try.prog.info? 5).map (·.size) = some 1 := by kernel_rfl
theorem BB.src {w : World} {A : Option Addr} {l cap : Nat} {xs : List Int} (h : BB w (.slice A l cap) xs) (hp : 0 < xs.length) : ∃ ad, A = some ad ∧ l = xs.length ∧ ∀ j v, (xs.map (Value.int .u8))[j]? = some v → w.cell? (ad.add j) = some v := by
  obtain ⟨h1, h2, A', cap', e, hr, h3, h4, h5⟩ := h
  simp only [Value.slice.injEq] at e
  obtain ⟨rfl, rfl, rfl⟩ := e
  obtain ⟨b, off, rfl, hc⟩ := hr.2 hp
  refine ⟨_, rfl, rfl, fun j y hj => ?_⟩
  rw [List.getElem?_map, Option.map_eq_some_iff] at hj
  obtain ⟨y, hj, rfl⟩ := hj
  have hjl : j < xs.length := (List.getElem?_eq_some_iff.1 hj).1
  have e2 : (⟨b, off, none⟩ : Addr).add j = ⟨b, off + j, none⟩ := by unfold Addr.add; split <;> simp_all
  rw [e2, hc j hjl, List.getD_eq_getElem?_getD, hj]
  rfl
/-- What a copy into a reader's block has done. -/
structure Keep1 (w w' : World) (b : Nat) (rs : List Int) (n : Nat) : Prop where
  rdr : ∃ j0 j1 j2 j3, Rdr w' b j0 j1 j2 j3 n ∧ [j0, j1, j2, j3].take rs.length = rs
  grown : ∀ w0 : World, w0.grownBy w (some b) → w0.grownBy w' (some b)
  own : ∀ base v xs, b < base → OwR w base v xs → OwR w' base v xs
theorem wpList_copyK {w : World} {ops : Array Oper} {rest : List Oper} {o : Oper} {a : Act} {Q : Exit → Act → World → Prop} {b : Nat} {k0 k1 k2 k3 : Int} {n l cap : Nat} {A : Option Addr} {rs : List Int} (hgd : o.guard = none) (d s : Operand)
    (ho : o.op = .call { callee := .builtin .copy, args := #[d, s], argTypes := #[22, 22] }) (hd : a.eval d = .slice (some ⟨b, 1, none⟩) 4 4) (hs : a.eval s = .slice A l cap)
    (hR : Rdr w b k0 k1 k2 k3 n) (hB : BB w (.slice A l cap) rs) (hl : rs.length ≤ 3)
    (h : ∀ w', Keep1 w w' b rs n → wpList Try.prog ops Q rest (a.put o.dst (goInt rs.length)) w') : wpList Try.prog ops Q (o :: rest) a w := by
  have hll : l = rs.length := by
    obtain ⟨_, _, A', cap', e, _⟩ := hB
    simp only [Value.slice.injEq] at e
    exact e.2.1
  rcases Nat.eq_zero_or_pos rs.length with h0 | h0
  · obtain rfl := List.eq_nil_of_length_eq_zero h0
    refine wpList_copy_nothing hgd d s 22 22 ho 5 Try.underlying22 sz_u8 _ _ 4 4 l cap hd hs (by rw [hll]; rfl) ?_
    exact h w ⟨⟨k0, k1, k2, k3, hR, rfl⟩, fun w0 h => h, fun base v xs _ h => h⟩
  · obtain ⟨ad, rfl, _, hsrc⟩ := hB.src h0
    obtain ⟨i0, i1, i2, i3, hr7, ht7⟩ := hR.copied rs hl hB.ok
    refine wpList_copy_own hgd d s 22 22 ho 5 Try.underlying22 sz_u8 b 1 4 4 ad l cap hd hs _ 50 hR.blk (rs.map (Value.int .u8)) ?_ hsrc ?_ ?_ ?_
    · rw [List.length_map, hll]
      show rs.length = min rs.length 4
      omega
    · simp; omega
    · intro y hy
      obtain ⟨y, _, rfl⟩ := List.mem_map.1 hy
      rfl
    · rw [List.length_map]
      rw [List.length_map] at hr7
      exact h _ ⟨⟨i0, i1, i2, i3, hr7, ht7⟩, fun w0 h => grown_row h _, fun base v xs hb h => h.row hb _⟩
theorem take_any (b : Nat) (c : Int) (ks : List Int) (w : World) (h : Keeps w b ks) (hk : ks.length ≤ 3) (hc : 0 ≤ c ∧ c ≤ 255) : Calls Try.prog 17 #[.pointer (some ⟨b, 0, none⟩), .int .u8 c] w fun e w' => (∃ u, e = .returned u ∧ OwR w' w.heap.size u (tkS (ks ++ [c])).1) ∧ Keeps w' b (tkS (ks ++ [c])).2 ∧ w.grownBy w' (some b) := by
  have HN := Lib.hid (none_some b ks w h)
  have hkl := h.ok.2
  obtain ⟨k0, k1, k2, k3, n, h, rfl⟩ := h
  have hle := h.le
  have hn3 : n ≤ 3 := by simp at hk; omega
  have c5 := h.cells.2
  have f5 := frozen_of_row w b 5 _ _ h.blk
  have fn := frozen_of_row w b (1 + n) _ _ h.blk
  obtain ⟨x, cn⟩ : ∃ x, w.cell? ⟨b, 1 + n, none⟩ = some (.int .u8 x) := by
    have hh := cell_of_row w b (1 + n) _ _ (0, 0) h.blk
    rcases (by omega : n = 0 ∨ n = 1 ∨ n = 2 ∨ n = 3) with rfl | rfl | rfl | rfl
    · exact ⟨k0, hh.trans rfl⟩
    · exact ⟨k1, hh.trans rfl⟩
    · exact ⟨k2, hh.trans rfl⟩
    · exact ⟨k3, hh.trans rfl⟩
  have hbl := h.lt
  have hn0 : (0 : Int) ≤ (n : Int) := by omega
  have hn4 : (n : Int) < 4 := by omega
  have HR := Lib.hid h
  clear h hk hkl hle
  obtain ⟨ls, hls⟩ : ∃ ls, [k0, k1, k2, k3].take n ++ [c] = ls := ⟨_, rfl⟩
  rw [hls]
  have HLS := Lib.hid hls
  clear hls
  go_enter Try.func17, Try.ntmps17
  go_wp2_with fail
  refine HN.out.mono ?_
  rintro e w1 ⟨rfl, rfl⟩
  clear HN
  go_wp2_with fail
  go_region
  obtain ⟨j0, j1, j2, j3, hr1, ht1⟩ := HR.out.put hn3 c hc
  have HG1 := Lib.hid (grown_drew (grown_set (grown_of_below (Below.refl w1.heap.size w1) (some b)) (1 + n) (.int .u8 c)))
  have hsz1 : (w1.setCell ⟨b, 1 + n, none⟩ (.int .u8 c)).drew.heap.size = w1.heap.size := by simp [World.drew]
  generalize (w1.setCell ⟨b, 1 + n, none⟩ (.int .u8 c)).drew = W1 at *
  clear c5 f5 fn cn
  have c5 := hr1.cells.2
  have f5 := frozen_of_row W1 b 5 _ _ hr1.blk
  have HR1 := Lib.hid hr1
  have HT1 := Lib.hid (ht1.trans HLS.out)
  clear hr1 ht1 HR
  go_wp2_with fail
  have hr2 := HR1.out.len (n + 1) (by omega)
  have HG2 := Lib.hid (grown_set HG1.out 5 (.int .i64 ((n + 1 : Nat) : Int)))
  have hnc : ((n : Int) + 1) = ((n + 1 : Nat) : Int) := by omega
  rw [hnc]
  have hsz2 : (W1.setCell ⟨b, 5, none⟩ (.int .i64 ((n + 1 : Nat) : Int))).heap.size = w1.heap.size := by rw [World.size_setCell, hsz1]
  clear c5 f5 HG1 HR1 hsz1
  generalize W1.setCell ⟨b, 5, none⟩ (.int .i64 ((n + 1 : Nat) : Int)) = W2 at *
  generalize hm : n + 1 = m at *
  have hm4 : m ≤ 4 := by omega
  have hm4i : (m : Int) ≤ 4 := by omega
  have hm0 : (0 : Int) ≤ (m : Int) := by omega
  clear hnc
  have hbl2 := hr2.lt
  have HBB := Lib.hid hr2.bytes
  rw [HT1.out] at HBB
  have hlen : ls.length = m := by rw [← HT1.out]; simp; omega
  have HF5 : Hid (∀ W γ', Inv W2 (fun _ => False) γ' W → W.cell? ⟨b, 5, none⟩ = some (.int .i64 m)) := Lib.hid (fun W γ' hI => (World.cell?_of_block (hI.far b hbl2 (fun h => h))).trans hr2.cells.2)
  have HR2 := Lib.hid hr2
  clear hr2 HT1
  subst hlen
  go_wp2_with fail
  apply wp_region_eff (Inv W2 (fun _ => False)) (fun _ => none) (Inv.self _) (hm := by kernel_rfl)
  case h =>
    (apply SeqF.pure; (focus (first | rfl | (go_simp; done) | (simp [Region.wanted, yielded]; done))); (focus (intro w; go_simp; with_reducible rfl)); go_simp)
    (apply SeqF.pure; (focus (first | rfl | (go_simp; done) | (simp [Region.wanted, yielded]; done))); (focus (intro w; go_simp; with_reducible rfl)); go_simp)
    (apply SeqF.pure; (focus (first | rfl | (go_simp; done) | (simp [Region.wanted, yielded]; done))); (focus (intro w; go_simp; with_reducible rfl)); go_simp)
    (apply SeqF.pure; (focus (first | rfl | (go_simp; done) | (simp [Region.wanted, yielded]; done))); (focus (intro w; go_simp; with_reducible rfl)); go_simp)
    (apply SeqF.pure; (focus (first | rfl | (go_simp; done) | (simp [Region.wanted, yielded]; done))); (focus (intro w; go_simp; with_reducible rfl)); go_simp)
    (apply SeqF.pure; (focus (first | rfl | (go_simp; done) | (simp [Region.wanted, yielded]; done))); (focus (intro w; go_simp; with_reducible rfl)); go_simp)
    (apply SeqF.read []; (focus (first | rfl | (go_simp; done) | (simp [Region.wanted, yielded]; done))); (focus (intro γ' W hg hI; have x0 := HF5.out W γ' hI; go_simp; with_reducible rfl)); go_simp)
    (apply SeqF.pure; (focus (first | rfl | (go_simp; done) | (simp [Region.wanted, yielded]; done))); (focus (intro w; go_simp; with_reducible rfl)); go_simp)
    apply SeqF.callNew [] 1 5 1 ls.length (ls.map (Value.int .u8)) 28 #[.slice (some ⟨b, 1, none⟩) ls.length 4]
    · (first | rfl | (go_simp; done) | (simp [Region.wanted, yielded]; done))
    · intro w; kernel_rfl
    · exact fun γ' W _ hI => clone_bytes _ ls W (HBB.out.below hI.belowOf)
    intro v x hv hvn
    obtain rfl := hv.val (by decide)
    have HV := Lib.hid hv
    have HVN := Lib.hid hvn
    clear hv hvn
    go_simp
    apply SeqF.dyn [1] (fun γ => rowVal 1 ls.length (γ 1))
    · intro γ' hg; simp only [hg 1 (by simp)]
    · (first | rfl | (go_simp; done) | (simp [Region.wanted, yielded]; done))
    · intro γ' W hg hI
      simp only [Gh.set_here]
      go_simp
    simp only [Gh.set_here]
    apply SeqF.done
    intro w5 hI
    have HO := Lib.hid (show OwB w5 W2.heap.size (rowVal 1 ls.length x) ls from HV.out.owns (fun g o hgo => ⟨HVN.out g o hgo, (hI.here 1 g o ((Gh.set_here _ _ _).trans hgo)).1⟩))
    have HB := Lib.hid hI.belowOf
    have HR5 := Lib.hid (HR2.out.keep (hI.far b hbl2 (fun h => h)))
    clear hI HV HVN HR2 HF5
    go_simp
    generalize rowVal 1 ls.length x = left at *
    have HL := Lib.hid (HO.out.rd HBB.out.ok (by omega))
    clear HO
    go_wp2_with fail
    go_loopw [5, 6] (fun bv l wr => ∃ (cs rest : List Int), Hid (BB w5 bv rest) ∧ cs.length + rest.length ≤ 4 ∧ Hid (OwR wr w5.heap.size l cs) ∧ Hid (tkS ls = (cs ++ (tkS rest).1, (tkS rest).2)) ∧ Hid (okR cs) ∧ Hid (Below w5.heap.size w5 wr)) (fun bv _ _ => lenOf bv)
    case atStart => exact ⟨[], ls, HL, by simpa using hm4, Lib.hid (OwR.nil _ _), Lib.hid rfl, Lib.hid okR.nil, Lib.hid (Below.refl _ _)⟩
    case round =>
      obtain ⟨cs, rest, HRs, hl, HO, HC, HOK, HBr⟩ := hrel
      have hbw : b < w5.heap.size := HR5.out.lt
      obtain ⟨A, cap, rfl⟩ : ∃ A cap, u5 = .slice A rest.length cap := by
        obtain ⟨_, _, A, cap, e1, _⟩ := HRs.out
        exact ⟨A, cap, e1⟩
      by_cases hp : 0 < rest.length
      · have hnb := nextS_b rest false hp
        have hnc := nextS_c rest false HRs.out.ok hp
        have HNX := Lib.hid (next_any _ rest false wr (HRs.out.below HBr.out) hp)
        by_cases hn : (nextS rest false).2 = 0
        · have HT := Lib.hid (tkS_stop (l := rest) (fun h => h.2 hn))
          have hwl := wait_len hp hn
          rw [hn] at HNX
          generalize (nextS rest false).1 = c1 at *
          go_wp2_with fail
          refine HNX.out.mono ?_
          rintro e w6 ⟨rfl, hb⟩
          have HO6 := Lib.hid (HO.out.below hb)
          have HB6 := Lib.hid (bl_then HBr.out HBr.out.size hb)
          have HR6 := Lib.hid (HR5.out.keep (HB6.out.block b hbw))
          clear hb HNX HO HBr
          have HB6s := Lib.hid (HRs.out.below HB6.out)
          have HT2 := Lib.hid (HC.out.trans (by rw [HT.out, List.append_nil]))
          (go_wp2_with (with_reducible refine wpList_copyK rfl (.tmp 57) (.tmp 58) rfl rfl rfl HR6.out HB6s.out (by omega) ?_); intro w7 hk7; obtain ⟨i0, i1, i2, i3, hr7, ht7⟩ := hk7.rdr; have HK7 := Lib.hid hk7; have c57 := hr7.cells.2; have f57 := frozen_of_row w7 b 5 _ _ hr7.blk; have HR7 := Lib.hid hr7; have HT7 := Lib.hid ht7; clear hk7 hr7 ht7; go_wp2_with fail; go_ret; have hws := HB.out.size; rw [HT2.out]; exact ⟨⟨_, rfl, ((HK7.out.own _ _ _ hbw HO6.out).set hbw _ _).mono (by omega)⟩, ⟨i0, i1, i2, i3, rest.length, HR7.out.len _ (by omega), HT7.out.symm⟩, grown_set (HK7.out.grown _ (grown_below HG2.out (bl_then HB.out hws HB6.out))) _ _⟩)
        · have HDC := Lib.hid (tkS_next hp hn)
          have hrr := fun W => run_restAt A rest.length cap (nextS rest false).2 hnb.1 W
          have HRR := Lib.hid (HRs.out.rest hp hnb.1)
          have hln : rest.length - (nextS rest false).2 < rest.length := by omega
          have hnl := hnb.1
          have hne : ¬ (((nextS rest false).2 : Int) = 0) := by omega
          clear hnb hn
          generalize (nextS rest false).1 = c1 at *
          generalize (nextS rest false).2 = n1 at *
          have HRRn := Lib.hid hrr
          clear hrr
          go_wp2_with fail
          refine HNX.out.mono ?_
          rintro e w6 ⟨rfl, hb⟩
          have HO1 := Lib.hid (HO.out.below hb)
          have HB1 := Lib.hid (bl_then HBr.out HBr.out.size hb)
          clear hb HNX HO HBr
          obtain ⟨x, hx, hI0, hxo⟩ := Inv.beginsR HO1.out
          have HX := Lib.hid hx
          have HXO := Lib.hid hxo
          clear hx hxo
          have hq1 : (fun k => if k = 1 then x else none : Gh) 1 = x := if_pos rfl
          generalize (fun k => if k = 1 then x else none : Gh) = γ0 at hI0 hq1
          have HI0 := Lib.hid hI0
          clear hI0
          go_wp2_with fail
          apply wp_region_eff (Inv w6 (fun g => u6.ownBlock = some g)) γ0 HI0.out (hm := by kernel_rfl)
          case h =>
            (apply SeqF.pure; (focus (first | rfl | (go_simp; done) | (simp [Region.wanted, yielded]; done))); (focus (intro w; go_simp; with_reducible rfl)); go_simp)
            (apply SeqF.pure; (focus (first | rfl | (go_simp; done) | (simp [Region.wanted, yielded]; done))); (focus (intro w; go_simp; with_reducible rfl)); go_simp)
            apply SeqF.new [] 2 (fun g => .slice (some ⟨g, 0, none⟩) 1 1) (fun _ => .cells #[.int .i32 c1] 21 (0, 0))
            · intro γ' _; rfl
            · (first | rfl | (go_simp; done) | (simp [Region.wanted, yielded]; done))
            · intro γ' W hg hI; kernel_rfl
            intro g hgn
            go_simp
            apply SeqF.appR [1, 2] 1 (by simp) (.tmp 46) (.tmp 48) rfl rfl u6 (.slice (some ⟨g, 0, none⟩) 1 1) cs [c1] (cs ++ [c1]) (by rw [Gh.set_far _ _ (by decide), hq1]; exact HX.out) rfl rfl
            · exact fun γ' W hg hI => RR.lit (hI.here 2 g _ ((hg 2 (by simp)).trans (Gh.set_here _ _ _))).1 (by omega)
            · simp; omega
            · rfl
            intro v9 x9 hx9 hxn9
            obtain rfl := OwX.val hx9 (by decide)
            rw [show (cs ++ [c1]).length = cs.length + 1 by simp] at hx9
            have HX9 := Lib.hid hx9
            have HXN9 := Lib.hid hxn9
            clear hx9 hxn9
            go_simp
            (apply SeqF.pure; (focus (first | rfl | (go_simp; done) | (simp [Region.wanted, yielded]; done))); (focus (intro w; go_simp; with_reducible rfl)); go_simp)
            (apply SeqF.pure; (focus (first | rfl | (go_simp; done) | (simp [Region.wanted, yielded]; done))); (focus (intro w; go_simp; with_reducible rfl)); go_simp)
            apply SeqF.pure (v := .slice (restA A cap n1) (rest.length - n1) (cap - n1))
            · (first | rfl | (go_simp; done) | (simp [Region.wanted, yielded]; done))
            · exact fun W => exec_slice rfl rfl rfl (HRRn.out W)
            go_simp
            apply SeqF.dyn [1] (fun γ => rowVal 1 (cs ++ [c1]).length (γ 1))
            · intro γ' hg; simp only [hg 1 (by simp)]
            · (first | rfl | (go_simp; done) | (simp [Region.wanted, yielded]; done))
            · intro γ' W hg hI
              simp only [Gh.set_here]
              go_simp
            simp only [Gh.set_here]
            (apply SeqF.pure; (focus (first | rfl | (go_simp; done) | (simp [Region.wanted, yielded]; done))); (focus (intro w; go_simp; with_reducible rfl)); go_simp)
            apply SeqF.done
            intro w9 hI9
            have hown9 : ∀ g o, x9 = some (g, o) → u6.ownBlock = some g ∨ w6.heap.size ≤ g := by
              intro g o hgo
              rcases HXN9.out g o hgo with ⟨o', h1⟩ | h1
              · rw [Gh.set_far _ _ (by decide), hq1] at h1
                exact .inl (HXO.out g o' h1)
              · exact .inr h1
            obtain ⟨ho9, hg9⟩ := hI9.endsR (t := 1) (v' := rowVal 1 (cs.length + 1) x9) (ys := cs ++ [c1]) (base := w5.heap.size) (by rw [Gh.set_here]; exact HX9.out) (by intro g o hgo; rw [Gh.set_here] at hgo; exact hown9 g o hgo) HB1.out.size (fun g hg => (World.ownsRow.lt HO1.out g hg).1)
            have HO9 := Lib.hid ho9
            have HB9 := Lib.hid (HB1.out.grown hg9 HB1.out.size (fun q hq => (World.ownsRow.lt HO1.out q hq).1))
            clear hI9 ho9 hg9 hown9
            go_simp
            generalize rowVal 1 (cs.length + 1) x9 = v9 at *
            go_roundw
            case rel =>
              (repeat apply Exists.intro)
              refine ⟨?_, rfl⟩
              refine ⟨cs ++ [c1], rest.drop n1, HRR, by simp; omega, HO9, Lib.hid ?_, Lib.hid (HOK.out.app ?_), HB9⟩
              · rw [HC.out, HDC.out]
                simp
              · intro x hx
                obtain rfl := List.mem_singleton.1 hx
                omega
            case measure => simp only [lenOf, Array.getD]; exact hln
          case hl => rfl
          case ho => kernel_rfl
      · have HT := Lib.hid (tkS_stop (l := rest) (fun h => hp h.1))
        have h0 : ¬ (0 : Int) < (rest.length : Int) := by omega
        have HO6 := HO
        have HB6 := HBr
        have HR6 := Lib.hid (HR5.out.keep (HB6.out.block b hbw))
        have HB6s := Lib.hid (HRs.out.below HB6.out)
        have HT2 := Lib.hid (HC.out.trans (by rw [HT.out, List.append_nil]))
        (go_wp2_with (with_reducible refine wpList_copyK rfl (.tmp 57) (.tmp 58) rfl rfl rfl HR6.out HB6s.out (by omega) ?_); intro w7 hk7; obtain ⟨i0, i1, i2, i3, hr7, ht7⟩ := hk7.rdr; have HK7 := Lib.hid hk7; have c57 := hr7.cells.2; have f57 := frozen_of_row w7 b 5 _ _ hr7.blk; have HR7 := Lib.hid hr7; have HT7 := Lib.hid ht7; clear hk7 hr7 ht7; go_wp2_with fail; go_ret; have hws := HB.out.size; rw [HT2.out]; exact ⟨⟨_, rfl, ((HK7.out.own _ _ _ hbw HO6.out).set hbw _ _).mono (by omega)⟩, ⟨i0, i1, i2, i3, rest.length, HR7.out.len _ (by omega), HT7.out.symm⟩, grown_set (HK7.out.grown _ (grown_below HG2.out (bl_then HB.out hws HB6.out))) _ _⟩)
  case hl => rfl
  case ho => kernel_rfl
end Go.Proofs.Ytghadceeckbgpaa
